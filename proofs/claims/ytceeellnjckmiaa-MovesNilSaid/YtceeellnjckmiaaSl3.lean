/- A small logic over the fenced walk: what cells read as. -/
import Derived.Test.YtceeellnjckmiaaSl2
set_option linter.unusedVariables false
set_option linter.unusedSimpArgs false
namespace Go.Sl
open Go Go.RowKit

theorem add_add (a : Addr) (i j : Nat) : (a.add i).add j = a.add (i + j) := by
  unfold Addr.add
  by_cases hi : i = 0 <;> by_cases hj : j = 0 <;> simp [hi, hj, Nat.add_assoc]
theorem add_block (a : Addr) (i : Nat) : (a.add i).block = a.block := by unfold Addr.add; split <;> rfl
theorem add_zero_ (a : Addr) : a.add 0 = a := by simp [Addr.add]
theorem add_g (g i j : Nat) : (⟨g, i, none⟩ : Addr).add j = ⟨g, i + j, none⟩ := by unfold Addr.add; split <;> simp_all

/-- From ad on lie these cells. -/
def CellsAt (w : World) (ad : Addr) (es : List Value) : Prop := ∀ j v, es[j]? = some v → w.cell? (ad.add j) = some v
theorem CellsAt.cell {w : World} {ad : Addr} {es : List Value} (h : CellsAt w ad es) (j : Nat) {v : Value} (hv : es[j]? = some v) : w.cell? (ad.add j) = some v := h j v hv
theorem cell_block {w : World} {a : Addr} {v : Value} (h : w.cell? a = some v) : a.block < w.heap.size := by
  unfold World.cell? at h
  rcases Nat.lt_or_ge a.block w.heap.size with hl | hl
  · exact hl
  · rw [Array.getElem?_eq_none hl] at h
    cases h
theorem cell_same {w w' : World} {a : Addr} (h : w'.heap[a.block]? = w.heap[a.block]?) : w'.cell? a = w.cell? a := by simp [World.cell?, h]
theorem CellsAt.keep {w w' : World} {ad : Addr} {es : List Value} (h : CellsAt w ad es) (hk : ∀ b, b < w.heap.size → w'.heap[b]? = w.heap[b]?) : CellsAt w' ad es := fun j v hv => by
  have := h j v hv
  exact (cell_same (hk _ (cell_block this))).trans this
theorem CellsAt.sub {w : World} {ad : Addr} {es : List Value} (h : CellsAt w ad es) (i n : Nat) : CellsAt w (ad.add i) ((es.drop i).take n) := fun j v hv => by
  rw [add_add]
  refine h _ v ?_
  rw [List.getElem?_take] at hv
  split at hv
  · rwa [List.getElem?_drop] at hv
  · cases hv
theorem CellsAt.of_blk {w : World} {g : Nat} {cs : Array Value} {t : TypeId} {fr : Nat × Nat} (h : w.heap[g]? = some (.cells cs t fr)) : CellsAt w ⟨g, 0, none⟩ cs.toList := fun j v hv => by
  rw [add_g, Nat.zero_add]
  simp only [World.cell?, h]
  simpa using hv

/-- A kind of data: how many cells it has, and what they read as. -/
structure Ty (α : Type) where
  sz : Nat
  rd : World → List Value → α → Prop
  pos : 0 < sz
  len : ∀ {w cs x}, rd w cs x → cs.length = sz
  one : ∀ {w cs x}, rd w cs x → ∀ v ∈ cs, v.oneCell' = true
  st : ∀ {w w' : World} {cs x}, (∀ b, b < w.heap.size → w'.heap[b]? = w.heap[b]?) → rd w cs x → rd w' cs x
/-- These cells read as x in whatever world in which the blocks of F lie as in W. -/
def RdF {α : Type} (d : Ty α) (W : World) (F : Nat → Prop) (cs : List Value) (x : α) : Prop := ∀ w : World, (∀ b, F b → w.heap[b]? = W.heap[b]?) → d.rd w cs x
section
variable {α : Type} {d : Ty α} {W W' w w0 : World} {F F' : Nat → Prop} {cs : List Value} {x : α} {L : Hp} {k : Nat}
theorem RdF.here (h : RdF d W F cs x) : d.rd W cs x := h W fun _ _ => rfl
theorem RdF.mono (h : RdF d W F cs x) (hF : ∀ b, F b → F' b) : RdF d W F' cs x := fun w hw => h w fun b hb => hw b (hF b hb)
theorem RdF.at_ (h : RdF d W F cs x) (hw : ∀ b, F b → W'.heap[b]? = W.heap[b]?) : RdF d W' F cs x := fun w hw' => h w fun b hb => (hw' b hb).trans (hw b hb)
theorem RdF.of_rd (h : d.rd w cs x) : RdF d w (lt_ w) cs x := fun _ hw => d.st hw h
theorem RdF.len (h : RdF d W F cs x) : cs.length = d.sz := d.len h.here
/-- What is told so reads so now. -/
theorem St.rd (hS : St w0 w L) (k : Nat) (hl : look L k = some (fz W F)) (h : RdF d W F cs x) : d.rd w cs x := h w (hS.get hl)
/-- .. and its blocks lie where they lay: the same, told from now on. -/
theorem St.rdF (hS : St w0 w L) (k : Nat) (hl : look L k = some (fz W F)) (h : RdF d W F cs x) : RdF d w F cs x := h.at_ (hS.get hl)
end

/-! ### The kinds -/
def InR (n : Int) : Prop := -9223372036854775808 ≤ n ∧ n ≤ 9223372036854775807
def tI : Ty Int := { sz := 1, pos := Nat.one_pos, rd := fun _ cs x => cs = [.int .i64 x] ∧ InR x, len := fun h => by rw [h.1]; rfl, one := fun h v hv => by rw [h.1] at hv; simp at hv; subst hv; rfl, st := fun _ h => h }
def tB : Ty Bool := { sz := 1, pos := Nat.one_pos, rd := fun _ cs x => cs = [.bool x], len := fun h => by rw [h]; rfl, one := fun h v hv => by rw [h] at hv; simp at hv; subst hv; rfl, st := fun _ h => h }
def tU8 : Ty Nat := { sz := 1, pos := Nat.one_pos, rd := fun _ cs x => cs = [.int .u8 x] ∧ x < 256, len := fun h => by rw [h.1]; rfl, one := fun h v hv => by rw [h.1] at hv; simp at hv; subst hv; rfl, st := fun _ h => h }
def tS : Ty ByteArray := { sz := 1, pos := Nat.one_pos, rd := fun _ cs x => cs = [.string x] ∧ x.size ≤ 140737488355328, len := fun h => by rw [h.1]; rfl, one := fun h v hv => by rw [h.1] at hv; simp at hv; subst hv; rfl, st := fun _ h => h }
/-- The greatest length of a list. -/
abbrev maxL : Nat := 68719476736
/-- A row of elements. -/
def RowAt {α : Type} (d : Ty α) (w : World) (A : Option Addr) (xs : List α) : Prop := ∀ i x, xs[i]? = some x → ∃ ad es, A = some ad ∧ CellsAt w (ad.add (i * d.sz)) es ∧ d.rd w es x
def tSl {α : Type} (d : Ty α) : Ty (List α) :=
  { sz := 1
    pos := Nat.one_pos
    rd := fun w cs xs => ∃ A cap, cs = [.slice A xs.length cap] ∧ xs.length ≤ cap ∧ xs.length ≤ maxL ∧ RowAt d w A xs
    len := fun h => by obtain ⟨A, cap, rfl, _⟩ := h; rfl
    one := fun h v hv => by obtain ⟨A, cap, rfl, _⟩ := h; simp at hv; subst hv; rfl
    st := fun hk h => by
      obtain ⟨A, cap, hc, h1, h2, h3⟩ := h
      refine ⟨A, cap, hc, h1, h2, fun i x hx => ?_⟩
      obtain ⟨ad, es, ha, hce, hr⟩ := h3 i x hx
      exact ⟨ad, es, ha, hce.keep hk, d.st hk hr⟩ }
/-- Two kinds, one behind the other. -/
def tP {α β : Type} (d : Ty α) (d' : Ty β) : Ty (α × β) :=
  { sz := d.sz + d'.sz
    pos := Nat.add_pos_left d.pos _
    rd := fun w cs x => ∃ c1 c2, cs = c1 ++ c2 ∧ d.rd w c1 x.1 ∧ d'.rd w c2 x.2
    len := fun h => by obtain ⟨c1, c2, rfl, h1, h2⟩ := h; rw [List.length_append, d.len h1, d'.len h2]
    one := fun h v hv => by
      obtain ⟨c1, c2, rfl, h1, h2⟩ := h
      rcases List.mem_append.1 hv with hv | hv
      · exact d.one h1 v hv
      · exact d'.one h2 v hv
    st := fun hk h => by
      obtain ⟨c1, c2, hc, h1, h2⟩ := h
      exact ⟨c1, c2, hc, d.st hk h1, d'.st hk h2⟩ }
/-- The same cells, told otherwise. -/
def tF {α β : Type} (d : Ty α) (f : β → α) : Ty β := { sz := d.sz, pos := d.pos, rd := fun w cs x => d.rd w cs (f x), len := fun h => d.len h, one := fun h => d.one h, st := fun hk h => d.st hk h }
section
variable {α : Type} {d : Ty α} {W W' w w0 : World} {F F' : Nat → Prop} {xs : List α} {v : Value}
/-- A slice's own letters. -/
theorem RdF.slice (h : RdF (tSl d) W F [v] xs) : ∃ A cap, v = .slice A xs.length cap ∧ xs.length ≤ cap ∧ xs.length ≤ maxL := by
  obtain ⟨A, cap, hc, h1, h2, _⟩ := h.here
  exact ⟨A, cap, by simpa using hc, h1, h2⟩
/-- An element of a slice: its cells, and what they read as. -/
theorem RdF.elem {A : Option Addr} {n cap : Nat} (h : RdF (tSl d) W F [.slice A n cap] xs) (i : Nat) (hi : i < xs.length) : ∃ ad es, A = some ad ∧ RdF d W F es (xs[i]) ∧ ∀ w : World, (∀ b, F b → w.heap[b]? = W.heap[b]?) → CellsAt w (ad.add (i * d.sz)) es := by
  obtain ⟨A0, cap0, hc, _, _, h3⟩ := h.here
  obtain ⟨ad, es, ha, hce, hr⟩ := h3 i _ (List.getElem?_eq_getElem hi)
  have hA : A = A0 := by simp at hc; exact hc.1
  subst hA
  have hF : F ad.block := by
    refine Classical.byContradiction fun hn => ?_
    obtain ⟨A1, cap1, hc1, _, _, h4⟩ := h { W with heap := W.heap.setIfInBounds ad.block (.deferred none) } (fun b hb => by
      have hne : ad.block ≠ b := fun e => hn (e ▸ hb)
      simp [hne])
    obtain ⟨ad1, es1, ha1, hce1, hr1⟩ := h4 i _ (List.getElem?_eq_getElem hi)
    have hA1 : A = A1 := by simp at hc1; exact hc1.1
    have had : ad1 = ad := by rw [hA1] at ha; rw [ha] at ha1; cases ha1; rfl
    subst had
    have hl := d.len hr1
    have hp := d.pos
    have h0 : 0 < es1.length := by omega
    have hcell := hce1 0 es1[0] (List.getElem?_eq_getElem h0)
    rw [add_zero_] at hcell
    unfold World.cell? at hcell
    rw [add_block] at hcell
    have hsz : ad1.block < W.heap.size := by
      have hl' := d.len hr
      have h0' : 0 < es.length := by omega
      have := cell_block (hce 0 es[0] (List.getElem?_eq_getElem h0'))
      rwa [add_zero_, add_block] at this
    simp [hsz] at hcell
  have hcells : ∀ w : World, (∀ b, F b → w.heap[b]? = W.heap[b]?) → CellsAt w (ad.add (i * d.sz)) es := fun w hw j v hv => by
    have h0 := hce j v hv
    exact (cell_same (by rw [add_block, add_block]; exact hw _ hF)).trans h0
  have key : ∀ w : World, (∀ b, F b → w.heap[b]? = W.heap[b]?) → CellsAt w (ad.add (i * d.sz)) es ∧ d.rd w es (xs[i]) := by
    intro w hw
    refine ⟨hcells w hw, ?_⟩
    obtain ⟨A1, cap1, hc1, _, _, h4⟩ := h w hw
    obtain ⟨ad1, es1, ha1, hce1, hr1⟩ := h4 i _ (List.getElem?_eq_getElem hi)
    have hA1 : A = A1 := by simp at hc1; exact hc1.1
    have had : ad1 = ad := by rw [hA1] at ha; rw [ha] at ha1; cases ha1; rfl
    subst had
    have he : es1 = es := by
      have l1 := d.len hr1
      have l2 := d.len hr
      refine List.ext_getElem (by omega) fun j h1 h2 => ?_
      have a1 := hce1 j _ (List.getElem?_eq_getElem h1)
      have a2 := hcells w hw j _ (List.getElem?_eq_getElem h2)
      rw [a1] at a2
      simpa using a2
    exact he ▸ hr1
  exact ⟨ad, es, ha, fun w hw => (key w hw).2, fun w hw => (key w hw).1⟩
end
end Go.Sl
