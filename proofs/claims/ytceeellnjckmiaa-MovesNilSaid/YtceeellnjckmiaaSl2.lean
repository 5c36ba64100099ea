/- A small logic over the fenced walk: the heap as blocks told apart, and what values read as. -/
import Derived.Test.YtceeellnjckmiaaSl1
import Derived.Maps.AppendAt
import Derived.Deep.Draws
import Derived.Laws.World
set_option linter.unusedVariables false
set_option linter.unusedSimpArgs false
namespace Go.Sl
open Go Go.RowKit

/-! ### 5. What a step keeps -/
structure Kp (M : Nat → Prop) (w w' : World) : Prop where
  os : w'.os = w.os
  tape : w'.tape = w.tape
  out : w'.output = w.output
  size : w.heap.size ≤ w'.heap.size
  blk : ∀ b, b < w.heap.size → ¬ M b → w'.heap[b]? = w.heap[b]?
abbrev no : Nat → Prop := fun _ => False
/-- The blocks that were made between two worlds. -/
def nw (w w' : World) : Nat → Prop := fun b => w.heap.size ≤ b ∧ b < w'.heap.size
def lt_ (w : World) : Nat → Prop := fun b => b < w.heap.size
def or_ (F G : Nat → Prop) : Nat → Prop := fun b => F b ∨ G b
section
variable {M M' : Nat → Prop} {w w1 w2 w' : World}
theorem Kp.refl (M : Nat → Prop) (w : World) : Kp M w w := ⟨rfl, rfl, rfl, Nat.le_refl _, fun _ _ _ => rfl⟩
theorem Kp.mono (h : Kp M w w') (hm : ∀ b, M b → M' b) : Kp M' w w' := ⟨h.os, h.tape, h.out, h.size, fun b hb hn => h.blk b hb fun hM => hn (hm b hM)⟩
theorem Kp.trans (h : Kp M w w1) (k : Kp M' w1 w2) (hm : ∀ b, M' b → M b ∨ w.heap.size ≤ b) : Kp M w w2 :=
  ⟨k.os.trans h.os, k.tape.trans h.tape, k.out.trans h.out, Nat.le_trans h.size k.size, fun b hb hn =>
    (k.blk b (Nat.lt_of_lt_of_le hb h.size) fun hM => (hm b hM).elim hn fun hge => absurd hb (by omega)).trans (h.blk b hb hn)⟩
theorem Kp.trans0 (h : Kp M w w1) (k : Kp no w1 w2) : Kp M w w2 := h.trans k fun _ hb => hb.elim
theorem Kp.alloc (w : World) (o : Obj) : Kp no w (w.alloc o) := ⟨rfl, rfl, rfl, by simp, fun b hb _ => by unfold World.alloc; simp [Array.getElem?_push, Nat.ne_of_lt hb]⟩
theorem Kp.drew (w : World) : Kp no w w.drew := ⟨rfl, rfl, rfl, Nat.le_refl _, fun _ _ _ => rfl⟩
theorem Kp.of_grown {row : Option Nat} (h : w.grownBy w' row) : Kp (fun b => row = some b) w w' := ⟨h.os, h.tape, h.output, h.size, fun b hb hn => h.block b hb fun e => hn e.symm⟩
theorem Kp.grown (h : Kp no w w') (row : Option Nat) : w.grownBy w' row := ⟨h.os, h.tape, h.out, h.size, fun b hb _ => h.blk b hb id⟩
theorem Kp.of_below (h : Below w.heap.size w w') : Kp no w w' := ⟨h.os, h.tape, h.output, h.size, fun b hb _ => h.block b hb⟩
theorem Kp.below (h : Kp no w w') : Below w.heap.size w w' := ⟨h.os, h.tape, h.out, h.size, fun b hb => h.blk b hb id⟩
theorem Kp.setCell (w : World) (a : Addr) (v : Value) : Kp (· = a.block) w (w.setCell a v) :=
  ⟨rfl, rfl, rfl, by simp, fun b _ hn => by simp [World.setCell, Array.getElem?_modify, Ne.symm hn]⟩
end
theorem heap_alloc_new' (w : World) (o : Obj) : (w.alloc o).heap[w.heap.size]? = some o := by unfold World.alloc; simp

/-! ### 6. Blocks told apart -/
structure Ent where
  fp : Nat → Prop
  ok : World → Prop
  st : ∀ {w w' : World}, (∀ b, fp b → w'.heap[b]? = w.heap[b]?) → ok w → ok w'
/-- Block g holds o. -/
def blk (g : Nat) (o : Obj) : Ent := { fp := (· = g), ok := fun w => w.heap[g]? = some o, st := fun h hw => (h g rfl).trans hw }
/-- The blocks of F lie as in W. -/
def fz (W : World) (F : Nat → Prop) : Ent := { fp := F, ok := fun w => ∀ b, F b → w.heap[b]? = W.heap[b]?, st := fun h hw b hb => (h b hb).trans (hw b hb) }
/-- A row of one's own. -/
def own (e : TypeId) (sz : Nat) (v : Value) (n : Nat) (xs : List Value) : Ent :=
  { fp := fun b => v.ownBlock = some b
    ok := fun w => w.ownsRow 0 e sz v n xs
    st := by
      rintro w w' h ⟨h1, h2⟩
      refine ⟨h1, ?_⟩
      rcases h2 with h2 | ⟨g, cap, cur, rfl, hb, hh, hr⟩
      · exact .inl h2
      · exact .inr ⟨g, cap, cur, rfl, hb, (h g rfl).trans hh, hr⟩ }
abbrev Hp := List (Nat × Ent)
def look : Hp → Nat → Option Ent
  | [], _ => none
  | (k, e) :: r, j => match Nat.beq k j with
    | true => some e
    | false => look r j
def upd : Hp → Nat → Ent → Hp
  | [], _, _ => []
  | (k, e) :: r, j, e' => match Nat.beq k j with
    | true => (k, e') :: r
    | false => (k, e) :: upd r j e'
def keyIn : Hp → Nat → Bool
  | [], _ => false
  | (k, _) :: r, j => Nat.beq k j || keyIn r j
structure St (w0 w : World) (L : Hp) : Prop where
  os : w.os = w0.os
  tape : w.tape = w0.tape
  out : w.output = w0.output
  size : w0.heap.size ≤ w.heap.size
  ok : ∀ x ∈ L, x.2.ok w
  lt : ∀ x ∈ L, ∀ b, x.2.fp b → b < w.heap.size
  sep : L.Pairwise fun x y => ∀ b, x.2.fp b → y.2.fp b → False
section
variable {w0 w w' : World} {L : Hp} {k j : Nat} {e e' : Ent} {M : Nat → Prop}
theorem beq_of {k j : Nat} (h : Nat.beq k j = true) : k = j := Nat.eq_of_beq_eq_true h
theorem look_upd : ∀ {L : Hp} {k : Nat} {e e2 : Ent}, look L k = some e → look (upd L k e2) k = some e2
  | (k0, e0) :: r, k, e, e2, h => by
    unfold look at h
    unfold Sl.upd
    cases hb : Nat.beq k0 k with
    | true => simp [look, hb]
    | false =>
      rw [hb] at h
      simp only [look, hb]
      exact look_upd h
theorem look_mem : ∀ {L : Hp} {k : Nat} {e : Ent}, look L k = some e → (k, e) ∈ L
  | (k', e') :: r, k, e, h => by
    unfold look at h
    cases hb : Nat.beq k' k with
    | true =>
      rw [hb] at h
      simp only [Option.some.injEq] at h
      rw [beq_of hb, h]
      exact List.mem_cons_self
    | false =>
      rw [hb] at h
      exact List.mem_cons_of_mem _ (look_mem h)
theorem St.get (h : St w0 w L) (hk : look L k = some e) : e.ok w := h.ok _ (look_mem hk)
theorem St.fpLt (h : St w0 w L) (hk : look L k = some e) : ∀ b, e.fp b → b < w.heap.size := h.lt _ (look_mem hk)
theorem pair_disj : ∀ {L : Hp}, L.Pairwise (fun x y => ∀ b, x.2.fp b → y.2.fp b → False) → look L k = some e → look L j = some e' → Nat.beq k j = false → ∀ b, e.fp b → e'.fp b → False
  | (k', e0) :: r, hp, hk, hj, hne => by
    obtain ⟨h1, h2⟩ := List.pairwise_cons.1 hp
    unfold look at hk hj
    cases hb : Nat.beq k' k with
    | true =>
      rw [hb] at hk
      simp only [Option.some.injEq] at hk
      subst hk
      rw [beq_of hb, hne] at hj
      exact h1 _ (look_mem hj)
    | false =>
      rw [hb] at hk
      cases hb2 : Nat.beq k' j with
      | true =>
        rw [hb2] at hj
        simp only [Option.some.injEq] at hj
        subst hj
        exact fun b x y => h1 _ (look_mem hk) b y x
      | false =>
        rw [hb2] at hj
        exact pair_disj h2 hk hj hne
theorem St.disj (h : St w0 w L) (hk : look L k = some e) (hj : look L j = some e') (hne : Nat.beq k j = false) : ∀ b, e.fp b → e'.fp b → False := pair_disj h.sep hk hj hne
/-- A step that turns nothing that is told. -/
theorem St.kp (h : St w0 w L) (hk : Kp M w w') (hm : ∀ x ∈ L, ∀ b, x.2.fp b → ¬ M b) : St w0 w' L :=
  ⟨hk.os.trans h.os, hk.tape.trans h.tape, hk.out.trans h.out, Nat.le_trans h.size hk.size, fun x hx => x.2.st (fun b hb => hk.blk b (h.lt x hx b hb) (hm x hx b hb)) (h.ok x hx),
    fun x hx b hb => Nat.lt_of_lt_of_le (h.lt x hx b hb) hk.size, h.sep⟩
theorem St.kp0 (h : St w0 w L) (hk : Kp no w w') : St w0 w' L := h.kp hk fun _ _ _ _ => id
/-- .. and something new beside it. -/
theorem St.new (h : St w0 w L) (hk : Kp no w w') (k : Nat) (e : Ent) (he : e.ok w') (hf : ∀ b, e.fp b → nw w w' b) : St w0 w' ((k, e) :: L) := by
  have h' := h.kp0 hk
  refine ⟨h'.os, h'.tape, h'.out, h'.size, ?_, ?_, List.pairwise_cons.2 ⟨fun x hx b hb hb' => ?_, h'.sep⟩⟩
  · intro x hx
    rcases List.mem_cons.1 hx with rfl | hx
    · exact he
    · exact h'.ok x hx
  · intro x hx b hb
    rcases List.mem_cons.1 hx with rfl | hx
    · exact (hf b hb).2
    · exact h'.lt x hx b hb
  · have h1 := (hf b hb).1
    have h2 := h.lt x hx b hb'
    omega
theorem St.alloc (h : St w0 w L) (k : Nat) (o : Obj) : St w0 (w.alloc o) ((k, blk w.heap.size o) :: L) :=
  h.new (Kp.alloc w o) k _ (heap_alloc_new' w o) fun b hb => by
    have : b = w.heap.size := hb
    exact ⟨by omega, by simp; omega⟩
theorem St.call (h : St w0 w L) (hk : Kp no w w') (k : Nat) : St w0 w' ((k, fz w' (nw w w')) :: L) := h.new hk k _ (fun _ _ => rfl) fun _ hb => hb
theorem upd_mem : ∀ {L : Hp} {k : Nat} {e' : Ent} {x : Nat × Ent}, x ∈ upd L k e' → (x = (k, e') ∧ keyIn L k = true) ∨ (x ∈ L)
  | (k0, e0) :: r, k, e', x, hx => by
    unfold upd at hx
    cases hb : Nat.beq k0 k with
    | true =>
      rw [hb] at hx
      rcases List.mem_cons.1 hx with rfl | hx
      · exact .inl ⟨by rw [beq_of hb], by simp [keyIn, hb]⟩
      · exact .inr (List.mem_cons_of_mem _ hx)
    | false =>
      rw [hb] at hx
      rcases List.mem_cons.1 hx with rfl | hx
      · exact .inr List.mem_cons_self
      · rcases upd_mem hx with ⟨h1, h2⟩ | h
        · exact .inl ⟨h1, by simp [keyIn, h2]⟩
        · exact .inr (List.mem_cons_of_mem _ h)
/-- One entry turns: what it turns into lies where it lay, or in new blocks. -/
theorem St.upd (h : St w0 w L) (hl : look L k = some e) (hk : Kp e.fp w w') (he : e'.ok w') (hf : ∀ b, e'.fp b → e.fp b ∨ nw w w' b) : St w0 w' (upd L k e') := by
  have key : ∀ (L : Hp), (∀ x ∈ L, x.2.ok w) → (∀ x ∈ L, ∀ b, x.2.fp b → b < w.heap.size) → L.Pairwise (fun x y => ∀ b, x.2.fp b → y.2.fp b → False) → look L k = some e →
      (∀ x ∈ Sl.upd L k e', x.2.ok w') ∧ (∀ x ∈ Sl.upd L k e', ∀ b, x.2.fp b → b < w'.heap.size) ∧ (Sl.upd L k e').Pairwise (fun x y => ∀ b, x.2.fp b → y.2.fp b → False) ∧
      (∀ b, (∀ x ∈ L, x.2.fp b → False) → ¬ nw w w' b → ∀ x ∈ Sl.upd L k e', x.2.fp b → False) := by
    intro L
    induction L with
    | nil => intro _ _ _ hl; simp [look] at hl
    | cons p r ih =>
      obtain ⟨k0, e0⟩ := p
      intro hok hlt hsep hl
      obtain ⟨s1, s2⟩ := List.pairwise_cons.1 hsep
      unfold look at hl
      unfold Sl.upd
      cases hb : Nat.beq k0 k with
      | true =>
        rw [hb] at hl
        simp only [Option.some.injEq] at hl
        subst hl
        have hrest : ∀ x ∈ r, ∀ b, x.2.fp b → w'.heap[b]? = w.heap[b]? := fun x hx b hb => hk.blk b (hlt x (List.mem_cons_of_mem _ hx) b hb) fun hm => s1 x hx b hm hb
        refine ⟨fun x hx => ?_, fun x hx b hb => ?_, List.pairwise_cons.2 ⟨fun x hx b hb hb' => ?_, s2⟩, fun b hL hn x hx hb => ?_⟩
        · rcases List.mem_cons.1 hx with rfl | hx
          · exact he
          · exact x.2.st (hrest x hx) (hok x (List.mem_cons_of_mem _ hx))
        · rcases List.mem_cons.1 hx with rfl | hx
          · rcases hf b hb with h1 | h1
            · exact Nat.lt_of_lt_of_le (hlt _ List.mem_cons_self b h1) hk.size
            · exact h1.2
          · exact Nat.lt_of_lt_of_le (hlt x (List.mem_cons_of_mem _ hx) b hb) hk.size
        · rcases hf b hb with h1 | h1
          · exact s1 x hx b h1 hb'
          · have := hlt x (List.mem_cons_of_mem _ hx) b hb'
            have := h1.1
            omega
        · rcases List.mem_cons.1 hx with rfl | hx
          · rcases hf b hb with h1 | h1
            · exact hL _ List.mem_cons_self h1
            · exact hn h1
          · exact hL x (List.mem_cons_of_mem _ hx) hb
      | false =>
        rw [hb] at hl
        obtain ⟨i1, i2, i3, i4⟩ := ih (fun x hx => hok x (List.mem_cons_of_mem _ hx)) (fun x hx => hlt x (List.mem_cons_of_mem _ hx)) s2 hl
        have hme := look_mem hl
        refine ⟨fun x hx => ?_, fun x hx b hb => ?_, List.pairwise_cons.2 ⟨fun x hx b hb hb' => ?_, i3⟩, fun b hL hn x hx hb => ?_⟩
        · rcases List.mem_cons.1 hx with rfl | hx
          · exact e0.st (fun b hb => hk.blk b (hlt _ List.mem_cons_self b hb) fun hm => s1 _ hme b hb hm) (hok _ List.mem_cons_self)
          · exact i1 x hx
        · rcases List.mem_cons.1 hx with rfl | hx
          · exact Nat.lt_of_lt_of_le (hlt _ List.mem_cons_self b hb) hk.size
          · exact i2 x hx b hb
        · refine i4 b (fun y hy hyb => s1 y hy b hb hyb) (fun hn => ?_) x hx hb'
          have := hlt _ List.mem_cons_self b hb
          have := hn.1
          omega
        · rcases List.mem_cons.1 hx with rfl | hx
          · exact hL _ List.mem_cons_self hb
          · exact i4 b (fun y hy => hL y (List.mem_cons_of_mem _ hy)) hn x hx hb
  obtain ⟨i1, i2, i3, _⟩ := key L h.ok h.lt h.sep hl
  exact ⟨hk.os.trans h.os, hk.tape.trans h.tape, hk.out.trans h.out, Nat.le_trans h.size hk.size, i1, i2, i3⟩
/-- Chosen entries, under names of their own. -/
def Pick : List Nat → Hp → Hp → Prop
  | [], [], _ => True
  | j :: js, (_, e) :: r, L => look L j = some e ∧ (js.all fun i => !(Nat.beq j i)) = true ∧ Pick js r L
  | _, _, _ => False
theorem pick_mem : ∀ {js : List Nat} {L' L : Hp}, Pick js L' L → ∀ x ∈ L', ∃ j, j ∈ js ∧ look L j = some x.2
  | [], [], _, _, x, hx => by simp at hx
  | j :: js, (k, e) :: r, L, h, x, hx => by
    obtain ⟨h1, _, h3⟩ := h
    rcases List.mem_cons.1 hx with rfl | hx
    · exact ⟨j, List.mem_cons_self, h1⟩
    · obtain ⟨i, hi, hl⟩ := pick_mem h3 x hx
      exact ⟨i, List.mem_cons_of_mem _ hi, hl⟩
  | [], _ :: _, _, h, _, _ => h.elim
  | _ :: _, [], _, h, _, _ => h.elim
theorem St.pick (h : St w0 w L) (js : List Nat) {L' : Hp} (hp : Pick js L' L) : St w0 w L' := by
  refine ⟨h.os, h.tape, h.out, h.size, fun x hx => ?_, fun x hx => ?_, ?_⟩
  · obtain ⟨j, _, hl⟩ := pick_mem hp x hx
    exact h.get hl
  · obtain ⟨j, _, hl⟩ := pick_mem hp x hx
    exact h.fpLt hl
  · induction js generalizing L' with
    | nil =>
      cases L' with
      | nil => exact List.Pairwise.nil
      | cons _ _ => exact hp.elim
    | cons j js ih =>
      cases L' with
      | nil => exact hp.elim
      | cons p r =>
        obtain ⟨k, e⟩ := p
        obtain ⟨h1, h2, h3⟩ := hp
        refine List.pairwise_cons.2 ⟨fun x hx => ?_, ih h3⟩
        obtain ⟨i, hi, hl⟩ := pick_mem h3 x hx
        have := List.all_eq_true.1 h2 i hi
        exact h.disj h1 hl (by simpa using this)
theorem St.start (w : World) : St w w [(0, fz w (lt_ w))] :=
  ⟨rfl, rfl, rfl, Nat.le_refl _, fun x hx => by simp at hx; subst hx; exact fun _ _ => rfl, fun x hx b hb => by simp at hx; subst hx; exact hb, by simp⟩
/-- What a function that turns nothing told leaves. -/
theorem St.kept (h : St w0 w L) (hl : look L k = some (fz w0 (lt_ w0))) : Kp no w0 w := ⟨h.os, h.tape, h.out, h.size, fun b hb _ => h.get hl b hb⟩
theorem St.keptBut {M : Nat → Prop} (h : St w0 w L) (hl : look L k = some (fz w0 fun b => b < w0.heap.size ∧ ¬ M b)) : Kp M w0 w := ⟨h.os, h.tape, h.out, h.size, fun b hb hn => h.get hl b ⟨hb, hn⟩⟩
end
end Go.Sl
