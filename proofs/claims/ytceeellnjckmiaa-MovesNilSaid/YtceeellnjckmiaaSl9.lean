/- A small logic over the fenced walk: maps keyed by stamps, parts of slices. -/
import Derived.Test.YtceeellnjckmiaaSl8
import Derived.MapKept
import Derived.WideKeyRuns
set_option linter.unusedVariables false
set_option linter.unusedSimpArgs false
namespace Go.Sl
open Go Go.RowKit
/-! ### 18. Maps keyed by stamps -/
def aget : List (Stamp × Value) → Stamp → Option Value
  | [], _ => none
  | (k, v) :: r, s => if s = k then some v else aget r s
def aput : List (Stamp × Value) → Stamp → Value → List (Stamp × Value)
  | [], s, v => [(s, v)]
  | (k, u) :: r, s, v => if s = k then (k, v) :: r else (k, u) :: aput r s v
def akey (s : Stamp) : Value := .agg (stL s).toArray
structure StKey (P : Program) (k : TypeId) : Prop where
  und : ∃ fs, P.underlying k = some (.struct fs)
  chk : ∀ (w : World) (b : Bool) (s : Stamp), (Instr.checkKey b 10000 k (akey s)).run P w = .ok () w
  eq : ∀ (w : World) (a b c d : Int), (Op.equal k (.agg #[.int .i64 a, .int .i64 b]) (.agg #[.int .i64 c, .int .i64 d])).run P w = .ok (decide (a = c ∧ b = d)) w
def MapIs (es : Array MapEntry) (kv : List (Stamp × Value)) : Prop := es.toList.map (fun e => (e.key, e.val)) = kv.map fun p => (akey p.1, p.2)
/-- A map's entry. -/
def mapL (g : Nat) (kv : List (Stamp × Value)) : Ent := { fp := (· = g), ok := fun w => ∃ es clock, w.heap[g]? = some (.map es clock) ∧ MapIs es kv, st := fun h hw => Exists.elim hw fun es hw => Exists.elim hw fun clock hw => ⟨es, clock, (h g rfl).trans hw.1, hw.2⟩ }
section
variable {P : Program} {k t e : TypeId} {w w0 : World} {L : Hp} {o : Oper} {E : Env} {x y z : Operand} {v u z' : Value} {s : Stamp} {kv : List (Stamp × Value)} {j g : Nat}
theorem akey_inj {s s' : Stamp} (h : akey s = akey s') : s = s' := by
  obtain ⟨a, b⟩ := s
  obtain ⟨c, d⟩ := s'
  simp [akey, stL] at h
  rw [h.1, h.2]
theorem StKey.equal (K : StKey P k) (s s' : Stamp) : (Op.equal k (akey s) (akey s')).run P w = .ok (decide (s = s')) w := by
  have := K.eq w s.c s.r s'.c s'.r
  have h2 : decide (s.c = s'.c ∧ s.r = s'.r) = decide (s = s') := by
    obtain ⟨a, b⟩ := s
    obtain ⟨c, d⟩ := s'
    simp
  rw [h2] at this
  exact this
def afind : List (Stamp × Value) → Stamp → Nat → Option (Nat × Value)
  | [], _, _ => none
  | (k, v) :: r, s, i => if s = k then some (i, v) else afind r s (i + 1)
theorem run_findAsking (K : StKey P k) (s : Stamp) : ∀ (es : List MapEntry) (kv : List (Stamp × Value)) (i : Nat), es.map (fun e => (e.key, e.val)) = kv.map (fun p => (akey p.1, p.2)) → (Instr.findAsking k (akey s) es i).run P w = .ok (afind kv s i) w
  | [], [], i, _ => by simp [Instr.findAsking, afind]
  | [], _ :: _, i, h => by simp at h
  | _ :: _, [], i, h => by simp at h
  | e :: es, (k', v) :: kv, i, h => by
    simp only [List.map_cons, List.cons.injEq, Prod.mk.injEq] at h
    obtain ⟨⟨h1, h2⟩, h3⟩ := h
    have ih := run_findAsking K s es kv (i + 1) h3
    simp only [Instr.findAsking, Sem.run_bind, h1, K.equal, Result.andThen_ok, afind]
    by_cases he : s = k'
    · simp [he, h2]
    · simp [he, ih]
theorem run_findKey (K : StKey P k) {es : Array MapEntry} (s : Stamp) (h : MapIs es kv) : (Instr.findKey k (akey s) es.toList).run P w = .ok (afind kv s 0) w := by
  obtain ⟨fs, hu⟩ := K.und
  have hu' : (underlying k).run P w = .ok (.struct fs) w := by simp [underlying, hu]
  have hask := run_findAsking (w := w) K s es.toList kv 0 h
  unfold MapIs at h
  cases hes : es.toList with
  | nil =>
    rw [hes] at h
    cases kv with
    | nil => simp [Instr.findKey, hu', Instr.findNow, afind]
    | cons => simp at h
  | cons e r =>
    rw [hes] at hask
    simp only [Instr.findKey, Sem.run_bind, hu', Result.andThen_ok, Instr.findNow, Instr.sameNow, hask]
theorem afind_get : ∀ (kv : List (Stamp × Value)) (s : Stamp) (i : Nat), (afind kv s i).map (·.2) = aget kv s
  | [], _, _ => rfl
  | (k, v) :: r, s, i => by
    simp only [afind, aget]
    split
    · rfl
    · exact afind_get r s (i + 1)
theorem afind_lt : ∀ (kv : List (Stamp × Value)) (s : Stamp) (i j : Nat) (v : Value), afind kv s i = some (j, v) → i ≤ j ∧ j < i + kv.length ∧ kv[j - i]? = some (s, v) ∧ ∀ u, aput kv s u = kv.set (j - i) (s, u)
  | [], _, _, _, _, h => by simp [afind] at h
  | (k, v0) :: r, s, i, j, v, h => by
    simp only [afind] at h
    by_cases he : s = k
    · simp [he] at h
      obtain ⟨rfl, rfl⟩ := h
      subst he
      simp [aput]
    · simp [he] at h
      obtain ⟨h1, h2, h3, h4⟩ := afind_lt r s (i + 1) j v h
      have hj : j - i = (j - (i + 1)) + 1 := by omega
      refine ⟨by omega, by simp; omega, by rw [hj]; simpa using h3, fun u => ?_⟩
      rw [hj, List.set_cons_succ, ← h4 u]
      simp [aput, he]
theorem afind_none : ∀ (kv : List (Stamp × Value)) (s : Stamp) (i : Nat), afind kv s i = none → ∀ u, aput kv s u = kv ++ [(s, u)]
  | [], _, _, _, u => rfl
  | (k, v0) :: r, s, i, h, u => by
    simp only [afind] at h
    by_cases he : s = k
    · simp [he] at h
    · simp [he] at h
      simp [aput, he, afind_none r s (i + 1) h u]
theorem Q_look (c : Bool) (K : StKey P k) (hS : St w0 w L) (hl : look L j = some (mapL g kv)) (ht : P.underlying t = some (.map k e)) (hz : ∀ w, (zeroValue e).run P w = .ok z' w) (ho : o.op = .lookup t x y c) (hx : evalE E x = some (.map (some g))) (hy : evalE E y = some (akey s)) :
    Qt P o E w (if c then .tuple #[(aget kv s).getD z', .bool (aget kv s).isSome] else (aget kv s).getD z') := fun nt D a ha => by
  obtain ⟨es, clock, hb, hm⟩ := hS.get hl
  have hu : (underlying t).run P w = .ok (.map k e) w := by simp [underlying, ht]
  have hg := MapKept.run_getObj_map (P := P) hb
  have hf := run_findKey (w := w) K s hm
  have hag := afind_get kv s 0
  have hchk := fun b => K.chk w b s
  have key : (Instr.lookup t (.map (some g)) (akey s) c).run P w = .ok (if c then .tuple #[(aget kv s).getD z', .bool (aget kv s).isSome] else (aget kv s).getD z') w := by
    rw [← hag]
    cases ha : afind kv s 0 with
    | none =>
      rw [ha] at hf
      simp only [Instr.lookup, Sem.run_bind, hu, Result.andThen_ok, hg, Sem.run_pure, hchk, hf, hz w]
      cases c <;> simp
    | some p =>
      obtain ⟨i, v⟩ := p
      rw [ha] at hf
      simp only [Instr.lookup, Sem.run_bind, hu, Result.andThen_ok, hg, Sem.run_pure, hchk, hf]
      cases c <;> simp
  unfold execOp; rw [ho]; simp only [ha.eval hx, ha.eval hy, Sem.run_bind, key, Result.andThen_ok]; rfl
theorem Q_look2 (r : Option Value) (hr : aget kv s = r) (K : StKey P k) (hS : St w0 w L) (hl : look L j = some (mapL g kv)) (ht : P.underlying t = some (.map k e)) (hz : ∀ w, (zeroValue e).run P w = .ok z' w) (ho : o.op = .lookup t x y true) (hx : evalE E x = some (.map (some g))) (hy : evalE E y = some (akey s)) :
    Qt P o E w (.tuple #[r.getD z', .bool r.isSome]) := hr ▸ Q_look true K hS hl ht hz ho hx hy
theorem Q_look1 (r : Option Value) (hr : aget kv s = r) (K : StKey P k) (hS : St w0 w L) (hl : look L j = some (mapL g kv)) (ht : P.underlying t = some (.map k e)) (hz : ∀ w, (zeroValue e).run P w = .ok z' w) (ho : o.op = .lookup t x y false) (hx : evalE E x = some (.map (some g))) (hy : evalE E y = some (akey s)) :
    Qt P o E w (r.getD z') := hr ▸ Q_look false K hS hl ht hz ho hx hy
theorem sameBits_akey (s : Stamp) : Instr.sameBits 10000 (akey s) (akey s) = true := by
  simp [akey, stL, Instr.sameBits]
theorem Kp.setBlk (w : World) (g : Nat) (o : Obj) : Kp (· = g) w { w with heap := w.heap.setIfInBounds g o } :=
  ⟨rfl, rfl, rfl, by simp, fun b _ hn => by simp [Ne.symm hn]⟩
theorem D_mapUpd {K' : Value → World → Prop} (K : StKey P k) (hS : St w0 w L) (hl : look L j = some (mapL g kv)) (ht : P.underlying t = some (.map k e)) (ho : o.op = .mapUpdate t x y z) (hx : evalE E x = some (.map (some g))) (hy : evalE E y = some (akey s)) (hz : evalE E z = some v)
    (h : ∀ w', St w0 w' (upd L j (mapL g (aput kv s v))) → K' undef w') : Does P o E w K' := fun nt D a ha => by
  obtain ⟨es, clock, hb, hm⟩ := hS.get hl
  have hu : (underlying t).run P w = .ok (.map k e) w := by simp [underlying, ht]
  have hg := MapKept.run_getObj_map (P := P) hb
  have hf := run_findKey (w := w) K s hm
  have hlen : es.size = kv.length := by
    have := congrArg List.length hm
    simpa using this
  have hgl : g < w.heap.size := (Array.getElem?_eq_some_iff.1 hb).1
  have hend : ∀ es' clock', MapIs es' (aput kv s v) → K' undef { w with heap := w.heap.setIfInBounds g (.map es' clock') } := fun es' clock' hm' =>
    h _ (hS.upd hl (Kp.setBlk w g _) ⟨es', clock', by simp [hgl], hm'⟩ fun b hb => .inl hb)
  have key : ∃ w', (Instr.mapUpdate t (.map (some g)) (akey s) v).run P w = .ok () w' ∧ K' undef w' := by
    cases ha : afind kv s 0 with
    | none =>
      rw [ha] at hf
      refine ⟨_, ?_, hend (es.push { key := akey s, val := v, born := clock }) (clock + 1) ?_⟩
      · simp only [Instr.mapUpdate, Sem.run_bind, hu, Result.andThen_ok, hg, K.chk, hf]
        exact MapKept.run_setObj_map (P := P) _ hb
      · rw [afind_none kv s 0 ha v]
        unfold MapIs at *
        simp [hm]
    | some p =>
      obtain ⟨i, v0⟩ := p
      rw [ha] at hf
      obtain ⟨_, hlt, hat, hput⟩ := afind_lt kv s 0 i v0 ha
      simp only [Nat.sub_zero, Nat.zero_add] at hlt hat hput
      have hi : i < es.size := by omega
      have hkey : es[i].key = akey s := by
        have h1 := congrArg (fun l => l[i]?) hm
        simp [hi, hat] at h1
        exact h1.1
      refine ⟨_, ?_, hend (es.modify i fun e => { e with key := akey s, val := v }) clock ?_⟩
      · simp only [Instr.mapUpdate, Sem.run_bind, hu, Result.andThen_ok, hg, K.chk, hf]
        have hst : (Instr.keyThatStays (((es[i]?).map (·.key)).getD (akey s)) (akey s)).run P w = .ok (akey s) w := by
          simp [hi, hkey, Instr.keyThatStays, sameBits_akey]
        rw [hst]
        exact MapKept.run_setObj_map (P := P) _ hb
      · rw [hput v]
        unfold MapIs at *
        refine List.ext_getElem? fun q => ?_
        have h1 := congrArg (fun l => l[q]?) hm
        simp only [List.getElem?_map, Array.getElem?_toList, Array.getElem?_modify, List.getElem?_set] at h1 ⊢
        by_cases hq : i = q
        · subst hq
          simp [hi, hlt]
        · simp [hq, h1]
  obtain ⟨w', hr, hK⟩ := key
  refine ⟨.skip, undef, w', ?_, .inr ⟨rfl, rfl⟩, hK⟩
  unfold execOp; rw [ho]; simp only [ha.eval hx, ha.eval hy, ha.eval hz, Sem.run_bind, hr, Result.andThen_ok]; rfl
theorem D_mkMapL {K : Value → World → Prop} (j : Nat) (hS : St w0 w L) (ho : o.op = .makeMap t none)
    (h : ∀ g w', St w0 w' ((j, mapL g []) :: L) → K (.map (some g)) w') : Does P o E w K :=
  D_mkMap j hS ho fun g w' hS' => h g w' ⟨hS'.os, hS'.tape, hS'.out, hS'.size, fun x hx => by
    rcases List.mem_cons.1 hx with rfl | hx
    · exact ⟨_, _, hS'.ok _ List.mem_cons_self, rfl⟩
    · exact hS'.ok x (List.mem_cons_of_mem _ hx), fun x hx b hb => by
    rcases List.mem_cons.1 hx with rfl | hx
    · exact hS'.lt _ List.mem_cons_self b hb
    · exact hS'.lt x (List.mem_cons_of_mem _ hx) b hb, List.pairwise_cons.2 ⟨(List.pairwise_cons.1 hS'.sep).1, (List.pairwise_cons.1 hS'.sep).2⟩⟩
end
/-! ### 19. Parts of slices -/
section
variable {P : Program} {k t e : TypeId} {w w0 : World} {L : Hp} {o : Oper} {E : Env} {x : Operand} {lo hi : Option Operand} {A : Option Addr} {n cap sz : Nat}
def evalO (E : Env) : Option Operand → Option (Option Value)
  | none => some none
  | some x => (evalE E x).map some
theorem evalO_eq {nt : Nat} {D : List Deferred} {a : Act} (h : Ag nt D E a) {r : Option Value} (hx : evalO E lo = some r) : lo.map a.eval = r := by
  cases lo with
  | none => simpa [evalO] using hx
  | some y =>
    cases hy : evalE E y with
    | none => simp [evalO, hy] at hx
    | some v => simp [evalO, hy] at hx; simp [h.eval hy, hx]
theorem Q_slice {l h : Int} {rl rh : Option Value} (ho : o.op = .slice t x lo hi none) (hx : evalE E x = some (.slice A n cap)) (h1 : evalO E lo = some rl) (h2 : evalO E hi = some rh) (hl : (rl = none ∧ l = 0) ∨ rl = some (.int .i64 l)) (hh : (rh = none ∧ h = n) ∨ rh = some (.int .i64 h))
    (ht : P.underlying t = some (.slice e)) (hs : ∀ w, (sizeOf e).run P w = .ok sz w) (b1 : 0 ≤ l) (b2 : l ≤ h) (b3 : h ≤ cap) :
    Qt P o E w (.slice (if cap = l.toNat then A else A.map (·.add (l.toNat * sz))) (h.toNat - l.toNat) (cap - l.toNat)) := fun nt D a ha => by
  have hu : ∀ w, (underlying t).run P w = .ok (.slice e) w := fun w => by simp [underlying, ht]
  have h0 : 0 ≤ h := by omega
  have b4 : l ≤ (h.toNat : Int) := by omega
  unfold execOp; rw [ho]
  have e1 := evalO_eq ha h1
  have e2 := evalO_eq ha h2
  have key : ∀ w, (Instr.sliceBounds true n cap rl rh none).run P w = .ok (l.toNat, h.toNat, cap) w := fun w => by
    rcases hl with ⟨rfl, rfl⟩ | rfl <;> rcases hh with ⟨rfl, rfl⟩ | rfl <;>
      simp [Instr.sliceBounds, Instr.sliceBound, asIntOf, b1, b2, b3, b4, h0] <;> omega
  simp only [ha.eval hx, e1, e2, Option.map_none, Instr.sliceAt, Instr.slice, Sem.run_bind, hu, Result.andThen_ok, key, hs]
  rfl
end
end Go.Sl
