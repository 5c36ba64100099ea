/- A small logic over the fenced walk: statements whose order Go leaves open. -/
import Derived.Test.YtceeellnjckmiaaSl6
import Derived.OrdersIn
set_option linter.unusedVariables false
set_option linter.unusedSimpArgs false
namespace Go.Sl
open Go Go.RowKit

def QF : Exit → Act → World → Prop := fun _ _ _ => False
/-- Whatever order is picked from here on; while operations of A come up, I stands. -/
def wpJ (ro : Option Nat) (P : Program) (ops : Array Oper) (I : World → Prop) (A : Nat → Bool) (K : Act → World → Prop) : Nat → Array Bool → Act → World → Prop
  | 0, listed, a, w => Region.ready .any ops listed = [] ∧ K a w
  | fuel + 1, listed, a, w =>
    (Region.ready .any ops listed = [] → K a w) ∧
    ∀ i ∈ Region.ready .any ops listed, wpOpIn (Fw ro) 0 P ops QF i (fun a' w' => (A i = true → I w → I w') ∧ wpJ ro P ops I A K fuel (listed.setIfInBounds i true) a' w') a w
section
variable {ro : Option Nat} {P : Program} {ops : Array Oper} {I : World → Prop} {A : Nat → Bool} {K : Act → World → Prop} {Q : Exit → Act → World → Prop}
theorem Oper.wpIn_ofF {o : Oper} {a : Act} {w : World} {K' : Act → World → Prop} {n : Nat} (h : o.wpIn (Fw ro) n P a w K' QF) : o.wpIn (Fw ro) n P a w K' Q := by
  unfold Oper.wpIn at *
  refine ⟨h.1, ?_⟩
  have hh := h.2
  generalize (o.semAt (Fw ro).round a.eval).run P w = r at *
  cases r with
  | ok x w' =>
    cases x <;> simp only [Oper.uponIn] at hh ⊢ <;>
      first
        | exact hh
        | exact ⟨hh.1, CallsIn.mono hh.2 (fun e w'' he => by
            cases e
            · exact he
            · exact he.elim
            · obtain ⟨_, _, h⟩ := he; exact h.elim)⟩
        | exact ⟨hh.1, RowsIn.mono hh.2 (fun _ _ he => he)⟩
        | exact ⟨hh.1, RoundIn.mono hh.2 (fun e w'' he => by
            cases e
            · exact he
            · exact he.elim
            · obtain ⟨_, _, h⟩ := he; exact h.elim)⟩
  | halt x w' => cases x <;> simp only [Oper.uponIn] at hh ⊢ <;> exact hh.elim
theorem wpOpIn_ofF {i : Nat} {a : Act} {w : World} {K' : Act → World → Prop} (h : wpOpIn (Fw ro) 0 P ops QF i K' a w) : wpOpIn (Fw ro) 0 P ops Q i K' a w := by
  unfold wpOpIn at *
  split
  · rename_i ho; simpa [ho] using h
  · rename_i o ho
    simp only [ho] at h
    split
    · rename_i hw; simp only [hw, if_true] at h; exact Oper.wpIn_ofF h
    · rename_i hw; simp only [hw] at h; exact h
theorem wpJ_sound (hK : ∀ a w, K a w → Q .normal a w) : ∀ (fuel : Nat) (listed : Array Bool) (a : Act) (w : World), wpJ ro P ops I A K fuel listed a w → wpAnyIn (Fw ro) 0 P .any ops Q fuel listed a w
  | 0, _, _, _, h => ⟨h.1, hK _ _ h.2⟩
  | fuel + 1, _, _, _, h => ⟨fun h0 => hK _ _ (h.1 h0), fun i hi => wpOpIn_ofF (wpOpIn_mono (fun a' w' hh => wpJ_sound hK fuel _ a' w' hh.2) (h.2 i hi))⟩
/-- In state a operation o yields v and turns nothing, wherever I stands; or its guard doesn't want it. -/
def YieldsI (P : Program) (ops : Array Oper) (I : World → Prop) (o : Oper) (v : Value) (a : Act) : Prop :=
  (Region.wanted o (yielded ops a.tmps) = true ∧ ∀ w, I w → (execOp a.eval o).run P w = .ok (.value v) w) ∨ (Region.wanted o (yielded ops a.tmps) = false ∧ v = undef)
def noDefer (o : Oper) : Bool := match o.op with
  | .defer _ => false
  | .select .. => false
  | _ => true
theorem noDefer_semAt {o : Oper} (h : noDefer o = true) (ro : Option Nat) (ρ : Operand → Value) : o.semAt ro ρ = execOp ρ o :=
  Oper.semAt_eq ro ρ o fun c hc => by simp [noDefer, hc] at h
theorem noDefer_select {o : Oper} (h : noDefer o = true) : ∀ cs b, o.op ≠ .select cs b := fun cs b hc => by simp [noDefer, hc] at h
theorem YieldsI.same {o : Oper} {v : Value} {a a' : Act} (hy : YieldsI P ops I o v a) (he : execOp a'.eval o = execOp a.eval o) (hw : Region.wanted o (yielded ops a'.tmps) = Region.wanted o (yielded ops a.tmps)) : YieldsI P ops I o v a' := by
  unfold YieldsI at *
  rw [he, hw]
  exact hy
theorem YieldsI.op {i : Nat} {o : Oper} {v : Value} {a : Act} {w : World} {K' : Act → World → Prop} (hn : noDefer o = true) (hi : ops[i]? = some o) (hy : YieldsI P ops I o v a) (hI : I w) (h : K' (a.put o.dst v) w) : wpOpIn (Fw ro) 0 P ops QF i K' a w := by
  unfold wpOpIn
  simp only [hi]
  rcases hy with ⟨hw, hv⟩ | ⟨hw, rfl⟩
  · simp only [hw, if_true, Oper.wpIn, noDefer_semAt hn, hv w hI, Oper.uponIn]; exact ⟨fun _ _ => trivial, h⟩
  · simp only [hw, Bool.false_eq_true, if_false]; exact ⟨fun _ _ => trivial, h⟩
/-- One operation oj, apart from oi: oi's value in its temporary makes no difference to it, nor it to oi. -/
theorem wpOpF_put {j : Nat} {oi oj : Oper} {v : Value} (hj : ops[j]? = some oj) (hap : oi.apart ops oj = true) (hsi : noDefer oi = true) (hsj : noDefer oj = true) {K' : Act → World → Prop} {a : Act} {w : World}
    (hy : YieldsI P ops I oi v a) (h : wpOpIn (Fw ro) 0 P ops QF j K' (a.put oi.dst v) w) : wpOpIn (Fw ro) 0 P ops QF j (fun a' w' => YieldsI P ops I oi v a' ∧ K' (a'.put oi.dst v) w') a w := by
  obtain ⟨h1, h2, h3⟩ := Oper.apart_spec hap
  have keep : ∀ (a : Act), YieldsI P ops I oi v a → ∀ u, YieldsI P ops I oi v (a.put oj.dst u) := fun a hy u => hy.same (execOp_put oi (noDefer_select hsi) a oj.dst u h3) (wanted_put oi a oj.dst u h3)
  have keepD : ∀ d, YieldsI P ops I oi v { a with defers := d :: a.defers } := fun d => hy.same rfl rfl
  unfold wpOpIn at *
  simp only [hj] at *
  rw [wanted_put oj a oi.dst v h1] at h
  split
  · rename_i hw
    simp only [hw, if_true] at h
    unfold Oper.wpIn at *
    refine ⟨fun _ _ => trivial, ?_⟩
    have h := h.2
    rw [noDefer_semAt hsj, execOp_put oj (noDefer_select hsj) a oi.dst v h1] at h
    rw [noDefer_semAt hsj]
    generalize (execOp a.eval oj).run P w = r at *
    cases r with
    | ok x w' =>
      cases x <;> simp only [Oper.uponIn] at h ⊢
      case value u => exact ⟨keep a hy u, by rw [← Act.put_comm a v u h2]; exact h⟩
      case skip => exact ⟨keep a hy _, by rw [← Act.put_comm a v undef h2]; exact h⟩
      case defer d =>
        refine ⟨keep _ (keepD d) _, ?_⟩
        rw [← Act.put_comm _ v undef h2, ← Act.put_defers]
        exact h
      case enter f args =>
        refine ⟨h.1, CallsIn.mono h.2 fun e w'' he => ?_⟩
        cases e with
        | returned u => exact ⟨keep a hy u, by rw [← Act.put_comm a v u h2]; exact he⟩
        | panicked c => exact he
        | outgrown => obtain ⟨_, _, h⟩ := he; exact h.elim
      case row row args => exact ⟨h.1, RowsIn.mono h.2 fun u w'' he => ⟨keep a hy u, by rw [← Act.put_comm a v u h2]; exact he⟩⟩
      case round l f tmps assign body =>
        refine ⟨h.1, RoundIn.mono h.2 fun e w'' he => ?_⟩
        cases e with
        | returned u => exact ⟨keep a hy u, by rw [← Act.put_comm a v u h2]; exact he⟩
        | panicked c => exact he
        | outgrown => obtain ⟨_, _, h⟩ := he; exact h.elim
    | halt x w' =>
      cases x <;> simp only [Oper.uponIn] at h ⊢ <;> exact h.elim
  · rename_i hw
    simp only [hw] at h
    exact ⟨fun _ _ => trivial, keep a hy _, by rw [← Act.put_comm a v undef h2]; exact h.2⟩
/-- Whoever has not come up waits for i, or is apart from it and one of A. -/
def freeA (ops : Array Oper) (nA : Nat) (listed : Array Bool) (i : Nat) : Bool :=
  match ops[i]? with
  | none => false
  | some oi => noDefer oi && (List.range ops.size).all fun j => Nat.beq j i || listed.getD j true || (match ops[j]? with
      | some oj => oj.after.any (fun e => Region.binds .any e && Nat.beq e.on i) || (oi.apart ops oj && Nat.blt j nA && noDefer oj)
      | none => true)
theorem wpJ_first {I' : World → Prop} {nA' : Nat} {i nA : Nat} (himp : ∀ j w w', Nat.blt j nA' = true → (Nat.blt j nA = true → I w → I w') → I' w → I' w') {oi : Oper} {v : Value} (hi : ops[i]? = some oi) :
    ∀ (fuel : Nat) (listed : Array Bool) (a : Act) (w : World), freeA ops nA' listed i = true → i ∈ Region.ready .any ops listed → I' w → YieldsI P ops I' oi v a →
      wpJ ro P ops I (fun j => Nat.blt j nA) K fuel (listed.setIfInBounds i true) (a.put oi.dst v) w → wpJ ro P ops I (fun j => Nat.blt j nA) K (fuel + 1) listed a w := by
  intro fuel
  induction fuel with
  | zero =>
    intro listed a w hf hr hI hy H
    have hn : noDefer oi = true := by simp [freeA, hi] at hf; exact hf.1
    refine ⟨fun h => (by rw [h] at hr; cases hr), fun j hj => ?_⟩
    by_cases hji : j = i
    · subst hji; exact hy.op hn hi hI ⟨fun _ h => h, H⟩
    · have := ready_mono hj hji
      rw [H.1] at this
      cases this
  | succ fuel ih =>
    intro listed a w hf hr hI hy H
    have hf0 := hf
    simp only [freeA, hi, Bool.and_eq_true, List.all_eq_true, List.mem_range] at hf0
    obtain ⟨hn, hall⟩ := hf0
    refine ⟨fun h => (by rw [h] at hr; cases hr), fun j hj => ?_⟩
    by_cases hji : j = i
    · subst hji; exact hy.op hn hi hI ⟨fun _ h => h, H⟩
    · have h1 := H.2 j (ready_mono hj hji)
      obtain ⟨hjun, oj, hoj, hdeps⟩ := mem_ready.1 hj
      have hnot : ∀ e ∈ oj.after, Region.binds .any e = true → e.on ≠ i := fun e he hb heq => by
        have h1 := hdeps e he hb
        have h0 := (mem_ready.1 hr).1
        rw [heq] at h1
        rcases Nat.lt_or_ge i listed.size with h' | h'
        · simp [h'] at h0 h1; rw [h0] at h1; cases h1
        · simp [Array.getElem?_eq_none h'] at h1
      have hfj := hall j (Array.getElem?_eq_some_iff.1 hoj).1
      have hbji : Nat.beq j i = false := by
        cases hb : Nat.beq j i
        · rfl
        · exact absurd (beq_of hb) hji
      simp only [hoj, hbji, hjun, Bool.or_eq_true, Bool.false_eq_true, false_or, Bool.and_eq_true] at hfj
      have hfj' : (oi.apart ops oj = true ∧ Nat.blt j nA' = true) ∧ noDefer oj = true := by
        rcases hfj with hw | hw
        · obtain ⟨e, he, hb⟩ := Array.any_eq_true'.1 hw
          simp only [Bool.and_eq_true] at hb
          exact absurd (beq_of hb.2) (hnot e he hb.1)
        · exact hw
      obtain ⟨⟨hap, hA⟩, hnj⟩ := hfj'
      have h2 := wpOpF_put hoj hap hn hnj hy h1
      refine wpOpIn_mono (fun a' w' h3 => ?_) h2
      obtain ⟨hy', hI', hK'⟩ := h3
      refine ⟨hI', ih (listed.setIfInBounds j true) a' w' ?_ (ready_mono hr (Ne.symm hji)) (himp j w w' hA hI' hI) hy' ?_⟩
      · simp only [freeA, hi, Bool.and_eq_true, List.all_eq_true, List.mem_range]
        refine ⟨hn, fun k hk => ?_⟩
        have := hall k hk
        simp only [Bool.or_eq_true] at this ⊢
        rcases this with (h | h) | h
        · exact .inl (.inl h)
        · refine .inl (.inr ?_)
          by_cases hjk : j = k
          · subst hjk; rw [hjun] at h; cases h
          · rw [getD_set_ne true hjk]; exact h
        · exact .inr h
      · rw [Array.setIfInBounds_comm _ _ hji]
        exact hK'

/-! ### The judgement -/
/-- What is to be shown of a region in whatever order, behind what is listed. -/
def JA (ro : Option Nat) (P : Program) (nt : Nat) (D : List Deferred) (ops : Array Oper) (I : World → Prop) (nA : Nat) (Q : Exit → Act → World → Prop) (fuel : Nat) (listed : Array Bool) (E : Env) (w : World) : Prop :=
  ∀ a, Ag nt D E a → wpJ ro P ops I (fun j => Nat.blt j nA) (Q .normal) fuel listed a w
variable {nt : Nat} {D : List Deferred} {E : Env} {w : World} {nA fuel i : Nat} {listed : Array Bool} {o : Oper}
theorem C_draw {id : Nat} (I : World → Prop) (nA : Nat) (hm : P.follows .mixedOrders = true) (n : Nat) (hn : ops.size = n) (h : ∀ w', Kp no w w' → JA ro P nt D ops I nA Q n (Array.replicate n false) E w') : C ro P nt D (.region id ops true) Q E w := fun a ha => by
  refine wpIn_region_any hm (wpJ_sound (I := I) (A := fun j => Nat.blt j nA) (K := Q .normal) (fun _ _ h => h) _ _ _ _ ?_)
  rw [hn]
  exact h _ (Kp.drew w) a ha
/-- An operation that reads alone is taken first. -/
theorem JA_q (i : Nat) (d : Nat) {v : Value} (ho : ops[i]? = some o) (hf : fine ops o nt = true) (hw : wantsE ops o E = some true) (hd : o.dst = some d) (hfr : freeA ops nA listed i = true) (hr : (Region.ready .any ops listed).contains i = true)
    (hI : I w) (hq : ∀ w', I w' → Qt P o E w' v) (hk : JA ro P nt D ops I nA Q fuel (listed.setIfInBounds i true) ((d, v) :: E) w) : JA ro P nt D ops I nA Q (fuel + 1) listed E w := fun a ha => by
  refine wpJ_first (fun _ _ _ h1 h2 h3 => h2 h1 h3) ho fuel listed a w hfr (by simpa using hr) hI (.inl ⟨wanted_of ha hw (guardLt_of (fine_guard hf)), fun w' hw' => hq w' hw' nt D a ha⟩) ?_
  have h3 := hk _ (ha.after v hf |> fun h => by unfold Sl.after at h; rw [hd] at h; exact h)
  have hput : a.put (some d) v = a.put o.dst v := by rw [hd]
  exact hput ▸ h3
/-- .. one whose value no world turns. -/
theorem JA_p (i d n' : Nat) {v : Value} (ho : ops[i]? = some o) (hf : fine ops o nt = true) (hw : wantsE ops o E = some true) (hd : o.dst = some d) (hfr : freeA ops n' listed i = true) (hr : (Region.ready .any ops listed).contains i = true)
    (hq : ∀ w', Qt P o E w' v) (hk : JA ro P nt D ops I nA Q fuel (listed.setIfInBounds i true) ((d, v) :: E) w) : JA ro P nt D ops I nA Q (fuel + 1) listed E w := fun a ha => by
  refine wpJ_first (I' := fun _ => True) (nA' := n') (fun _ _ _ _ _ h => h) ho fuel listed a w hfr (by simpa using hr) trivial (.inl ⟨wanted_of ha hw (guardLt_of (fine_guard hf)), fun w' _ => hq w' nt D a ha⟩) ?_
  have h3 := hk _ (ha.after v hf |> fun h => by unfold Sl.after at h; rw [hd] at h; exact h)
  have hput : a.put (some d) v = a.put o.dst v := by rw [hd]
  exact hput ▸ h3
/-- .. one that its guard doesn't want. -/
theorem JA_no (i n' : Nat) (ho : ops[i]? = some o) (hf : fine ops o nt = true) (hw : wantsE ops o E = some false) (hfr : freeA ops n' listed i = true) (hr : (Region.ready .any ops listed).contains i = true)
    (hn : ∀ d, o.dst = some d → E.get d = none) (hk : JA ro P nt D ops I nA Q fuel (listed.setIfInBounds i true) E w) : JA ro P nt D ops I nA Q (fuel + 1) listed E w := fun a ha => by
  refine wpJ_first (I' := fun _ => True) (nA' := n') (fun _ _ _ _ _ h => h) ho fuel listed a w hfr (by simpa using hr) trivial (.inr ⟨wanted_of ha hw (guardLt_of (fine_guard hf)), rfl⟩) ?_
  refine hk _ ?_
  have h := ha.after undef hf
  unfold Sl.after at h
  cases hd : o.dst with
  | none => rw [hd] at h; exact h
  | some d =>
    rw [hd] at h
    refine ⟨h.size, h.defers, fun t v hv => h.get t v ?_⟩
    have hne : d ≠ t := fun e => by rw [← e, hn d hd] at hv; cases hv
    rw [get_cons_other _ _ hne]
    exact hv
/-- The only one that may come up. -/
theorem JA_do (i : Nat) (d : Nat) (ho : ops[i]? = some o) (hf : fine ops o nt = true) (hw : wantsE ops o E = some true) (hd : o.dst = some d) (hr : Region.ready .any ops listed = [i])
    (hq : Does P o E w fun v w' => (Nat.blt i nA = true → I w') ∧ JA ro P nt D ops I nA Q fuel (listed.setIfInBounds i true) ((d, v) :: E) w') : JA ro P nt D ops I nA Q (fuel + 1) listed E w := fun a ha => by
  refine ⟨fun h => (by rw [hr] at h; cases h), fun j hj => ?_⟩
  rw [hr] at hj
  simp only [List.mem_singleton] at hj
  subst hj
  obtain ⟨nx, v, w', hrun, hnx, hI, hK⟩ := hq nt D a ha
  have ha' : Ag nt D ((d, v) :: E) (a.put o.dst v) := by
    have h := ha.after v hf
    unfold Sl.after at h
    rw [hd] at h ⊢
    exact h
  have h3 := hK _ ha'
  unfold wpOpIn
  simp only [ho, wanted_of ha hw (guardLt_of (fine_guard hf)), if_true, Oper.wpIn, fine_semAt hf, hrun]
  rcases hnx with rfl | ⟨rfl, rfl⟩
  · exact ⟨fun _ _ => trivial, fun h _ => hI h, h3⟩
  · exact ⟨fun _ _ => trivial, fun h _ => hI h, h3⟩
theorem JA_do0 (i : Nat) (ho : ops[i]? = some o) (hf : fine ops o nt = true) (hw : wantsE ops o E = some true) (hd : o.dst = none) (hr : Region.ready .any ops listed = [i])
    (hq : Does P o E w fun v w' => (Nat.blt i nA = true → I w') ∧ JA ro P nt D ops I nA Q fuel (listed.setIfInBounds i true) E w') : JA ro P nt D ops I nA Q (fuel + 1) listed E w := fun a ha => by
  refine ⟨fun h => (by rw [hr] at h; cases h), fun j hj => ?_⟩
  rw [hr] at hj
  simp only [List.mem_singleton] at hj
  subst hj
  obtain ⟨nx, v, w', hrun, hnx, hI, hK⟩ := hq nt D a ha
  have h3 := hK _ ha
  unfold wpOpIn
  simp only [ho, wanted_of ha hw (guardLt_of (fine_guard hf)), if_true, Oper.wpIn, fine_semAt hf, hrun]
  rcases hnx with rfl | ⟨rfl, rfl⟩
  · refine ⟨fun _ _ => trivial, fun h _ => hI h, ?_⟩
    simp only [hd, Act.put]
    exact h3
  · refine ⟨fun _ _ => trivial, fun h _ => hI h, ?_⟩
    simp only [hd, Act.put]
    exact h3
theorem JA_call (i : Nat) (d : Nat) {f : FuncId} {args : Array Value} {R : Ending → World → Prop} (ho : ops[i]? = some o) (hf : fine ops o nt = true) (hw : wantsE ops o E = some true) (hd : o.dst = some d) (hr : Region.ready .any ops listed = [i])
    (hq : CallsTo P o E w f args) (hc : Calls P f args w R)
    (hk : ∀ e w', R e w' → ∃ v, e = .returned v ∧ (Nat.blt i nA = true → I w') ∧ JA ro P nt D ops I nA Q fuel (listed.setIfInBounds i true) ((d, v) :: E) w') : JA ro P nt D ops I nA Q (fuel + 1) listed E w := fun a ha => by
  refine ⟨fun h => (by rw [hr] at h; cases h), fun j hj => ?_⟩
  rw [hr] at hj
  simp only [List.mem_singleton] at hj
  subst hj
  have h2 := hq nt D a ha
  unfold wpOpIn
  simp only [ho, wanted_of ha hw (guardLt_of (fine_guard hf)), if_true, Oper.wpIn, fine_semAt hf, h2, Oper.uponIn]
  refine ⟨fun _ _ => trivial, fun h => by simp [Fw] at h, ?_⟩
  refine (callsIn_fw_any ro hc).mono ?_
  rintro e w' hR
  obtain ⟨v, rfl, hI, hJ⟩ := hk e w' hR
  have ha' : Ag nt D ((d, v) :: E) (a.put o.dst v) := by
    have h := ha.after v hf
    unfold Sl.after at h
    rw [hd] at h ⊢
    exact h
  exact ⟨fun h _ => hI h, hJ _ ha'⟩
/-- All have come up. -/
theorem JA_end (hr : Region.ready .any ops listed = []) (h : ∀ a, Ag nt D E a → Q .normal a w) : JA ro P nt D ops I nA Q fuel listed E w := fun a ha => by
  cases fuel with
  | zero => exact ⟨hr, h a ha⟩
  | succ n => exact ⟨fun _ => h a ha, fun i hi => by rw [hr] at hi; cases hi⟩
theorem JA_split (d : Nat) {p : Prop} [Decidable p] (hd : E.get d = some (.bool (decide p))) (h1 : p → JA ro P nt D ops I nA Q fuel listed ((d, .bool true) :: E) w) (h2 : ¬ p → JA ro P nt D ops I nA Q fuel listed ((d, .bool false) :: E) w) : JA ro P nt D ops I nA Q fuel listed E w := by
  intro a ha
  by_cases h : p
  · rw [decide_eq_true h] at hd; exact h1 h a (ha.bind hd)
  · rw [decide_eq_false h] at hd; exact h2 h a (ha.bind hd)
theorem JA_splitB (d : Nat) {b : Bool} (hd : E.get d = some (.bool b)) (h1 : b = true → JA ro P nt D ops I nA Q fuel listed ((d, .bool true) :: E) w) (h2 : b = false → JA ro P nt D ops I nA Q fuel listed ((d, .bool false) :: E) w) : JA ro P nt D ops I nA Q fuel listed E w := by
  intro a ha
  cases b
  · exact h2 rfl a (ha.bind hd)
  · exact h1 rfl a (ha.bind hd)
end
end Go.Sl
