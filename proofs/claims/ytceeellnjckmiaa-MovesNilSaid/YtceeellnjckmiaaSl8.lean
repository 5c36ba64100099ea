/- A small logic over the fenced walk: loads of cells, ways that are known, calls in place, scopes, results. -/
import Derived.Test.YtceeellnjckmiaaSl7
import Derived.Scope
import Derived.LoopNIn
set_option linter.unusedVariables false
set_option linter.unusedSimpArgs false
namespace Go.Sl
open Go Go.RowKit
section
variable {P : Program} {o : Oper} {E : Env} {w w0 : World} {v v1 v2 : Value} {x y z : Operand} {t s e : TypeId} {L : Hp} {ad b : Addr} {es : List Value} {j n : Nat}
/-! ### 13. Loads of cells -/
theorem Q_ldC1 (hc : CellsAt w b es) (ho : o.op = .load t x) (hx : evalE E x = some (.pointer (some (b.add j)))) (ht : ∀ w, (isAgg t).run P w = .ok false w) (hv : cget es j = some v) : Qt P o E w v :=
  Q_load1 ho hx ht (hc j v (by rw [← cget_eq]; exact hv))
theorem Q_ldC1' (hc : CellsAt w b es) (ho : o.op = .load t x) (hx : evalE E x = some (.pointer (some b))) (ht : ∀ w, (isAgg t).run P w = .ok false w) (hv : cget es 0 = some v) : Qt P o E w v :=
  Q_ldC1 (j := 0) hc ho (by rw [hx, add_zero_]) ht hv
theorem Q_ldCK (es0 : List Value) (hc : CellsAt w b es) (ho : o.op = .load t x) (hx : evalE E x = some (.pointer (some (b.add j)))) (ht : ∀ w, (isAgg t).run P w = .ok true w) (hs : ∀ w, (sizeOf t).run P w = .ok n w) (hv : subL es j n = es0) (hn : es0.length = n) : Qt P o E w (.agg es0.toArray) := by
  refine Q_loadK ho hx ht (by rw [hn]; exact hs) ?_
  have := hc.sub j n
  rw [← hv, subL_eq]
  exact this
theorem Q_ldCK' (es0 : List Value) (hc : CellsAt w b es) (ho : o.op = .load t x) (hx : evalE E x = some (.pointer (some b))) (ht : ∀ w, (isAgg t).run P w = .ok true w) (hs : ∀ w, (sizeOf t).run P w = .ok n w) (hv : subL es 0 n = es0) (hn : es0.length = n) : Qt P o E w (.agg es0.toArray) :=
  Q_ldCK (j := 0) es0 hc ho (by rw [hx, add_zero_]) ht hs hv hn
/-! ### 14. Other forms of operations -/
theorem Q_toB {c c' : Bool} (h : Qt P o E w (.bool c)) (hc : c = c') : Qt P o E w (.bool c') := hc ▸ h
theorem Q_toI {k : IntKind} {i i' : Int} (h : Qt P o E w (.int k i)) (hi : i = i') : Qt P o E w (.int k i') := hi ▸ h
theorem Q_not2 {p : Prop} [Decidable p] (ho : o.op = .unOp .not t x) (hx : evalE E x = some (.bool (!decide p))) : Qt P o E w (.bool (decide p)) := Q_toB (Q_not ho hx) (by simp)
theorem Q_neqN {i j : Int} (ho : o.op = .binOp .neq t x y e) (hx : evalE E x = some (.int .i64 i)) (hy : evalE E y = some (.int .i64 j)) : Qt P o E w (.bool (!decide (i = j))) := Q_toB (Q_neq ho hx hy) (by simp)
theorem Q_neqSN {p q : ByteArray} (ho : o.op = .binOp .neq t x y e) (hx : evalE E x = some (.string p)) (hy : evalE E y = some (.string q)) : Qt P o E w (.bool (!decide (p = q))) := Q_toB (Q_neqS ho hx hy) (by simp)
theorem Q_eqNilT (ho : o.op = .binOp .eql t x y e) (hx : evalE E x = some (.pointer none)) (hy : evalE E y = some (.pointer none)) (ht : P.underlying t = some (.pointer (P.pointee t))) : Qt P o E w (.bool true) := Q_eqNilP ho hx hy ht
theorem Q_eqNilF (ho : o.op = .binOp .eql t x y e) (hx : evalE E x = some (.pointer (some ad))) (hy : evalE E y = some (.pointer none)) (ht : P.underlying t = some (.pointer (P.pointee t))) : Qt P o E w (.bool false) := Q_eqNilP ho hx hy ht
theorem Q_neNilT (ho : o.op = .binOp .neq t x y e) (hx : evalE E x = some (.pointer (some ad))) (hy : evalE E y = some (.pointer none)) (ht : P.underlying t = some (.pointer (P.pointee t))) : Qt P o E w (.bool true) := Q_neNilP ho hx hy ht
theorem Q_neNilF (ho : o.op = .binOp .neq t x y e) (hx : evalE E x = some (.pointer none)) (hy : evalE E y = some (.pointer none)) (ht : P.underlying t = some (.pointer (P.pointee t))) : Qt P o E w (.bool false) := Q_neNilP ho hx hy ht
/-- '==' of two structs, as closed facts. -/
theorem Q_eqlA {c : Bool} {us vs : Array Value} (ho : o.op = .binOp .eql t x y e) (hx : evalE E x = some (.agg us)) (hy : evalE E y = some (.agg vs)) (hg : P.eqGuardType P.depth t = false) (hr : ∀ w, (Op.equalIn 10000 t (.agg us) (.agg vs)).run P w = .ok c w) : Qt P o E w (.bool c) := fun nt D a ha => by
  unfold execOp; rw [ho]; simp [ha.eval hx, ha.eval hy, run_eqGuard_agg _ _ _ _ _ _ _ hg, run_eql_struct, hr]
theorem Q_ext {v : Value} (ho : o.op = .extract x n) (hx : evalE E x = some (.tuple es.toArray)) (hv : cget es n = some v) : Qt P o E w v := Q_extract ho hx (by rw [← hv, cget_eq]; simp)
/-! ### 15. Ways -/
section
variable {ro : Option Nat} {nt : Nat} {D : List Deferred} {ops : Array Oper} {Q : Exit → Act → World → Prop} {l : List Nat} {I : World → Prop} {nA fuel : Nat} {listed : Array Bool} {p : Prop} [Decidable p] {c : Operand} {cx cy : Code}
theorem C_ifN (hc : evalE E c = some (.bool (!decide p))) (h1 : ¬ p → C ro P nt D cx Q E w) (h2 : p → C ro P nt D cy Q E w) : C ro P nt D (.cond c cx cy) Q E w := by
  by_cases h : p
  · exact C_false (by rw [hc, decide_eq_true h]; rfl) (h2 h)
  · exact C_true (by rw [hc, decide_eq_false h]; rfl) (h1 h)
theorem C_ifNT (hc : evalE E c = some (.bool (!decide p))) (hp : ¬ p) (h : C ro P nt D cx Q E w) : C ro P nt D (.cond c cx cy) Q E w := C_true (by rw [hc, decide_eq_false hp]; rfl) h
theorem C_ifNF (hc : evalE E c = some (.bool (!decide p))) (hp : p) (h : C ro P nt D cy Q E w) : C ro P nt D (.cond c cx cy) Q E w := C_false (by rw [hc, decide_eq_true hp]; rfl) h
theorem J_set (d : Nat) {u : Value} (hd : E.get d = some u) (hu : u = v) (h : J ro P nt D ops Q l ((d, v) :: E) w) : J ro P nt D ops Q l E w := fun a ha => h a (ha.bind (hu ▸ hd))
theorem JA_set (d : Nat) {u : Value} (hd : E.get d = some u) (hu : u = v) (h : JA ro P nt D ops I nA Q fuel listed ((d, v) :: E) w) : JA ro P nt D ops I nA Q fuel listed E w := fun a ha => h a (ha.bind (hu ▸ hd))
theorem bT (hp : p) : Value.bool (decide p) = .bool true := by rw [decide_eq_true hp]
theorem bF (hp : ¬ p) : Value.bool (decide p) = .bool false := by rw [decide_eq_false hp]
theorem bNT (hp : ¬ p) : Value.bool (!decide p) = .bool true := by rw [decide_eq_false hp]; rfl
theorem bNF (hp : p) : Value.bool (!decide p) = .bool false := by rw [decide_eq_true hp]; rfl
theorem J_setT (d : Nat) (hd : E.get d = some (.bool (decide p))) (hp : p) (h : J ro P nt D ops Q l ((d, .bool true) :: E) w) : J ro P nt D ops Q l E w := J_set d hd (bT hp) h
theorem J_setF (d : Nat) (hd : E.get d = some (.bool (decide p))) (hp : ¬ p) (h : J ro P nt D ops Q l ((d, .bool false) :: E) w) : J ro P nt D ops Q l E w := J_set d hd (bF hp) h
theorem J_setNT (d : Nat) (hd : E.get d = some (.bool (!decide p))) (hp : ¬ p) (h : J ro P nt D ops Q l ((d, .bool true) :: E) w) : J ro P nt D ops Q l E w := J_set d hd (bNT hp) h
theorem J_setNF (d : Nat) (hd : E.get d = some (.bool (!decide p))) (hp : p) (h : J ro P nt D ops Q l ((d, .bool false) :: E) w) : J ro P nt D ops Q l E w := J_set d hd (bNF hp) h
theorem J_splitN (d : Nat) (hd : E.get d = some (.bool (!decide p))) (h1 : ¬ p → J ro P nt D ops Q l ((d, .bool true) :: E) w) (h2 : p → J ro P nt D ops Q l ((d, .bool false) :: E) w) : J ro P nt D ops Q l E w := by
  by_cases h : p
  · exact J_setNF d hd h (h2 h)
  · exact J_setNT d hd h (h1 h)
theorem JA_setT (d : Nat) (hd : E.get d = some (.bool (decide p))) (hp : p) (h : JA ro P nt D ops I nA Q fuel listed ((d, .bool true) :: E) w) : JA ro P nt D ops I nA Q fuel listed E w := JA_set d hd (bT hp) h
theorem JA_setF (d : Nat) (hd : E.get d = some (.bool (decide p))) (hp : ¬ p) (h : JA ro P nt D ops I nA Q fuel listed ((d, .bool false) :: E) w) : JA ro P nt D ops I nA Q fuel listed E w := JA_set d hd (bF hp) h
theorem JA_setNT (d : Nat) (hd : E.get d = some (.bool (!decide p))) (hp : ¬ p) (h : JA ro P nt D ops I nA Q fuel listed ((d, .bool true) :: E) w) : JA ro P nt D ops I nA Q fuel listed E w := JA_set d hd (bNT hp) h
theorem JA_setNF (d : Nat) (hd : E.get d = some (.bool (!decide p))) (hp : p) (h : JA ro P nt D ops I nA Q fuel listed ((d, .bool false) :: E) w) : JA ro P nt D ops I nA Q fuel listed E w := JA_set d hd (bNF hp) h
theorem JA_splitN (d : Nat) (hd : E.get d = some (.bool (!decide p))) (h1 : ¬ p → JA ro P nt D ops I nA Q fuel listed ((d, .bool true) :: E) w) (h2 : p → JA ro P nt D ops I nA Q fuel listed ((d, .bool false) :: E) w) : JA ro P nt D ops I nA Q fuel listed E w := by
  by_cases h : p
  · exact JA_setNF d hd h (h2 h)
  · exact JA_setNT d hd h (h1 h)
/-- A call, walked where it stands. -/
theorem J_in {i : Nat} (d : Nat) {f : FuncId} {args : Array Value} (ho : ops[i]? = some o) (hf : fine ops o nt = true) (hw : wantsE ops o E = some true) (hd : o.dst = some d) (hq : CallsTo P o E w f args)
    (h : Calls P f args w fun e w' => ∃ v, e = .returned v ∧ J ro P nt D ops Q l ((d, v) :: E) w') : J ro P nt D ops Q (i :: l) E w := J_call d ho hf hw hd hq h fun _ _ h => h
theorem JA_in (i : Nat) (d : Nat) {f : FuncId} {args : Array Value} (ho : ops[i]? = some o) (hf : fine ops o nt = true) (hw : wantsE ops o E = some true) (hd : o.dst = some d) (hr : Region.ready .any ops listed = [i]) (hq : CallsTo P o E w f args)
    (h : Calls P f args w fun e w' => ∃ v, e = .returned v ∧ (Nat.blt i nA = true → I w') ∧ JA ro P nt D ops I nA Q fuel (listed.setIfInBounds i true) ((d, v) :: E) w') : JA ro P nt D ops I nA Q (fuel + 1) listed E w := JA_call i d ho hf hw hd hr hq h fun _ _ h => h
end
/-! ### 16. Scopes -/
theorem stepR_scope {P : Program} {w : World} {b : Frame} {a : Act} {k : List Item} {cs : List Frame} {c : Code} : step P (lone (b.atR a (.code (.scope c) :: k)) cs w) = .next (lone (b.atR a (.code c :: .inScope c :: k)) cs w) :=
  step_lone_go (by simp [stepG, stepG.exec, Frame.atR])
theorem stepR_inScope {b : Frame} {a : Act} {k : List Item} {cs : List Frame} {c : Code} : step P (lone (b.atR a (.inScope c :: k)) cs w) = .next (lone (b.atR a k) cs w) :=
  step_lone_go (by simp [stepG, stepG.exec, Frame.atR])
section
variable {ro : Option Nat} {nt : Nat} {D : List Deferred} {Q : Exit → Act → World → Prop} {c : Code} {id : Nat}
theorem C_scope (h : C ro P nt D c (Exit.noGoto Q) E w) : C ro P nt D (.scope c) Q E w := fun a ha => by
  intro b k cs hro hb hr
  obtain ⟨e, a₁, w₁, hq, harr⟩ := h a ha b (.inScope c :: k) cs hro hb hr
  have h0 : (lone (b.atR a (.code (.scope c) :: k)) cs w).fenced P (Fw ro) := fenced_calm hb hr rfl
  cases e with
  | normal => exact ⟨.normal, a₁, w₁, hq, .head h0 stepR_scope (StepsIn.trans harr (.one (fenced_calm hb hr rfl) stepR_inScope))⟩
  | exit id' =>
    have hx : exitTo id' (.inScope c :: k) = exitTo id' k := by simp [exitTo]
    exact ⟨.exit id', a₁, w₁, hq, fun k' hk => .head h0 stepR_scope (harr.1 k' (by rw [hx]; exact hk)),
      fun hr' hk => let ⟨k₁, h1, h2⟩ := harr.2 hr' (by rw [hx]; exact hk); ⟨k₁, h1, .head h0 stepR_scope h2⟩⟩
  | goto l => exact hq.elim
  | ret => exact ⟨_, a₁, w₁, hq, .of_steps (.one h0 stepR_scope) (harr : _)⟩
  | panic ch => exact ⟨_, a₁, w₁, hq, .of_steps (.one h0 stepR_scope) (harr : _)⟩
  | outgrown => exact ⟨_, a₁, w₁, hq, .of_steps (.one h0 stepR_scope) (harr : _)⟩
theorem C_label {l : Nat} (h : ∀ a, Ag nt D E a → Q .normal a w) : C ro P nt D (.label l) Q E w := fun a ha => wpIn_label (h a ha)
theorem N_sc (h : ∀ a, Ag nt D E a → Q .normal a w) : ∀ a, Ag nt D E a → Exit.noGoto Q .normal a w := h
theorem X_sc (h : ∀ a, Ag nt D E a → Q (.exit id) a w) : ∀ a, Ag nt D E a → Exit.noGoto Q (.exit id) a w := h
theorem R_sc (h : ∀ a, Ag nt D E a → Q .ret a w) : ∀ a, Ag nt D E a → Exit.noGoto Q .ret a w := h
/-- A loop of few rounds, each walked where it stands. -/
theorem C_rounds (m : Nat) (h : C ro P nt D c (Exit.then (Code.roundsIn (Fw ro) 0 P c Q m) Q) E w) : C ro P nt D (.loop c) Q E w := fun a ha => wpIn_loop_rounds (m + 1) (h a ha)
theorem K_rnd {m : Nat} (h : C ro P nt D c (Exit.then (Code.roundsIn (Fw ro) 0 P c Q m) Q) E w) : ∀ a, Ag nt D E a → Exit.then (Code.roundsIn (Fw ro) 0 P c Q (m + 1)) Q .normal a w := fun a ha => h a ha
end
end
/-! ### 17. Results -/
section
variable {P : Program} {E : Env} {w w0 : World} {v v1 v2 v3 : Value} {t : TypeId} {L : Hp} {nt : Nat} {D : List Deferred} {fn : Func}
theorem tmp_at {a : Act} (ha : Ag nt D E a) {t : Nat} (hv : E.get t = some v) : a.tmps[t]?.getD undef = v := by
  have := ha.get t v hv
  rwa [Array.getD_eq_getD_getElem?] at this
theorem res0 (hr : fn.results = #[]) : ∀ a, Ag nt D E a → (results fn a.tmps).run P w = .ok (.tuple #[]) w := fun a ha => by
  simp [results, hr]
theorem res2 {t1 t2 : Nat} (hr : fn.results = #[.tmp t1, .tmp t2]) (h1 : E.get t1 = some v1) (h2 : E.get t2 = some v2) : ∀ a, Ag nt D E a → (results fn a.tmps).run P w = .ok (.tuple #[v1, v2]) w := fun a ha => by
  simp [results, hr, tmp_at ha h1, tmp_at ha h2]
theorem res3 {t1 t2 t3 : Nat} (hr : fn.results = #[.tmp t1, .tmp t2, .tmp t3]) (h1 : E.get t1 = some v1) (h2 : E.get t2 = some v2) (h3 : E.get t3 = some v3) : ∀ a, Ag nt D E a → (results fn a.tmps).run P w = .ok (.tuple #[v1, v2, v3]) w := fun a ha => by
  simp [results, hr, tmp_at ha h1, tmp_at ha h2, tmp_at ha h3]
theorem retI {k : IntKind} {i j : Int} (h : i = j) : Ending.returned (.int k i) = .returned (.int k j) := h ▸ rfl
theorem retB {b c : Bool} (h : b = c) : Ending.returned (.bool b) = .returned (.bool c) := h ▸ rfl
theorem retS {p q : ByteArray} (h : p = q) : Ending.returned (.string p) = .returned (.string q) := h ▸ rfl
theorem rdNil {α : Type} (d : Ty α) (w : World) : (tSl d).rd w [.slice none 0 0] [] := ⟨none, 0, rfl, by simp, by simp, fun i x hx => by simp at hx⟩
end
end Go.Sl
