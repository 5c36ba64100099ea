/- A small logic over the fenced walk: changes of kind, structs that go by two whole numbers. -/
import Derived.Test.YtceeellnjckmiaaSl10
set_option linter.unusedVariables false
set_option linter.unusedSimpArgs false
namespace Go.Sl
open Go Go.RowKit
section
variable {P : Program} {o : Oper} {E : Env} {w w0 : World} {v : Value} {x y z : Operand} {t s e : TypeId} {i : Int}
theorem Q_cvU (ho : o.op = .convert s t x) (hx : evalE E x = some (.int .i64 i)) (hs : P.underlying s = some (.int .i64)) (ht : P.underlying t = some (.int .u64)) (h0 : 0 ≤ i ∧ i ≤ 9223372036854775807) : Qt P o E w (.int .u64 i) := fun nt D a ha => by
  have h1 : ∀ w, (underlying s).run P w = .ok (.int .i64) w := fun w => by simp [underlying, hs]
  have h2 : ∀ w, (underlying t).run P w = .ok (.int .u64) w := fun w => by simp [underlying, ht]
  have hw : IntKind.u64.wrap i = i := by simp [IntKind.wrap, IntKind.signed, IntKind.bits]; omega
  unfold execOp; rw [ho]; simp [ha.eval hx, convert, h1, h2, Conv.intToInt, hw]
theorem Q_cvI (ho : o.op = .convert s t x) (hx : evalE E x = some (.int .u64 i)) (hs : P.underlying s = some (.int .u64)) (ht : P.underlying t = some (.int .i64)) (h0 : 0 ≤ i ∧ i ≤ 9223372036854775807) : Qt P o E w (.int .i64 i) := fun nt D a ha => by
  have h1 : ∀ w, (underlying s).run P w = .ok (.int .u64) w := fun w => by simp [underlying, hs]
  have h2 : ∀ w, (underlying t).run P w = .ok (.int .i64) w := fun w => by simp [underlying, ht]
  unfold execOp; rw [ho]; simp [ha.eval hx, convert, h1, h2, Conv.intToInt, wrap_in (n := i) (by omega) h0.2]
theorem Q_shr1 (ho : o.op = .binOp .shr t x y e) (hx : evalE E x = some (.int .u64 i)) (hy : evalE E y = some (.int .u64 1)) : Qt P o E w (.int .u64 (i / 2)) := fun nt D a ha => by
  have h2 : i.fdiv 2 = i / 2 := Int.fdiv_eq_ediv_of_nonneg i (by decide)
  unfold execOp; rw [ho]; simp [ha.eval hx, ha.eval hy, eqGuard, binOp, Op.shift, IntKind.bits, h2]
/-- Two fields, each a whole number. -/
theorem equalIn_pair {f1 f2 : Field} (ht : P.underlying t = some (.struct #[f1, f2])) (hp : P.stoodInHeld t = false) (n1 : (f1.name == "_") = false) (n2 : (f2.name == "_") = false)
    (u1 : P.underlying f1.type = some (.int .i64)) (u2 : P.underlying f2.type = some (.int .i64))
    (p1 : ∀ (w : World) (a b : Int), (part f1.type #[.int .i64 a, .int .i64 b] f1.offset).run P w = .ok (.int .i64 a) w)
    (p2 : ∀ (w : World) (a b : Int), (part f2.type #[.int .i64 a, .int .i64 b] f2.offset).run P w = .ok (.int .i64 b) w) (k : Nat) (w : World) (a b c d : Int) :
    (Op.equalIn (k + 2) t (.agg #[.int .i64 a, .int .i64 b]) (.agg #[.int .i64 c, .int .i64 d])).run P w = .ok (decide (a = c ∧ b = d)) w := by
  have hf : P.fieldsOf t = #[f1, f2] := by simp [Program.fieldsOf, ht]
  rw [run_equalIn_struct w (k + 1) t _ _ (by rw [hf]; exact ht) hp, hf]
  have m1 : f1.name ≠ "_" := by simpa using n1
  have m2 : f2.name ≠ "_" := by simpa using n2
  simp only [Op.eqFields, m1, m2, ne_eq, not_false_eq_true, if_true, Sem.run_bind, p1, p2, Result.andThen_ok, run_equalIn_int w k f1.type .i64 .i64 _ _ u1, run_equalIn_int w k f2.type .i64 .i64 _ _ u2]
  by_cases h1 : a = c <;> by_cases h2 : b = d <;> simp [h1, h2, p2, run_equalIn_int w k f2.type .i64 .i64 _ _ u2]
theorem pairEq_of {f1 f2 : Field} (ht : P.underlying t = some (.struct #[f1, f2])) (hp : P.stoodInHeld t = false) (n1 : (f1.name == "_") = false) (n2 : (f2.name == "_") = false)
    (u1 : P.underlying f1.type = some (.int .i64)) (u2 : P.underlying f2.type = some (.int .i64))
    (p1 : ∀ (w : World) (a b : Int), (part f1.type #[.int .i64 a, .int .i64 b] f1.offset).run P w = .ok (.int .i64 a) w)
    (p2 : ∀ (w : World) (a b : Int), (part f2.type #[.int .i64 a, .int .i64 b] f2.offset).run P w = .ok (.int .i64 b) w) (hg : P.eqGuardType P.depth t = false) : PairEq P t :=
  ⟨hg, fun w a b c d => equalIn_pair ht hp n1 n2 u1 u2 p1 p2 9998 w a b c d⟩
theorem stKey_of {f1 f2 : Field} (ht : P.underlying t = some (.struct #[f1, f2])) (h : PairEq P t) (hc : ∀ (w : World) (b : Bool) (s : Stamp), (Instr.checkKey b 10000 t (akey s)).run P w = .ok () w) : StKey P t :=
  ⟨⟨_, ht⟩, hc, fun w a b c d => h.2 w a b c d⟩
end
end Go.Sl
