/- A small logic over the fenced walk: the operations. -/
import Derived.Test.YtceeellnjckmiaaSl3
import Derived.Laws.Pointers
import Derived.Laws.StructEq
import Derived.Laws.Strings
set_option linter.unusedVariables false
set_option linter.unusedSimpArgs false
namespace Go.Sl
open Go Go.RowKit

def evalsE (E : Env) : List Operand → Option (List Value)
  | [] => some []
  | x :: r => match evalE E x, evalsE E r with
    | some v, some vs => some (v :: vs)
    | _, _ => none
theorem evals_eq {nt : Nat} {D : List Deferred} {E : Env} {a : Act} (h : Ag nt D E a) : ∀ {l : List Operand} {vs : List Value}, evalsE E l = some vs → l.map a.eval = vs
  | [], vs, hv => by simp [evalsE] at hv; simp [hv]
  | x :: r, vs, hv => by
    unfold evalsE at hv
    cases hx : evalE E x with
    | none => rw [hx] at hv; cases hv
    | some v =>
      cases hr : evalsE E r with
      | none => rw [hx, hr] at hv; cases hv
      | some us =>
        rw [hx, hr] at hv
        simp only [Option.some.injEq] at hv
        subst hv
        simp [h.eval hx, evals_eq h hr]
section
variable {P : Program} {o : Oper} {E : Env} {w w0 : World} {v v1 v2 : Value} {x y z : Operand} {t s e : TypeId} {L : Hp} {ad b : Addr}

/-! ### 7. Operations that read alone -/
theorem Q_move (ho : o.op = .move x) (hx : evalE E x = some v) : Qt P o E w v := fun nt D a ha => by
  unfold execOp; rw [ho]; simp only [ha.eval hx]; rfl
theorem Q_assign (ho : o.op = .assign x) (hx : evalE E x = some v) : Qt P o E w v := fun nt D a ha => by
  unfold execOp; rw [ho]; simp only [ha.eval hx]; rfl
theorem Q_pickT (ho : o.op = .pick x y z) (hx : evalE E x = some (.bool true)) (hy : evalE E y = some v) : Qt P o E w v := fun nt D a ha => by
  unfold execOp; rw [ho]; simp only [ha.eval hx, ha.eval hy]; rfl
theorem Q_pickF (ho : o.op = .pick x y z) (hx : evalE E x = some (.bool false)) (hz : evalE E z = some v) : Qt P o E w v := fun nt D a ha => by
  unfold execOp; rw [ho]; simp only [ha.eval hx, ha.eval hz]; rfl
theorem Q_load1 (ho : o.op = .load t x) (hx : evalE E x = some (.pointer (some ad))) (ht : ∀ w, (isAgg t).run P w = .ok false w) (hc : w.cell? ad = some v) : Qt P o E w v := fun nt D a ha => by
  unfold execOp; rw [ho]; simp [ha.eval hx, Instr.loadAt, Instr.sureAddr, loadVar, ht, hc]
theorem run_loadCellsFrom (ad : Addr) : ∀ (es : List Value) (i : Nat) (acc : Array Value), (∀ j v, es[j]? = some v → w.cell? (ad.add (i + j)) = some v) → (loadCellsFrom ad i es.length acc).run P w = .ok (acc ++ es.toArray) w
  | [], i, acc, _ => by simp [loadCellsFrom]
  | u :: r, i, acc, h => by
    have h0 := h 0 u rfl
    simp only [Nat.add_zero] at h0
    simp only [List.length_cons, loadCellsFrom, Sem.run_bind, run_load, h0, Result.andThen_ok]
    rw [run_loadCellsFrom ad r (i + 1) (acc.push u) (fun j v hv => by
      have := h (j + 1) v (by simpa using hv)
      rwa [show i + 1 + j = i + (j + 1) by omega])]
    simp
theorem run_loadVar_agg {es : List Value} (ht : ∀ w, (isAgg t).run P w = .ok true w) (hs : ∀ w, (sizeOf t).run P w = .ok es.length w) (hc : CellsAt w ad es) : (loadVar t ad).run P w = .ok (.agg es.toArray) w := by
  have := run_loadCellsFrom (P := P) (w := w) ad es 0 #[] (fun j v hv => by rw [Nat.zero_add]; exact hc j v hv)
  simp [loadVar, ht, hs, loadCells, this]
theorem Q_loadK {es : List Value} (ho : o.op = .load t x) (hx : evalE E x = some (.pointer (some ad))) (ht : ∀ w, (isAgg t).run P w = .ok true w) (hs : ∀ w, (sizeOf t).run P w = .ok es.length w) (hc : CellsAt w ad es) :
    Qt P o E w (.agg es.toArray) := fun nt D a ha => by
  unfold execOp; rw [ho]; simp [ha.eval hx, Instr.loadAt, Instr.sureAddr, run_loadVar_agg ht hs hc]
theorem Q_nil (ho : o.op = .nilCheck x) (hx : evalE E x = some (.pointer (some ad))) : Qt P o E w (.pointer (some ad)) := fun nt D a ha => by
  unfold execOp; rw [ho]; simp [ha.eval hx]
/-- A field's place. -/
def FieldOk (P : Program) (s : TypeId) (f off : Nat) : Prop := ∀ (a : Addr) (w : World), (Instr.fieldAt s (.pointer (some a)) f).run P w = .ok (.pointer (some (a.add off))) w
theorem fieldOk {s : TypeId} {f off n : Nat} {fs : Array Field} {q : Field} (hs : P.underlying s = some (.struct fs)) (hq : fs[f]? = some q) (ho : q.offset = off) (hz : ∀ w, (sizeOf q.type).run P w = .ok (n + 1) w) : FieldOk P s f off := fun a w => by
  have hu : ∀ w, (underlying s).run P w = .ok (.struct fs) w := fun w => by simp [underlying, hs]
  simp [Instr.fieldAt, hu, hq, Instr.sureAddr, fieldPlace, hz, ho]
theorem Q_fa0 {f off : Nat} (ho : o.op = .fieldAddr s x f) (hx : evalE E x = some (.pointer (some b))) (hf : FieldOk P s f off) : Qt P o E w (.pointer (some (b.add off))) := fun nt D a ha => by
  unfold execOp; rw [ho]; simp [ha.eval hx, hf b w]
theorem Q_fa {f off i k : Nat} (ho : o.op = .fieldAddr s x f) (hx : evalE E x = some (.pointer (some (b.add i)))) (hf : FieldOk P s f off) (hk : i + off = k) : Qt P o E w (.pointer (some (b.add k))) := by
  have := Q_fa0 (w := w) ho hx hf
  rwa [add_add, hk] at this
/-- An element's place. -/
theorem Q_ia {sz n cap : Nat} {i : Int} (ho : o.op = .indexAddr t x y) (hx : evalE E x = some (.slice (some b) n cap)) (hy : evalE E y = some (.int .i64 i)) (ht : P.underlying t = some (.slice e)) (hs : ∀ w, (sizeOf e).run P w = .ok sz w)
    (h0 : 0 ≤ i) (hn : i < n) : Qt P o E w (.pointer (some (b.add (i.toNat * sz)))) := fun nt D a ha => by
  have hu : ∀ w, (underlying t).run P w = .ok (.slice e) w := fun w => by simp [underlying, ht]
  unfold execOp; rw [ho]; simp [ha.eval hx, ha.eval hy, Instr.indexAt, asIntOf, hu, hs, h0, hn]
theorem Q_iaArr {sz n j : Nat} {i : Int} (ho : o.op = .indexAddr t x y) (hx : evalE E x = some (.pointer (some (b.add j)))) (hy : evalE E y = some (.int .i64 i)) (ht : P.underlying t = some (.array n e)) (hs : ∀ w, (sizeOf e).run P w = .ok sz w)
    (h0 : 0 ≤ i) (hn : i < n) : Qt P o E w (.pointer (some (b.add (j + i.toNat * sz)))) := fun nt D a ha => by
  have hu : ∀ w, (underlying t).run P w = .ok (.array n e) w := fun w => by simp [underlying, ht]
  unfold execOp; rw [ho]; simp [ha.eval hx, ha.eval hy, Instr.indexAt, asIntOf, hu, hs, h0, hn, Instr.sureAddr, add_add]
theorem Q_extract {vs : Array Value} {i : Nat} (ho : o.op = .extract x i) (hx : evalE E x = some (.tuple vs)) (hi : vs[i]? = some v) : Qt P o E w v := fun nt D a ha => by
  unfold execOp; rw [ho]; simp [ha.eval hx, Instr.extract, hi]
theorem Q_len {A : Option Addr} {n c : Nat} (ho : o.op = .call { callee := .builtin .len, args := #[x], argTypes := #[t] }) (hx : evalE E x = some (.slice A n c)) (ht : P.underlying t = some (.slice e)) : Qt P o E w (.int .i64 n) := fun nt D a ha => by
  have hu : ∀ w, (underlying t).run P w = .ok (.slice e) w := fun w => by simp [underlying, ht]
  unfold execOp; rw [ho]; simp [resolve, invoke, builtin, ha.eval hx, Builtin.len_, goInt, hu]
theorem Q_lenS {q : ByteArray} (ho : o.op = .call { callee := .builtin .len, args := #[x], argTypes := #[t] }) (hx : evalE E x = some (.string q)) (ht : P.underlying t = some .string) : Qt P o E w (.int .i64 q.size) := fun nt D a ha => by
  have hu : ∀ w, (underlying t).run P w = .ok .string w := fun w => by simp [underlying, ht]
  unfold execOp; rw [ho]; simp [resolve, invoke, builtin, ha.eval hx, Builtin.len_, goInt, hu]
theorem Q_not {c : Bool} (ho : o.op = .unOp .not t x) (hx : evalE E x = some (.bool c)) : Qt P o E w (.bool (!c)) := fun nt D a ha => by
  unfold execOp; rw [ho]; simp [ha.eval hx, Op.unary]
/-! #### whole numbers -/
section
variable {i j : Int}
theorem wrap_in {n : Int} (h1 : -9223372036854775808 ≤ n) (h2 : n ≤ 9223372036854775807) : IntKind.i64.wrap n = n := by
  simp [IntKind.wrap, IntKind.signed, IntKind.bits]; omega
theorem Q_add (ho : o.op = .binOp .add t x y e) (hx : evalE E x = some (.int .i64 i)) (hy : evalE E y = some (.int .i64 j)) (h1 : -9223372036854775808 ≤ i + j) (h2 : i + j ≤ 9223372036854775807) : Qt P o E w (.int .i64 (i + j)) := fun nt D a ha => by
  unfold execOp; rw [ho]; simp [ha.eval hx, ha.eval hy, eqGuard, binOp, Op.intArith, wrap_in h1 h2]
theorem Q_sub (ho : o.op = .binOp .sub t x y e) (hx : evalE E x = some (.int .i64 i)) (hy : evalE E y = some (.int .i64 j)) (h1 : -9223372036854775808 ≤ i - j) (h2 : i - j ≤ 9223372036854775807) : Qt P o E w (.int .i64 (i - j)) := fun nt D a ha => by
  unfold execOp; rw [ho]; simp [ha.eval hx, ha.eval hy, eqGuard, binOp, Op.intArith, wrap_in h1 h2]
theorem Q_lss (ho : o.op = .binOp .lss t x y e) (hx : evalE E x = some (.int .i64 i)) (hy : evalE E y = some (.int .i64 j)) : Qt P o E w (.bool (decide (i < j))) := fun nt D a ha => by
  unfold execOp; rw [ho]; simp [ha.eval hx, ha.eval hy, eqGuard, binOp, Op.intCmp]
theorem Q_leq (ho : o.op = .binOp .leq t x y e) (hx : evalE E x = some (.int .i64 i)) (hy : evalE E y = some (.int .i64 j)) : Qt P o E w (.bool (decide (i ≤ j))) := fun nt D a ha => by
  unfold execOp; rw [ho]; simp [ha.eval hx, ha.eval hy, eqGuard, binOp, Op.intCmp]
theorem Q_gtr (ho : o.op = .binOp .gtr t x y e) (hx : evalE E x = some (.int .i64 i)) (hy : evalE E y = some (.int .i64 j)) : Qt P o E w (.bool (decide (j < i))) := fun nt D a ha => by
  unfold execOp; rw [ho]; simp [ha.eval hx, ha.eval hy, eqGuard, binOp, Op.intCmp]
theorem Q_geq (ho : o.op = .binOp .geq t x y e) (hx : evalE E x = some (.int .i64 i)) (hy : evalE E y = some (.int .i64 j)) : Qt P o E w (.bool (decide (j ≤ i))) := fun nt D a ha => by
  unfold execOp; rw [ho]; simp [ha.eval hx, ha.eval hy, eqGuard, binOp, Op.intCmp]
theorem Q_eql (ho : o.op = .binOp .eql t x y e) (hx : evalE E x = some (.int .i64 i)) (hy : evalE E y = some (.int .i64 j)) : Qt P o E w (.bool (decide (i = j))) := fun nt D a ha => by
  unfold execOp; rw [ho]; simp [ha.eval hx, ha.eval hy, eqGuard, binOp, Op.intCmp]; rfl
theorem Q_neq (ho : o.op = .binOp .neq t x y e) (hx : evalE E x = some (.int .i64 i)) (hy : evalE E y = some (.int .i64 j)) : Qt P o E w (.bool (decide (i ≠ j))) := fun nt D a ha => by
  unfold execOp; rw [ho]; simp [ha.eval hx, ha.eval hy, eqGuard, binOp, Op.intCmp, bne]; rfl
end
theorem toList_eq {p q : ByteArray} : (p.toList == q.toList) = decide (p = q) := by
  by_cases h : p = q
  · subst h; simp
  · rw [decide_eq_false h]
    cases hb : p.toList == q.toList
    · rfl
    · exfalso
      refine h ?_
      have he : p.toList = q.toList := by simpa using hb
      rw [ByteArray.toList_eq, ByteArray.toList_eq] at he
      exact ByteArray.ext (Array.toList_inj.1 he)
theorem Q_eqlS {p q : ByteArray} (ho : o.op = .binOp .eql t x y e) (hx : evalE E x = some (.string p)) (hy : evalE E y = some (.string q)) : Qt P o E w (.bool (decide (p = q))) := fun nt D a ha => by
  unfold execOp; rw [ho]; simp [ha.eval hx, ha.eval hy, eqGuard, binOp, Op.stringOp, toList_eq]
theorem Q_neqS {p q : ByteArray} (ho : o.op = .binOp .neq t x y e) (hx : evalE E x = some (.string p)) (hy : evalE E y = some (.string q)) : Qt P o E w (.bool (decide (p ≠ q))) := fun nt D a ha => by
  unfold execOp; rw [ho]; simp [ha.eval hx, ha.eval hy, eqGuard, binOp, Op.stringOp, toList_eq]
theorem Q_eqNilP {A : Option Addr} (ho : o.op = .binOp .eql t x y e) (hx : evalE E x = some (.pointer A)) (hy : evalE E y = some (.pointer none)) (ht : P.underlying t = some (.pointer (P.pointee t))) : Qt P o E w (.bool A.isNone) := fun nt D a ha => by
  unfold execOp; rw [ho]; simp [ha.eval hx, ha.eval hy, eqGuard, run_eql_pointer_nil w t A ht]
theorem Q_neNilP {A : Option Addr} (ho : o.op = .binOp .neq t x y e) (hx : evalE E x = some (.pointer A)) (hy : evalE E y = some (.pointer none)) (ht : P.underlying t = some (.pointer (P.pointee t))) : Qt P o E w (.bool (!A.isNone)) := fun nt D a ha => by
  unfold execOp; rw [ho]; simp [ha.eval hx, ha.eval hy, eqGuard, run_neq_pointer_nil w t A ht]
/-- '==' of two structs that go by two whole numbers. -/
def PairEq (P : Program) (t : TypeId) : Prop := P.eqGuardType P.depth t = false ∧ ∀ (w : World) (a b c d : Int), (Op.equalIn 10000 t (.agg #[.int .i64 a, .int .i64 b]) (.agg #[.int .i64 c, .int .i64 d])).run P w = .ok (decide (a = c ∧ b = d)) w
theorem Q_eqlP {i j k l : Int} (ho : o.op = .binOp .eql t x y e) (hx : evalE E x = some (.agg #[.int .i64 i, .int .i64 j])) (hy : evalE E y = some (.agg #[.int .i64 k, .int .i64 l])) (hp : PairEq P t) : Qt P o E w (.bool (decide (i = k ∧ j = l))) := fun nt D a ha => by
  unfold execOp; rw [ho]; simp [ha.eval hx, ha.eval hy, run_eqGuard_agg _ _ _ _ _ _ _ hp.1, run_eql_struct, hp.2]
theorem Q_neqP {i j k l : Int} (ho : o.op = .binOp .neq t x y e) (hx : evalE E x = some (.agg #[.int .i64 i, .int .i64 j])) (hy : evalE E y = some (.agg #[.int .i64 k, .int .i64 l])) (hp : PairEq P t) : Qt P o E w (.bool (!decide (i = k ∧ j = l))) := fun nt D a ha => by
  unfold execOp; rw [ho]; simp [ha.eval hx, ha.eval hy, run_eqGuard_agg _ _ _ _ _ _ _ hp.1, run_neq_struct, hp.2]
/-- Whatever else reads alone: its run as a closed fact over the values. -/
theorem Q_op (f : Act → Sem Next) (hf : ∀ nt D a, Ag nt D E a → execOp a.eval o = f a) (hr : ∀ nt D a, Ag nt D E a → (f a).run P w = .ok (.value v) w) : Qt P o E w v := fun nt D a ha => by rw [hf nt D a ha]; exact hr nt D a ha
theorem Q_build {ps : Array (Nat × Operand)} {vs : List (Nat × Value)} (ho : o.op = .build t ps) (hv : ∀ nt D a, Ag nt D E a → (ps.map fun (i, x) => (i, a.eval x)) = vs.toArray) (hr : ∀ w, (Instr.build t vs.toArray).run P w = .ok v w) : Qt P o E w v := fun nt D a ha => by
  unfold execOp; rw [ho]; simp only [hv nt D a ha, Sem.run_bind, hr, Result.andThen_ok]; rfl
def evalsP (E : Env) : List (Nat × Operand) → Option (List (Nat × Value))
  | [] => some []
  | (i, x) :: r => match evalE E x, evalsP E r with
    | some v, some vs => some ((i, v) :: vs)
    | _, _ => none
theorem evalsP_eq {nt : Nat} {D : List Deferred} {a : Act} (h : Ag nt D E a) : ∀ {l : List (Nat × Operand)} {vs : List (Nat × Value)}, evalsP E l = some vs → l.map (fun p => (p.1, a.eval p.2)) = vs
  | [], vs, hv => by simp [evalsP] at hv; simp [hv]
  | (i, x) :: r, vs, hv => by
    unfold evalsP at hv
    cases hx : evalE E x with
    | none => rw [hx] at hv; cases hv
    | some v =>
      cases hr : evalsP E r with
      | none => rw [hx, hr] at hv; cases hv
      | some us =>
        rw [hx, hr] at hv
        simp only [Option.some.injEq] at hv
        subst hv
        simp [h.eval hx, evalsP_eq h hr]
theorem Q_bld {ps : List (Nat × Operand)} {vs : List (Nat × Value)} (ho : o.op = .build t ps.toArray) (hv : evalsP E ps = some vs) (hr : ∀ w, (Instr.build t vs.toArray).run P w = .ok v w) : Qt P o E w v :=
  Q_build ho (fun nt D a ha => by have := evalsP_eq ha hv; rw [← this]; simp) hr
/-! ### 8. Operations that turn the world -/
/-- A block's cells, as a list. -/
def blkL (g : Nat) (cs : List Value) (t : TypeId) : Ent := blk g (.cells cs.toArray t (0, 0))
def cl : Value → List Value
  | .agg cs => cs.toList
  | v => [v]
theorem cl_cells (v : Value) : v.cells = (cl v).toArray := by cases v <;> simp [Value.cells, cl]
/-- The cell at a place. -/
def cget : List Value → Nat → Option Value
  | [], _ => none
  | v :: _, 0 => some v
  | _ :: r, i + 1 => cget r i
theorem cget_eq : ∀ (l : List Value) (i : Nat), cget l i = l[i]?
  | [], i => rfl
  | v :: r, 0 => rfl
  | v :: r, i + 1 => by rw [cget, cget_eq r i]; rfl
def putL : List Value → Nat → List Value → List Value
  | l, _, [] => l
  | [], _, _ => []
  | _ :: r, 0, u :: us => u :: putL r 0 us
  | v :: r, i + 1, us => v :: putL r i us
def subL : List Value → Nat → Nat → List Value
  | _, _, 0 => []
  | [], _, _ => []
  | v :: r, 0, n + 1 => v :: subL r 0 n
  | _ :: r, i + 1, n => subL r i n
theorem subL_eq : ∀ (l : List Value) (i n : Nat), subL l i n = (l.drop i).take n
  | l, i, 0 => by cases l <;> cases i <;> simp [subL]
  | [], i, n + 1 => by cases i <;> simp [subL]
  | v :: r, 0, n + 1 => by simp [subL, subL_eq r 0 n]
  | v :: r, i + 1, n + 1 => by simp [subL, subL_eq r i (n + 1)]
theorem Q_ldB1 {g j k : Nat} {cs : List Value} {t' : TypeId} (hS : St w0 w L) (hl : look L k = some (blkL g cs t')) (ho : o.op = .load t x) (hx : evalE E x = some (.pointer (some ((⟨g, 0, none⟩ : Addr).add j)))) (ht : ∀ w, (isAgg t).run P w = .ok false w) (hv : cget cs j = some v) : Qt P o E w v := by
  refine Q_load1 ho hx ht ?_
  have := CellsAt.of_blk (hS.get hl) j v (by rw [← hv, cget_eq])
  exact this
theorem Q_ldBK {g j k n : Nat} {cs : List Value} {t' : TypeId} (es : List Value) (hS : St w0 w L) (hl : look L k = some (blkL g cs t')) (ho : o.op = .load t x) (hx : evalE E x = some (.pointer (some ((⟨g, 0, none⟩ : Addr).add j)))) (ht : ∀ w, (isAgg t).run P w = .ok true w)
    (hs : ∀ w, (sizeOf t).run P w = .ok n w) (hv : subL cs j n = es) (hn : es.length = n) : Qt P o E w (.agg es.toArray) := by
  refine Q_loadK ho hx ht (by rw [hn]; exact hs) ?_
  have := (CellsAt.of_blk (hS.get hl)).sub j n
  rw [← hv, subL_eq]
  exact this
/-- .. where the address is the block's begin. -/
theorem Q_ldB1' {g k : Nat} {cs : List Value} {t' : TypeId} (hS : St w0 w L) (hl : look L k = some (blkL g cs t')) (ho : o.op = .load t x) (hx : evalE E x = some (.pointer (some ⟨g, 0, none⟩))) (ht : ∀ w, (isAgg t).run P w = .ok false w) (hv : cget cs 0 = some v) : Qt P o E w v :=
  Q_ldB1 (j := 0) hS hl ho (by rw [hx, add_zero_]) ht hv
theorem Q_ldBK' {g k n : Nat} {cs : List Value} {t' : TypeId} (es : List Value) (hS : St w0 w L) (hl : look L k = some (blkL g cs t')) (ho : o.op = .load t x) (hx : evalE E x = some (.pointer (some ⟨g, 0, none⟩))) (ht : ∀ w, (isAgg t).run P w = .ok true w)
    (hs : ∀ w, (sizeOf t).run P w = .ok n w) (hv : subL cs 0 n = es) (hn : es.length = n) : Qt P o E w (.agg es.toArray) :=
  Q_ldBK (j := 0) es hS hl ho (by rw [hx, add_zero_]) ht hs hv hn
theorem D_box {K : Value → World → Prop} (k : Nat) (hS : St w0 w L) (ho : o.op = .box t x) (hx : evalE E x = some v)
    (h : ∀ g w', St w0 w' ((k, blkL g (cl v) t) :: L) → K (.pointer (some ⟨g, 0, none⟩)) w') : Does P o E w K := fun nt D a ha =>
  ⟨.value (.pointer (some ⟨w.heap.size, 0, none⟩)), _, w.alloc (.cells v.cells t), by unfold execOp; rw [ho]; simp only [ha.eval hx]; rfl, .inl rfl, h _ _ (by rw [cl_cells]; exact hS.alloc k _)⟩
theorem D_alloc {K : Value → World → Prop} (k : Nat) (hS : St w0 w L) (ho : o.op = .alloc t) (hz : ∀ w, (zeroValue t).run P w = .ok v w)
    (h : ∀ g w', St w0 w' ((k, blkL g (cl v) t) :: L) → K (.pointer (some ⟨g, 0, none⟩)) w') : Does P o E w K := fun nt D a ha =>
  ⟨.value (.pointer (some ⟨w.heap.size, 0, none⟩)), _, w.alloc (.cells v.cells t), by unfold execOp; rw [ho]; simp [Instr.alloc, hz, newVar, newRow], .inl rfl, h _ _ (by rw [cl_cells]; exact hS.alloc k _)⟩
theorem D_bs {K : Value → World → Prop} {n : Nat} {ps : List (Nat × Operand)} {vs : List (Nat × Value)} (k : Nat) (cs : List Value) (hS : St w0 w L) (ho : o.op = .buildSlice t n ps.toArray) (hv : evalsP E ps = some vs)
    (hr : ∀ w, (Instr.buildSlice t n vs.toArray).run P w = .ok (.slice (some ⟨w.heap.size, 0, none⟩) n n) (w.alloc (.cells cs.toArray e)))
    (h : ∀ g w', St w0 w' ((k, blkL g cs e) :: L) → K (.slice (some ⟨g, 0, none⟩) n n) w') : Does P o E w K := fun nt D a ha =>
  ⟨.value (.slice (some ⟨w.heap.size, 0, none⟩) n n), _, w.alloc (.cells cs.toArray e), by
    have := evalsP_eq ha hv
    unfold execOp; rw [ho]; simp only [List.map_toArray, Sem.run_bind]
    rw [show List.map (fun x => match x with | (i, x) => (i, a.eval x)) ps = vs from this, hr w]; rfl, .inl rfl, h _ _ (hS.alloc k _)⟩
theorem D_mkMap {K : Value → World → Prop} (k : Nat) (hS : St w0 w L) (ho : o.op = .makeMap t none)
    (h : ∀ g w', St w0 w' ((k, blk g (.map #[] 0)) :: L) → K (.map (some g)) w') : Does P o E w K := fun nt D a ha =>
  ⟨.value (.map (some w.heap.size)), _, w.alloc (.map #[] 0), by unfold execOp; rw [ho]; rfl, .inl rfl, h _ _ (hS.alloc k _)⟩
theorem set_list : ∀ (l : List Value) (j : Nat) (v : Value), j < l.length → putL l j [v] = l.set j v
  | [], j, v, h => by simp at h
  | u :: r, 0, v, _ => by simp [putL]
  | u :: r, j + 1, v, h => by simp [putL, set_list r j v (by simpa using h)]
theorem putL_length : ∀ (l : List Value) (j : Nat) (us : List Value), (putL l j us).length = l.length
  | l, j, [] => by cases l <;> simp [putL]
  | [], j, u :: us => by simp [putL]
  | v :: r, 0, u :: us => by simp [putL, putL_length r 0 us]
  | v :: r, j + 1, u :: us => by simp [putL, putL_length r j (u :: us)]
theorem putL_cons : ∀ (l : List Value) (j : Nat) (u : Value) (us : List Value), j < l.length → putL l j (u :: us) = putL (l.set j u) (j + 1) us
  | [], j, u, us, h => by simp at h
  | v :: r, 0, u, us, h => by cases us <;> simp [putL]
  | v :: r, j + 1, u, us, h => by
    have := putL_cons r j u us (by simpa using h)
    cases us <;> simp [putL] at this ⊢ <;> exact this
theorem run_storeCells {g : Nat} : ∀ (vs : List Value) (w : World) (cs : List Value) (t : TypeId) (j i : Nat), w.heap[g]? = some (.cells cs.toArray t (0, 0)) → (∀ v ∈ vs, v.oneCell' = true) → j + i + vs.length ≤ cs.length →
    ∃ w', (storeCells (⟨g, j, none⟩ : Addr) vs i).run P w = .ok () w' ∧ w'.heap[g]? = some (.cells (putL cs (j + i) vs).toArray t (0, 0)) ∧ Kp (· = g) w w'
  | [], w, cs, t, j, i, h, _, _ => ⟨w, rfl, by cases cs <;> exact h, Kp.refl _ _⟩
  | v :: r, w, cs, t, j, i, h, h1, hl => by
    have hlt : j + i < cs.length := by simp at hl; omega
    have hcell : w.cell? ⟨g, j + i, none⟩ = some cs[j + i] := by simp [World.cell?, h, List.getElem?_eq_getElem hlt]
    have hfz : w.frozen? ⟨g, j + i, none⟩ = false := by simp [World.frozen?, h]
    have hb : (w.setCell ⟨g, j + i, none⟩ v).heap[g]? = some (.cells (cs.set (j + i) v).toArray t (0, 0)) := by
      simp [World.setCell, Array.getElem?_modify, h]
    obtain ⟨w', hr, hb', hk⟩ := run_storeCells r (w.setCell ⟨g, j + i, none⟩ v) (cs.set (j + i) v) t j (i + 1) hb (fun u hu => h1 u (List.mem_cons_of_mem _ hu)) (by simp at hl ⊢; omega)
    refine ⟨w', ?_, ?_, ?_⟩
    · simp only [storeCells, Sem.run_bind, add_g]
      rw [run_store P w _ v _ (h1 v List.mem_cons_self), hcell, hfz]
      simpa using hr
    · rw [putL_cons _ _ _ _ hlt, Nat.add_assoc]; exact hb'
    · refine (Kp.setCell w ⟨g, j + i, none⟩ v).trans hk fun b hb => .inl hb
theorem D_store {K : Value → World → Prop} {g j n k : Nat} {cs : List Value} {t' : TypeId} (hS : St w0 w L) (hl : look L k = some (blkL g cs t')) (ho : o.op = .store t x y) (hx : evalE E x = some (.pointer (some ((⟨g, 0, none⟩ : Addr).add j))))
    (hy : evalE E y = some v) (hs : ∀ w, (sizeOf t).run P w = .ok n w) (hn : (cl v).length = n) (h1 : (cl v).all (·.oneCell') = true) (hj : Nat.ble (j + n) cs.length = true)
    (h : ∀ w', St w0 w' (upd L k (blkL g (putL cs j (cl v)) t')) → K undef w') : Does P o E w K := fun nt D a ha => by
  have hb := hS.get hl
  obtain ⟨w', hr, hb', hk⟩ := run_storeCells (P := P) (cl v) w cs t' j 0 hb (fun u hu => List.all_eq_true.1 h1 u hu) (by rw [hn, Nat.add_zero]; exact Nat.le_of_ble_eq_true hj)
  refine ⟨.skip, undef, w', ?_, .inr ⟨rfl, rfl⟩, h w' (hS.upd hl hk hb' fun b hb => .inl hb)⟩
  unfold execOp; rw [ho]
  have hn' : v.cells.size = n := by rw [cl_cells]; simpa using hn
  rw [add_g, Nat.zero_add] at hx
  have hr' : (storeCells (⟨g, j, none⟩ : Addr) v.cells.toList).run P w = .ok () w' := by rw [cl_cells]; exact hr
  simp [ha.eval hx, ha.eval hy, Instr.storeAt, Instr.sureAddr, storeVar, hs, hn', hr']
/-- .. at the block's begin. -/
theorem D_store' {K : Value → World → Prop} {g n k : Nat} {cs : List Value} {t' : TypeId} (hS : St w0 w L) (hl : look L k = some (blkL g cs t')) (ho : o.op = .store t x y) (hx : evalE E x = some (.pointer (some ⟨g, 0, none⟩)))
    (hy : evalE E y = some v) (hs : ∀ w, (sizeOf t).run P w = .ok n w) (hn : (cl v).length = n) (h1 : (cl v).all (·.oneCell') = true) (hj : Nat.ble (0 + n) cs.length = true)
    (h : ∀ w', St w0 w' (upd L k (blkL g (putL cs 0 (cl v)) t')) → K undef w') : Does P o E w K :=
  D_store hS hl ho (by rw [hx, add_zero_]) hy hs hn h1 hj h
/-! ### 9. Calls -/
theorem T_call {f : Operand} {xs : List Operand} {ts : Array TypeId} {k : FuncId} {vs : List Value} (ho : o.op = .call { callee := .value f, args := xs.toArray, argTypes := ts }) (hf : evalE E f = some (.func (.func k) #[] #[])) (hv : evalsE E xs = some vs)
    (he : ∀ args w, (callFunc k args).run P w = .ok (.enter k args) w) : CallsTo P o E w k vs.toArray := fun nt D a ha => by
  have := evals_eq ha hv
  unfold execOp; rw [ho]
  simp only [resolve, ha.eval hf, Deferred.ofValue, List.map_toArray, Sem.run_bind, Sem.run_pure, Result.andThen_ok, invoke]
  rw [show List.map a.eval xs = vs from this]
  simp [he]

/-! ### 10. Ways part -/
section
variable {ro : Option Nat} {nt : Nat} {D : List Deferred} {ops : Array Oper} {Q : Exit → Act → World → Prop} {l : List Nat}
theorem Ag.bind {a : Act} (h : Ag nt D E a) {d : Nat} (hd : E.get d = some v) : Ag nt D ((d, v) :: E) a :=
  ⟨h.size, h.defers, fun t u hu => by
    by_cases e : d = t
    · subst e
      rw [get_cons_same] at hu
      cases hu
      exact h.get _ _ hd
    · rw [get_cons_other _ _ e] at hu
      exact h.get _ _ hu⟩
theorem J_split (d : Nat) {p : Prop} [Decidable p] (hd : E.get d = some (.bool (decide p))) (h1 : p → J ro P nt D ops Q l ((d, .bool true) :: E) w) (h2 : ¬ p → J ro P nt D ops Q l ((d, .bool false) :: E) w) : J ro P nt D ops Q l E w := by
  intro a ha
  by_cases h : p
  · rw [decide_eq_true h] at hd; exact h1 h a (ha.bind hd)
  · rw [decide_eq_false h] at hd; exact h2 h a (ha.bind hd)
theorem J_splitB (d : Nat) {b : Bool} (hd : E.get d = some (.bool b)) (h1 : b = true → J ro P nt D ops Q l ((d, .bool true) :: E) w) (h2 : b = false → J ro P nt D ops Q l ((d, .bool false) :: E) w) : J ro P nt D ops Q l E w := by
  intro a ha
  cases b
  · exact h2 rfl a (ha.bind hd)
  · exact h1 rfl a (ha.bind hd)
end
/-- One result. -/
theorem res1 {nt : Nat} {D : List Deferred} {fn : Func} {t : Nat} (hr : fn.results = #[.tmp t]) (hv : E.get t = some v) : ∀ a, Ag nt D E a → (results fn a.tmps).run P w = .ok v w := fun a ha => by
  have := ha.get t v hv
  rw [Array.getD_eq_getD_getElem?] at this
  simp [results, hr, this]
end
end Go.Sl
