/- The texts Ob, So2, merged. Proved: what their theorems say, with no condition but those written. -/
import Derived.Test.YtceeellnjckmiaaProg
import Derived.WalkKit
import Derived.Test.YtceeellnjckmiaaBase2
/- Printed by a program of mine (gen.py). -/
set_option linter.unusedVariables false
set_option linter.unusedSimpArgs false
set_option maxRecDepth 100000
namespace Go.Proofs.Ytceeellnjckmiaa
open Go Go.Sl
theorem fo23_0 : FieldOk Try.prog 23 0 0 := fieldOk Try.underlying23 rfl rfl Try.sizeOf3
theorem fo23_1 : FieldOk Try.prog 23 1 1 := fieldOk Try.underlying23 rfl rfl Try.sizeOf3
theorem pe23 : PairEq Try.prog 23 := pairEq_of Try.underlying23 (by kernel_rfl) rfl rfl Try.underlying3 Try.underlying3 (fun _ _ _ => by kernel_rfl) (fun _ _ _ => by kernel_rfl) (by kernel_rfl)
theorem mixedOrders : Try.prog.follows .mixedOrders = true := by kernel_rfl
theorem fo55_1 : FieldOk Try.prog 55 1 2 := fieldOk Try.underlying55 rfl rfl Try.sizeOf3
theorem fo55_0 : FieldOk Try.prog 55 0 0 := fieldOk Try.underlying55 rfl rfl Try.sizeOf23
theorem replica_calls (w : World) (n : Int) :
    Calls Try.prog 88 #[.int .i64 n] w fun e w' => e = .returned (.bool (decide (isRep n))) ∧ Kp no w w' := by
  have hS0 := St.start w
  refine fn_calls' 9 (args := [_]) Try.func88 rfl rfl rfl ?_
  refine C_seq ?_
  refine C_region ?_
  refine J_q 2 rfl rfl rfl rfl (Q_assign rfl rfl) ?_
  refine J_nil (K_seq ?_)
  refine C_seq ?_
  refine C_region ?_
  refine J_q 3 rfl rfl rfl rfl (Q_move rfl rfl) ?_
  refine J_q 4 rfl rfl rfl rfl (Q_geq rfl rfl rfl) ?_
  refine J_q 5 rfl rfl rfl rfl (Q_move rfl rfl) ?_
  refine J_split 5 rfl (fun h1 => ?_) (fun h1 => ?_)
  · refine J_q 6 rfl rfl rfl rfl (Q_move rfl rfl) ?_
    refine J_q 7 rfl rfl rfl rfl (Q_lss rfl rfl rfl) ?_
    refine J_q 8 rfl rfl rfl rfl (Q_pickT rfl rfl rfl) ?_
    refine J_q 2 rfl rfl rfl rfl (Q_assign rfl rfl) ?_
    refine J_nil (K_seq ?_)
    refine C_ret (body_ret (res1 rfl rfl) ?_)
    exact ⟨retB (by first | rfl | (simp only [decide_eq_decide]; omega) | (refine (decide_eq_true ?_).symm; omega) | (refine (decide_eq_false ?_).symm; omega) | (rw [← decide_not, decide_eq_decide]; omega)), hS0.kept (k := 0) rfl⟩
  · refine J_no rfl rfl rfl ?_
    refine J_no rfl rfl rfl ?_
    refine J_q 8 rfl rfl rfl rfl (Q_pickF rfl rfl rfl) ?_
    refine J_q 2 rfl rfl rfl rfl (Q_assign rfl rfl) ?_
    refine J_nil (K_seq ?_)
    refine C_ret (body_ret (res1 rfl rfl) ?_)
    exact ⟨retB (by first | rfl | (simp only [decide_eq_decide]; omega) | (refine (decide_eq_true ?_).symm; omega) | (refine (decide_eq_false ?_).symm; omega) | (rw [← decide_not, decide_eq_decide]; omega)), hS0.kept (k := 0) rfl⟩

theorem Right_calls (w : World) (s : Stamp) :
    Calls Try.prog 54 #[.agg (stL s).toArray] w fun e w' => e = .returned (.bool (decide (right s))) ∧ Kp no w w' := by
  have hS0 := St.start w
  refine fn_calls' 16 (args := [_]) Try.func54 rfl rfl rfl ?_
  refine C_seq ?_
  refine C_region ?_
  refine J_do 1 rfl rfl rfl rfl (D_box 1 hS0 rfl rfl (fun g1 w1 hS1 => ?_))
  refine J_q 2 rfl rfl rfl rfl (Q_assign rfl rfl) ?_
  refine J_nil (K_seq ?_)
  refine C_seq ?_
  refine C_region ?_
  refine J_q 3 rfl rfl rfl rfl (Q_fa0 rfl rfl fo23_0) ?_
  refine J_q 4 rfl rfl rfl rfl (Q_ldB1 (k := 1) hS1 rfl rfl rfl Try.isAgg3 rfl) ?_
  refine J_q 5 rfl rfl rfl rfl (Q_geq rfl rfl rfl) ?_
  refine J_q 6 rfl rfl rfl rfl (Q_move rfl rfl) ?_
  refine J_split 6 rfl (fun h2 => ?_) (fun h2 => ?_)
  · refine J_q 7 rfl rfl rfl rfl (Q_fa0 rfl rfl fo23_0) ?_
    refine J_q 8 rfl rfl rfl rfl (Q_ldB1 (k := 1) hS1 rfl rfl rfl Try.isAgg3 rfl) ?_
    refine J_q 9 rfl rfl rfl rfl (Q_leq rfl rfl rfl) ?_
    refine J_q 10 rfl rfl rfl rfl (Q_pickT rfl rfl rfl) ?_
    refine J_q 11 rfl rfl rfl rfl (Q_move rfl rfl) ?_
    refine J_split 11 rfl (fun h3 => ?_) (fun h3 => ?_)
    · refine J_q 12 rfl rfl rfl rfl (Q_fa0 rfl rfl fo23_1) ?_
      refine J_q 13 rfl rfl rfl rfl (Q_ldB1 (k := 1) hS1 rfl rfl rfl Try.isAgg3 rfl) ?_
      refine J_call 14 rfl rfl rfl rfl (T_call rfl rfl rfl Try.call88) (replica_calls _ s.r) ?_
      rintro _ w4 ⟨rfl, hk4⟩
      have hS4 := hS1.kp0 hk4
      refine ⟨_, rfl, ?_⟩
      refine J_q 15 rfl rfl rfl rfl (Q_pickT rfl rfl rfl) ?_
      refine J_q 2 rfl rfl rfl rfl (Q_assign rfl rfl) ?_
      refine J_nil (K_seq ?_)
      refine C_ret (body_ret (res1 rfl rfl) ?_)
      exact ⟨retB (by first | rfl | (simp only [decide_eq_decide]; omega) | (refine (decide_eq_true ?_).symm; omega) | (refine (decide_eq_false ?_).symm; omega) | (rw [← decide_not, decide_eq_decide]; omega)), hS4.kept (k := 0) rfl⟩
    · refine J_no rfl rfl rfl ?_
      refine J_no rfl rfl rfl ?_
      refine J_no rfl rfl rfl ?_
      refine J_q 15 rfl rfl rfl rfl (Q_pickF rfl rfl rfl) ?_
      refine J_q 2 rfl rfl rfl rfl (Q_assign rfl rfl) ?_
      refine J_nil (K_seq ?_)
      refine C_ret (body_ret (res1 rfl rfl) ?_)
      exact ⟨retB (by first | rfl | (simp only [decide_eq_decide]; omega) | (refine (decide_eq_true ?_).symm; omega) | (refine (decide_eq_false ?_).symm; omega) | (rw [← decide_not, decide_eq_decide]; omega)), hS1.kept (k := 0) rfl⟩
  · refine J_no rfl rfl rfl ?_
    refine J_no rfl rfl rfl ?_
    refine J_no rfl rfl rfl ?_
    refine J_q 10 rfl rfl rfl rfl (Q_pickF rfl rfl rfl) ?_
    refine J_q 11 rfl rfl rfl rfl (Q_move rfl rfl) ?_
    refine J_no rfl rfl rfl ?_
    refine J_no rfl rfl rfl ?_
    refine J_no rfl rfl rfl ?_
    refine J_q 15 rfl rfl rfl rfl (Q_pickF rfl rfl rfl) ?_
    refine J_q 2 rfl rfl rfl rfl (Q_assign rfl rfl) ?_
    refine J_nil (K_seq ?_)
    refine C_ret (body_ret (res1 rfl rfl) ?_)
    exact ⟨retB (by first | rfl | (simp only [decide_eq_decide]; omega) | (refine (decide_eq_true ?_).symm; omega) | (refine (decide_eq_false ?_).symm; omega) | (rw [← decide_not, decide_eq_decide]; omega)), hS1.kept (k := 0) rfl⟩

theorem Node_calls (w : World) (s : Stamp) :
    Calls Try.prog 55 #[.agg (stL s).toArray] w fun e w' => e = .returned (.bool (decide (isNode s))) ∧ Kp no w w' := by
  have hS0 := St.start w
  refine fn_calls' 15 (args := [_]) Try.func55 rfl rfl rfl ?_
  refine C_seq ?_
  refine C_region ?_
  refine J_do 1 rfl rfl rfl rfl (D_box 1 hS0 rfl rfl (fun g1 w1 hS1 => ?_))
  refine J_q 2 rfl rfl rfl rfl (Q_assign rfl rfl) ?_
  refine J_nil (K_seq ?_)
  refine C_seq ?_
  refine C_region ?_
  refine J_q 3 rfl rfl rfl rfl (Q_ldBK' (k := 1) (stL s) hS1 rfl rfl rfl Try.isAgg23 Try.sizeOf23 rfl rfl) ?_
  refine J_call 4 rfl rfl rfl rfl (T_call rfl rfl rfl Try.call54) (Right_calls _ s) ?_
  rintro _ w2 ⟨rfl, hk2⟩
  have hS2 := hS1.kp0 hk2
  refine ⟨_, rfl, ?_⟩
  refine J_q 5 rfl rfl rfl rfl (Q_move rfl rfl) ?_
  refine J_split 5 rfl (fun h3 => ?_) (fun h3 => ?_)
  · refine J_no rfl rfl rfl ?_
    refine J_no rfl rfl rfl ?_
    refine J_no rfl rfl rfl ?_
    refine J_q 9 rfl rfl rfl rfl (Q_pickT rfl rfl rfl) ?_
    refine J_q 10 rfl rfl rfl rfl (Q_move rfl rfl) ?_
    refine J_no rfl rfl rfl ?_
    refine J_no rfl rfl rfl ?_
    refine J_no rfl rfl rfl ?_
    refine J_q 14 rfl rfl rfl rfl (Q_pickT rfl rfl rfl) ?_
    refine J_q 2 rfl rfl rfl rfl (Q_assign rfl rfl) ?_
    refine J_nil (K_seq ?_)
    refine C_ret (body_ret (res1 rfl rfl) ?_)
    exact ⟨retB (by first | rfl | (simp only [decide_eq_decide]; omega) | (refine (decide_eq_true ?_).symm; omega) | (refine (decide_eq_false ?_).symm; omega) | (rw [← decide_not, decide_eq_decide]; omega)), hS2.kept (k := 0) rfl⟩
  · refine J_q 6 rfl rfl rfl rfl (Q_ldBK' (k := 1) (stL s) hS2 rfl rfl rfl Try.isAgg23 Try.sizeOf23 rfl rfl) ?_
    refine J_q 7 rfl rfl rfl rfl (Q_bld (v := .agg ([.int .i64 0, .int .i64 0]).toArray) (ps := []) rfl rfl (fun _ => by kernel_rfl)) ?_
    refine J_q 8 rfl rfl rfl rfl (Q_eqlP rfl rfl rfl pe23) ?_
    refine J_q 9 rfl rfl rfl rfl (Q_pickF rfl rfl rfl) ?_
    refine J_q 10 rfl rfl rfl rfl (Q_move rfl rfl) ?_
    refine J_split 10 rfl (fun h4 => ?_) (fun h4 => ?_)
    · refine J_no rfl rfl rfl ?_
      refine J_no rfl rfl rfl ?_
      refine J_no rfl rfl rfl ?_
      refine J_q 14 rfl rfl rfl rfl (Q_pickT rfl rfl rfl) ?_
      refine J_q 2 rfl rfl rfl rfl (Q_assign rfl rfl) ?_
      refine J_nil (K_seq ?_)
      refine C_ret (body_ret (res1 rfl rfl) ?_)
      exact ⟨retB (by first | rfl | (simp only [decide_eq_decide]; omega) | (refine (decide_eq_true ?_).symm; omega) | (refine (decide_eq_false ?_).symm; omega) | (rw [← decide_not, decide_eq_decide]; omega)), hS2.kept (k := 0) rfl⟩
    · refine J_q 11 rfl rfl rfl rfl (Q_ldBK' (k := 1) (stL s) hS2 rfl rfl rfl Try.isAgg23 Try.sizeOf23 rfl rfl) ?_
      refine J_q 12 rfl rfl rfl rfl (Q_bld (v := .agg ([.int .i64 0, .int .i64 1]).toArray) (ps := [(1, .const (.int .i64 1))]) rfl rfl (fun _ => by kernel_rfl)) ?_
      refine J_q 13 rfl rfl rfl rfl (Q_eqlP rfl rfl rfl pe23) ?_
      refine J_q 14 rfl rfl rfl rfl (Q_pickF rfl rfl rfl) ?_
      refine J_q 2 rfl rfl rfl rfl (Q_assign rfl rfl) ?_
      refine J_nil (K_seq ?_)
      refine C_ret (body_ret (res1 rfl rfl) ?_)
      exact ⟨retB (by first | rfl | (simp only [decide_eq_decide]; omega) | (refine (decide_eq_true ?_).symm; omega) | (refine (decide_eq_false ?_).symm; omega) | (rw [← decide_not, decide_eq_decide]; omega)), hS2.kept (k := 0) rfl⟩

theorem Compare_calls (w : World) (a : Stamp) (b : Stamp) :
    Calls Try.prog 63 #[.agg (stL a).toArray, .agg (stL b).toArray] w fun e w' => e = .returned (.int .i64 (cmp a b)) ∧ Kp no w w' := by
  have hS0 := St.start w
  refine fn_calls' 29 (args := [_, _]) Try.func63 rfl rfl rfl ?_
  refine C_seq ?_
  refine C_region ?_
  refine J_do 2 rfl rfl rfl rfl (D_box 1 hS0 rfl rfl (fun g1 w1 hS1 => ?_))
  refine J_do 3 rfl rfl rfl rfl (D_box 2 hS1 rfl rfl (fun g2 w2 hS2 => ?_))
  refine J_q 4 rfl rfl rfl rfl (Q_assign rfl rfl) ?_
  refine J_nil (K_seq ?_)
  refine C_seq ?_
  refine C_block ?_
  refine C_seq ?_
  refine C_region ?_
  refine J_q 6 rfl rfl rfl rfl (Q_ldBK' (k := 1) (stL a) hS2 rfl rfl rfl Try.isAgg23 Try.sizeOf23 rfl rfl) ?_
  refine J_q 7 rfl rfl rfl rfl (Q_ldBK' (k := 2) (stL b) hS2 rfl rfl rfl Try.isAgg23 Try.sizeOf23 rfl rfl) ?_
  refine J_q 8 rfl rfl rfl rfl (Q_eqlP rfl rfl rfl pe23) ?_
  refine J_q 5 rfl rfl rfl rfl (Q_assign rfl rfl) ?_
  refine J_nil (K_seq ?_)
  refine C_if rfl (fun h3 => ?_) (fun h3 => ?_)
  · refine C_seq ?_
    refine C_region ?_
    refine J_q 4 rfl rfl rfl rfl (Q_assign rfl rfl) ?_
    refine J_nil (K_seq ?_)
    refine C_ret (R_blk (R_then (body_ret (res1 rfl rfl) ?_)))
    exact ⟨retI (by first | (rw [cmp_eq (by assumption)]) | (rw [cmp_lt (by omega)]) | (rw [cmp_gt (by assumption) (by omega)])), hS2.kept (k := 0) rfl⟩
  · refine C_seq ?_
    refine C_region ?_
    refine J_q 10 rfl rfl rfl rfl (Q_fa0 rfl rfl fo23_0) ?_
    refine J_q 11 rfl rfl rfl rfl (Q_ldB1 (k := 1) hS2 rfl rfl rfl Try.isAgg3 rfl) ?_
    refine J_q 12 rfl rfl rfl rfl (Q_fa0 rfl rfl fo23_0) ?_
    refine J_q 13 rfl rfl rfl rfl (Q_ldB1 (k := 2) hS2 rfl rfl rfl Try.isAgg3 rfl) ?_
    refine J_q 14 rfl rfl rfl rfl (Q_lss rfl rfl rfl) ?_
    refine J_q 15 rfl rfl rfl rfl (Q_move rfl rfl) ?_
    refine J_split 15 rfl (fun h4 => ?_) (fun h4 => ?_)
    · refine J_no rfl rfl rfl ?_
      refine J_no rfl rfl rfl ?_
      refine J_no rfl rfl rfl ?_
      refine J_no rfl rfl rfl ?_
      refine J_no rfl rfl rfl ?_
      refine J_noU 21 rfl rfl rfl rfl ?_
      refine J_no rfl rfl rfl ?_
      refine J_no rfl rfl rfl ?_
      refine J_no rfl rfl rfl ?_
      refine J_no rfl rfl rfl ?_
      refine J_no rfl rfl rfl ?_
      refine J_no rfl rfl rfl ?_
      refine J_q 28 rfl rfl rfl rfl (Q_pickT rfl rfl rfl) ?_
      refine J_q 9 rfl rfl rfl rfl (Q_assign rfl rfl) ?_
      refine J_nil (K_seq ?_)
      refine C_true rfl ?_
      refine C_seq ?_
      refine C_region ?_
      refine J_q 4 rfl rfl rfl rfl (Q_assign rfl rfl) ?_
      refine J_nil (K_seq ?_)
      refine C_ret (R_blk (R_then (body_ret (res1 rfl rfl) ?_)))
      exact ⟨retI (by first | (rw [cmp_eq (by assumption)]) | (rw [cmp_lt (by omega)]) | (rw [cmp_gt (by assumption) (by omega)])), hS2.kept (k := 0) rfl⟩
    · refine J_q 16 rfl rfl rfl rfl (Q_fa0 rfl rfl fo23_0) ?_
      refine J_q 17 rfl rfl rfl rfl (Q_ldB1 (k := 1) hS2 rfl rfl rfl Try.isAgg3 rfl) ?_
      refine J_q 18 rfl rfl rfl rfl (Q_fa0 rfl rfl fo23_0) ?_
      refine J_q 19 rfl rfl rfl rfl (Q_ldB1 (k := 2) hS2 rfl rfl rfl Try.isAgg3 rfl) ?_
      refine J_q 20 rfl rfl rfl rfl (Q_eql rfl rfl rfl) ?_
      refine J_q 21 rfl rfl rfl rfl (Q_move rfl rfl) ?_
      refine J_split 21 rfl (fun h5 => ?_) (fun h5 => ?_)
      · refine J_q 22 rfl rfl rfl rfl (Q_fa0 rfl rfl fo23_1) ?_
        refine J_q 23 rfl rfl rfl rfl (Q_ldB1 (k := 1) hS2 rfl rfl rfl Try.isAgg3 rfl) ?_
        refine J_q 24 rfl rfl rfl rfl (Q_fa0 rfl rfl fo23_1) ?_
        refine J_q 25 rfl rfl rfl rfl (Q_ldB1 (k := 2) hS2 rfl rfl rfl Try.isAgg3 rfl) ?_
        refine J_q 26 rfl rfl rfl rfl (Q_lss rfl rfl rfl) ?_
        refine J_q 27 rfl rfl rfl rfl (Q_pickT rfl rfl rfl) ?_
        refine J_q 28 rfl rfl rfl rfl (Q_pickF rfl rfl rfl) ?_
        refine J_q 9 rfl rfl rfl rfl (Q_assign rfl rfl) ?_
        refine J_nil (K_seq ?_)
        refine C_if rfl (fun h6 => ?_) (fun h6 => ?_)
        · refine C_seq ?_
          refine C_region ?_
          refine J_q 4 rfl rfl rfl rfl (Q_assign rfl rfl) ?_
          refine J_nil (K_seq ?_)
          refine C_ret (R_blk (R_then (body_ret (res1 rfl rfl) ?_)))
          exact ⟨retI (by first | (rw [cmp_eq (by assumption)]) | (rw [cmp_lt (by omega)]) | (rw [cmp_gt (by assumption) (by omega)])), hS2.kept (k := 0) rfl⟩
        · refine C_skip (N_blk (K_seq ?_))
          refine C_seq ?_
          refine C_region ?_
          refine J_q 4 rfl rfl rfl rfl (Q_assign rfl rfl) ?_
          refine J_nil (K_seq ?_)
          refine C_ret (body_ret (res1 rfl rfl) ?_)
          exact ⟨retI (by first | (rw [cmp_eq (by assumption)]) | (rw [cmp_lt (by omega)]) | (rw [cmp_gt (by assumption) (by omega)])), hS2.kept (k := 0) rfl⟩
      · refine J_no rfl rfl rfl ?_
        refine J_no rfl rfl rfl ?_
        refine J_no rfl rfl rfl ?_
        refine J_no rfl rfl rfl ?_
        refine J_no rfl rfl rfl ?_
        refine J_q 27 rfl rfl rfl rfl (Q_pickF rfl rfl rfl) ?_
        refine J_q 28 rfl rfl rfl rfl (Q_pickF rfl rfl rfl) ?_
        refine J_q 9 rfl rfl rfl rfl (Q_assign rfl rfl) ?_
        refine J_nil (K_seq ?_)
        refine C_false rfl ?_
        refine C_skip (N_blk (K_seq ?_))
        refine C_seq ?_
        refine C_region ?_
        refine J_q 4 rfl rfl rfl rfl (Q_assign rfl rfl) ?_
        refine J_nil (K_seq ?_)
        refine C_ret (body_ret (res1 rfl rfl) ?_)
        exact ⟨retI (by first | (rw [cmp_eq (by assumption)]) | (rw [cmp_lt (by omega)]) | (rw [cmp_gt (by assumption) (by omega)])), hS2.kept (k := 0) rfl⟩

theorem Less_calls (w : World) (a : Stamp) (b : Stamp) :
    Calls Try.prog 101 #[.agg (stL a).toArray, .agg (stL b).toArray] w fun e w' => e = .returned (.bool (decide (less a b))) ∧ Kp no w w' := by
  have hS0 := St.start w
  refine fn_calls' 9 (args := [_, _]) Try.func101 rfl rfl rfl ?_
  refine C_seq ?_
  refine C_region ?_
  refine J_do 2 rfl rfl rfl rfl (D_box 1 hS0 rfl rfl (fun g1 w1 hS1 => ?_))
  refine J_do 3 rfl rfl rfl rfl (D_box 2 hS1 rfl rfl (fun g2 w2 hS2 => ?_))
  refine J_q 4 rfl rfl rfl rfl (Q_assign rfl rfl) ?_
  refine J_nil (K_seq ?_)
  refine C_seq ?_
  refine C_region ?_
  refine J_q 5 rfl rfl rfl rfl (Q_ldBK' (k := 1) (stL a) hS2 rfl rfl rfl Try.isAgg23 Try.sizeOf23 rfl rfl) ?_
  refine J_q 6 rfl rfl rfl rfl (Q_ldBK' (k := 2) (stL b) hS2 rfl rfl rfl Try.isAgg23 Try.sizeOf23 rfl rfl) ?_
  refine J_call 7 rfl rfl rfl rfl (T_call rfl rfl rfl Try.call63) (Compare_calls _ a b) ?_
  rintro _ w3 ⟨rfl, hk3⟩
  have hS3 := hS2.kp0 hk3
  refine ⟨_, rfl, ?_⟩
  refine J_q 8 rfl rfl rfl rfl (Q_lss rfl rfl rfl) ?_
  refine J_q 4 rfl rfl rfl rfl (Q_assign rfl rfl) ?_
  refine J_nil (K_seq ?_)
  refine C_ret (body_ret (res1 rfl rfl) ?_)
  exact ⟨retB (by exact decide_eq_decide.2 cmp_neg), hS3.kept (k := 0) rfl⟩

theorem RLess_calls (w : World) (a : Stamp) (b : Stamp) :
    Calls Try.prog 37 #[.agg (stL a).toArray, .agg (stL b).toArray] w fun e w' => e = .returned (.bool (decide (less a b))) ∧ Kp no w w' := by
  have hS0 := St.start w
  refine fn_calls' 24 (args := [_, _]) Try.func37 rfl rfl rfl ?_
  refine C_seq ?_
  refine C_region ?_
  refine J_do 2 rfl rfl rfl rfl (D_box 1 hS0 rfl rfl (fun g1 w1 hS1 => ?_))
  refine J_do 3 rfl rfl rfl rfl (D_box 2 hS1 rfl rfl (fun g2 w2 hS2 => ?_))
  refine J_q 4 rfl rfl rfl rfl (Q_assign rfl rfl) ?_
  refine J_nil (K_seq ?_)
  refine C_seq ?_
  refine C_region ?_
  refine J_q 5 rfl rfl rfl rfl (Q_fa0 rfl rfl fo23_0) ?_
  refine J_q 6 rfl rfl rfl rfl (Q_ldB1 (k := 1) hS2 rfl rfl rfl Try.isAgg3 rfl) ?_
  refine J_q 7 rfl rfl rfl rfl (Q_fa0 rfl rfl fo23_0) ?_
  refine J_q 8 rfl rfl rfl rfl (Q_ldB1 (k := 2) hS2 rfl rfl rfl Try.isAgg3 rfl) ?_
  refine J_q 9 rfl rfl rfl rfl (Q_lss rfl rfl rfl) ?_
  refine J_q 10 rfl rfl rfl rfl (Q_move rfl rfl) ?_
  refine J_split 10 rfl (fun h3 => ?_) (fun h3 => ?_)
  · refine J_no rfl rfl rfl ?_
    refine J_no rfl rfl rfl ?_
    refine J_no rfl rfl rfl ?_
    refine J_no rfl rfl rfl ?_
    refine J_no rfl rfl rfl ?_
    refine J_noU 16 rfl rfl rfl rfl ?_
    refine J_no rfl rfl rfl ?_
    refine J_no rfl rfl rfl ?_
    refine J_no rfl rfl rfl ?_
    refine J_no rfl rfl rfl ?_
    refine J_no rfl rfl rfl ?_
    refine J_no rfl rfl rfl ?_
    refine J_q 23 rfl rfl rfl rfl (Q_pickT rfl rfl rfl) ?_
    refine J_q 4 rfl rfl rfl rfl (Q_assign rfl rfl) ?_
    refine J_nil (K_seq ?_)
    refine C_ret (body_ret (res1 rfl rfl) ?_)
    exact ⟨retB (by first | rfl | (simp only [decide_eq_decide]; omega) | (refine (decide_eq_true ?_).symm; omega) | (refine (decide_eq_false ?_).symm; omega) | (rw [← decide_not, decide_eq_decide]; omega)), hS2.kept (k := 0) rfl⟩
  · refine J_q 11 rfl rfl rfl rfl (Q_fa0 rfl rfl fo23_0) ?_
    refine J_q 12 rfl rfl rfl rfl (Q_ldB1 (k := 1) hS2 rfl rfl rfl Try.isAgg3 rfl) ?_
    refine J_q 13 rfl rfl rfl rfl (Q_fa0 rfl rfl fo23_0) ?_
    refine J_q 14 rfl rfl rfl rfl (Q_ldB1 (k := 2) hS2 rfl rfl rfl Try.isAgg3 rfl) ?_
    refine J_q 15 rfl rfl rfl rfl (Q_eql rfl rfl rfl) ?_
    refine J_q 16 rfl rfl rfl rfl (Q_move rfl rfl) ?_
    refine J_split 16 rfl (fun h4 => ?_) (fun h4 => ?_)
    · refine J_q 17 rfl rfl rfl rfl (Q_fa0 rfl rfl fo23_1) ?_
      refine J_q 18 rfl rfl rfl rfl (Q_ldB1 (k := 1) hS2 rfl rfl rfl Try.isAgg3 rfl) ?_
      refine J_q 19 rfl rfl rfl rfl (Q_fa0 rfl rfl fo23_1) ?_
      refine J_q 20 rfl rfl rfl rfl (Q_ldB1 (k := 2) hS2 rfl rfl rfl Try.isAgg3 rfl) ?_
      refine J_q 21 rfl rfl rfl rfl (Q_lss rfl rfl rfl) ?_
      refine J_q 22 rfl rfl rfl rfl (Q_pickT rfl rfl rfl) ?_
      refine J_q 23 rfl rfl rfl rfl (Q_pickF rfl rfl rfl) ?_
      refine J_q 4 rfl rfl rfl rfl (Q_assign rfl rfl) ?_
      refine J_nil (K_seq ?_)
      refine C_ret (body_ret (res1 rfl rfl) ?_)
      exact ⟨retB (by first | rfl | (simp only [decide_eq_decide]; omega) | (refine (decide_eq_true ?_).symm; omega) | (refine (decide_eq_false ?_).symm; omega) | (rw [← decide_not, decide_eq_decide]; omega)), hS2.kept (k := 0) rfl⟩
    · refine J_no rfl rfl rfl ?_
      refine J_no rfl rfl rfl ?_
      refine J_no rfl rfl rfl ?_
      refine J_no rfl rfl rfl ?_
      refine J_no rfl rfl rfl ?_
      refine J_q 22 rfl rfl rfl rfl (Q_pickF rfl rfl rfl) ?_
      refine J_q 23 rfl rfl rfl rfl (Q_pickF rfl rfl rfl) ?_
      refine J_q 4 rfl rfl rfl rfl (Q_assign rfl rfl) ?_
      refine J_nil (K_seq ?_)
      refine C_ret (body_ret (res1 rfl rfl) ?_)
      exact ⟨retB (by first | rfl | (simp only [decide_eq_decide]; omega) | (refine (decide_eq_true ?_).symm; omega) | (refine (decide_eq_false ?_).symm; omega) | (rw [← decide_not, decide_eq_decide]; omega)), hS2.kept (k := 0) rfl⟩

theorem RRight_calls (w : World) (s : Stamp) :
    Calls Try.prog 79 #[.agg (stL s).toArray] w fun e w' => e = .returned (.bool (decide (right s))) ∧ Kp no w w' := by
  have hS0 := St.start w
  refine fn_calls' 21 (args := [_]) Try.func79 rfl rfl rfl ?_
  refine C_seq ?_
  refine C_region ?_
  refine J_do 1 rfl rfl rfl rfl (D_box 1 hS0 rfl rfl (fun g1 w1 hS1 => ?_))
  refine J_q 2 rfl rfl rfl rfl (Q_assign rfl rfl) ?_
  refine J_nil (K_seq ?_)
  refine C_seq ?_
  refine C_region ?_
  refine J_q 3 rfl rfl rfl rfl (Q_fa0 rfl rfl fo23_0) ?_
  refine J_q 4 rfl rfl rfl rfl (Q_ldB1 (k := 1) hS1 rfl rfl rfl Try.isAgg3 rfl) ?_
  refine J_q 5 rfl rfl rfl rfl (Q_geq rfl rfl rfl) ?_
  refine J_q 6 rfl rfl rfl rfl (Q_move rfl rfl) ?_
  refine J_split 6 rfl (fun h2 => ?_) (fun h2 => ?_)
  · refine J_q 7 rfl rfl rfl rfl (Q_fa0 rfl rfl fo23_0) ?_
    refine J_q 8 rfl rfl rfl rfl (Q_ldB1 (k := 1) hS1 rfl rfl rfl Try.isAgg3 rfl) ?_
    refine J_q 9 rfl rfl rfl rfl (Q_leq rfl rfl rfl) ?_
    refine J_q 10 rfl rfl rfl rfl (Q_pickT rfl rfl rfl) ?_
    refine J_q 11 rfl rfl rfl rfl (Q_move rfl rfl) ?_
    refine J_split 11 rfl (fun h3 => ?_) (fun h3 => ?_)
    · refine J_q 12 rfl rfl rfl rfl (Q_fa0 rfl rfl fo23_1) ?_
      refine J_q 13 rfl rfl rfl rfl (Q_ldB1 (k := 1) hS1 rfl rfl rfl Try.isAgg3 rfl) ?_
      refine J_q 14 rfl rfl rfl rfl (Q_geq rfl rfl rfl) ?_
      refine J_q 15 rfl rfl rfl rfl (Q_pickT rfl rfl rfl) ?_
      refine J_q 16 rfl rfl rfl rfl (Q_move rfl rfl) ?_
      refine J_split 16 rfl (fun h4 => ?_) (fun h4 => ?_)
      · refine J_q 17 rfl rfl rfl rfl (Q_fa0 rfl rfl fo23_1) ?_
        refine J_q 18 rfl rfl rfl rfl (Q_ldB1 (k := 1) hS1 rfl rfl rfl Try.isAgg3 rfl) ?_
        refine J_q 19 rfl rfl rfl rfl (Q_lss rfl rfl rfl) ?_
        refine J_q 20 rfl rfl rfl rfl (Q_pickT rfl rfl rfl) ?_
        refine J_q 2 rfl rfl rfl rfl (Q_assign rfl rfl) ?_
        refine J_nil (K_seq ?_)
        refine C_ret (body_ret (res1 rfl rfl) ?_)
        exact ⟨retB (by first | rfl | (simp only [decide_eq_decide]; omega) | (refine (decide_eq_true ?_).symm; omega) | (refine (decide_eq_false ?_).symm; omega) | (rw [← decide_not, decide_eq_decide]; omega)), hS1.kept (k := 0) rfl⟩
      · refine J_no rfl rfl rfl ?_
        refine J_no rfl rfl rfl ?_
        refine J_no rfl rfl rfl ?_
        refine J_q 20 rfl rfl rfl rfl (Q_pickF rfl rfl rfl) ?_
        refine J_q 2 rfl rfl rfl rfl (Q_assign rfl rfl) ?_
        refine J_nil (K_seq ?_)
        refine C_ret (body_ret (res1 rfl rfl) ?_)
        exact ⟨retB (by first | rfl | (simp only [decide_eq_decide]; omega) | (refine (decide_eq_true ?_).symm; omega) | (refine (decide_eq_false ?_).symm; omega) | (rw [← decide_not, decide_eq_decide]; omega)), hS1.kept (k := 0) rfl⟩
    · refine J_no rfl rfl rfl ?_
      refine J_no rfl rfl rfl ?_
      refine J_no rfl rfl rfl ?_
      refine J_q 15 rfl rfl rfl rfl (Q_pickF rfl rfl rfl) ?_
      refine J_q 16 rfl rfl rfl rfl (Q_move rfl rfl) ?_
      refine J_no rfl rfl rfl ?_
      refine J_no rfl rfl rfl ?_
      refine J_no rfl rfl rfl ?_
      refine J_q 20 rfl rfl rfl rfl (Q_pickF rfl rfl rfl) ?_
      refine J_q 2 rfl rfl rfl rfl (Q_assign rfl rfl) ?_
      refine J_nil (K_seq ?_)
      refine C_ret (body_ret (res1 rfl rfl) ?_)
      exact ⟨retB (by first | rfl | (simp only [decide_eq_decide]; omega) | (refine (decide_eq_true ?_).symm; omega) | (refine (decide_eq_false ?_).symm; omega) | (rw [← decide_not, decide_eq_decide]; omega)), hS1.kept (k := 0) rfl⟩
  · refine J_no rfl rfl rfl ?_
    refine J_no rfl rfl rfl ?_
    refine J_no rfl rfl rfl ?_
    refine J_q 10 rfl rfl rfl rfl (Q_pickF rfl rfl rfl) ?_
    refine J_q 11 rfl rfl rfl rfl (Q_move rfl rfl) ?_
    refine J_no rfl rfl rfl ?_
    refine J_no rfl rfl rfl ?_
    refine J_no rfl rfl rfl ?_
    refine J_q 15 rfl rfl rfl rfl (Q_pickF rfl rfl rfl) ?_
    refine J_q 16 rfl rfl rfl rfl (Q_move rfl rfl) ?_
    refine J_no rfl rfl rfl ?_
    refine J_no rfl rfl rfl ?_
    refine J_no rfl rfl rfl ?_
    refine J_q 20 rfl rfl rfl rfl (Q_pickF rfl rfl rfl) ?_
    refine J_q 2 rfl rfl rfl rfl (Q_assign rfl rfl) ?_
    refine J_nil (K_seq ?_)
    refine C_ret (body_ret (res1 rfl rfl) ?_)
    exact ⟨retB (by first | rfl | (simp only [decide_eq_decide]; omega) | (refine (decide_eq_true ?_).symm; omega) | (refine (decide_eq_false ?_).symm; omega) | (rw [← decide_not, decide_eq_decide]; omega)), hS1.kept (k := 0) rfl⟩

theorem RNode_calls (w : World) (s : Stamp) :
    Calls Try.prog 132 #[.agg (stL s).toArray] w fun e w' => e = .returned (.bool (decide (isNode s))) ∧ Kp no w w' := by
  have hS0 := St.start w
  refine fn_calls' 20 (args := [_]) Try.func132 rfl rfl rfl ?_
  refine C_seq ?_
  refine C_region ?_
  refine J_do 1 rfl rfl rfl rfl (D_box 1 hS0 rfl rfl (fun g1 w1 hS1 => ?_))
  refine J_q 2 rfl rfl rfl rfl (Q_assign rfl rfl) ?_
  refine J_nil (K_seq ?_)
  refine C_seq ?_
  refine C_region ?_
  refine J_q 3 rfl rfl rfl rfl (Q_ldBK' (k := 1) (stL s) hS1 rfl rfl rfl Try.isAgg23 Try.sizeOf23 rfl rfl) ?_
  refine J_call 4 rfl rfl rfl rfl (T_call rfl rfl rfl Try.call79) (RRight_calls _ s) ?_
  rintro _ w2 ⟨rfl, hk2⟩
  have hS2 := hS1.kp0 hk2
  refine ⟨_, rfl, ?_⟩
  refine J_q 5 rfl rfl rfl rfl (Q_move rfl rfl) ?_
  refine J_split 5 rfl (fun h3 => ?_) (fun h3 => ?_)
  · refine J_no rfl rfl rfl ?_
    refine J_no rfl rfl rfl ?_
    refine J_no rfl rfl rfl ?_
    refine J_noU 9 rfl rfl rfl rfl ?_
    refine J_no rfl rfl rfl ?_
    refine J_no rfl rfl rfl ?_
    refine J_no rfl rfl rfl ?_
    refine J_noU 13 rfl rfl rfl rfl ?_
    refine J_no rfl rfl rfl ?_
    refine J_no rfl rfl rfl ?_
    refine J_no rfl rfl rfl ?_
    refine J_no rfl rfl rfl ?_
    refine J_no rfl rfl rfl ?_
    refine J_q 19 rfl rfl rfl rfl (Q_pickT rfl rfl rfl) ?_
    refine J_q 2 rfl rfl rfl rfl (Q_assign rfl rfl) ?_
    refine J_nil (K_seq ?_)
    refine C_ret (body_ret (res1 rfl rfl) ?_)
    exact ⟨retB (by first | rfl | (simp only [decide_eq_decide]; omega) | (refine (decide_eq_true ?_).symm; omega) | (refine (decide_eq_false ?_).symm; omega) | (rw [← decide_not, decide_eq_decide]; omega)), hS2.kept (k := 0) rfl⟩
  · refine J_q 6 rfl rfl rfl rfl (Q_fa0 rfl rfl fo23_0) ?_
    refine J_q 7 rfl rfl rfl rfl (Q_ldB1 (k := 1) hS2 rfl rfl rfl Try.isAgg3 rfl) ?_
    refine J_q 8 rfl rfl rfl rfl (Q_eql rfl rfl rfl) ?_
    refine J_q 9 rfl rfl rfl rfl (Q_move rfl rfl) ?_
    refine J_split 9 rfl (fun h4 => ?_) (fun h4 => ?_)
    · refine J_q 10 rfl rfl rfl rfl (Q_fa0 rfl rfl fo23_1) ?_
      refine J_q 11 rfl rfl rfl rfl (Q_ldB1 (k := 1) hS2 rfl rfl rfl Try.isAgg3 rfl) ?_
      refine J_q 12 rfl rfl rfl rfl (Q_eql rfl rfl rfl) ?_
      refine J_q 13 rfl rfl rfl rfl (Q_move rfl rfl) ?_
      refine J_split 13 rfl (fun h5 => ?_) (fun h5 => ?_)
      · refine J_no rfl rfl rfl ?_
        refine J_no rfl rfl rfl ?_
        refine J_no rfl rfl rfl ?_
        refine J_q 17 rfl rfl rfl rfl (Q_pickT rfl rfl rfl) ?_
        refine J_q 18 rfl rfl rfl rfl (Q_pickT rfl rfl rfl) ?_
        refine J_q 19 rfl rfl rfl rfl (Q_pickF rfl rfl rfl) ?_
        refine J_q 2 rfl rfl rfl rfl (Q_assign rfl rfl) ?_
        refine J_nil (K_seq ?_)
        refine C_ret (body_ret (res1 rfl rfl) ?_)
        exact ⟨retB (by first | rfl | (simp only [decide_eq_decide]; omega) | (refine (decide_eq_true ?_).symm; omega) | (refine (decide_eq_false ?_).symm; omega) | (rw [← decide_not, decide_eq_decide]; omega)), hS2.kept (k := 0) rfl⟩
      · refine J_q 14 rfl rfl rfl rfl (Q_fa0 rfl rfl fo23_1) ?_
        refine J_q 15 rfl rfl rfl rfl (Q_ldB1 (k := 1) hS2 rfl rfl rfl Try.isAgg3 rfl) ?_
        refine J_q 16 rfl rfl rfl rfl (Q_eql rfl rfl rfl) ?_
        refine J_q 17 rfl rfl rfl rfl (Q_pickF rfl rfl rfl) ?_
        refine J_q 18 rfl rfl rfl rfl (Q_pickT rfl rfl rfl) ?_
        refine J_q 19 rfl rfl rfl rfl (Q_pickF rfl rfl rfl) ?_
        refine J_q 2 rfl rfl rfl rfl (Q_assign rfl rfl) ?_
        refine J_nil (K_seq ?_)
        refine C_ret (body_ret (res1 rfl rfl) ?_)
        exact ⟨retB (by first | rfl | (simp only [decide_eq_decide]; omega) | (refine (decide_eq_true ?_).symm; omega) | (refine (decide_eq_false ?_).symm; omega) | (rw [← decide_not, decide_eq_decide]; omega)), hS2.kept (k := 0) rfl⟩
    · refine J_no rfl rfl rfl ?_
      refine J_no rfl rfl rfl ?_
      refine J_no rfl rfl rfl ?_
      refine J_noU 13 rfl rfl rfl rfl ?_
      refine J_no rfl rfl rfl ?_
      refine J_no rfl rfl rfl ?_
      refine J_no rfl rfl rfl ?_
      refine J_no rfl rfl rfl ?_
      refine J_q 18 rfl rfl rfl rfl (Q_pickF rfl rfl rfl) ?_
      refine J_q 19 rfl rfl rfl rfl (Q_pickF rfl rfl rfl) ?_
      refine J_q 2 rfl rfl rfl rfl (Q_assign rfl rfl) ?_
      refine J_nil (K_seq ?_)
      refine C_ret (body_ret (res1 rfl rfl) ?_)
      exact ⟨retB (by first | rfl | (simp only [decide_eq_decide]; omega) | (refine (decide_eq_true ?_).symm; omega) | (refine (decide_eq_false ?_).symm; omega) | (rw [← decide_not, decide_eq_decide]; omega)), hS2.kept (k := 0) rfl⟩

theorem At_calls (w : World) (v_c : Value) (c : List Int) (h_c : (tSl tI).rd w [v_c] c) (r : Int) :
    Calls Try.prog 66 #[v_c, .int .i64 r] w fun e w' => e = .returned (.int .i64 (at2 c r)) ∧ Kp no w w' := by
  have hS0 := St.start w
  have hF_c := RdF.of_rd h_c
  obtain ⟨A_c, cap_c, rfl, hc_c, hm_c⟩ := hF_c.slice
  refine fn_calls' 17 (args := [_, _]) Try.func66 rfl rfl rfl ?_
  refine C_seq ?_
  refine C_region ?_
  refine J_q 4 rfl rfl rfl rfl (Q_assign rfl rfl) ?_
  refine J_nil (K_seq ?_)
  refine C_seq ?_
  refine C_seq ?_
  refine C_region ?_
  refine J_q 5 rfl rfl rfl rfl (Q_move rfl rfl) ?_
  refine J_q 6 rfl rfl rfl rfl (Q_lss rfl rfl rfl) ?_
  refine J_q 7 rfl rfl rfl rfl (Q_move rfl rfl) ?_
  refine J_split 7 rfl (fun h1 => ?_) (fun h1 => ?_)
  · refine J_no rfl rfl rfl ?_
    refine J_no rfl rfl rfl ?_
    refine J_no rfl rfl rfl ?_
    refine J_no rfl rfl rfl ?_
    refine J_q 12 rfl rfl rfl rfl (Q_pickT rfl rfl rfl) ?_
    refine J_nil (K_seq ?_)
    refine C_true rfl ?_
    refine C_seq ?_
    refine C_region ?_
    refine J_q 4 rfl rfl rfl rfl (Q_assign rfl rfl) ?_
    refine J_nil (K_seq ?_)
    refine C_ret (R_then (body_ret (res1 rfl rfl) ?_))
    exact ⟨retI (by first | (rw [at2_out (by omega)]) | (rw [at2_in (by omega) (by omega)])), hS0.kept (k := 0) rfl⟩
  · refine J_q 8 rfl rfl rfl rfl (Q_move rfl rfl) ?_
    refine J_q 9 rfl rfl rfl rfl (Q_move rfl rfl) ?_
    refine J_q 10 rfl rfl rfl rfl (Q_len rfl rfl Try.underlying44) ?_
    refine J_q 11 rfl rfl rfl rfl (Q_geq rfl rfl rfl) ?_
    refine J_q 12 rfl rfl rfl rfl (Q_pickF rfl rfl rfl) ?_
    refine J_nil (K_seq ?_)
    refine C_if rfl (fun h2 => ?_) (fun h2 => ?_)
    · refine C_seq ?_
      refine C_region ?_
      refine J_q 4 rfl rfl rfl rfl (Q_assign rfl rfl) ?_
      refine J_nil (K_seq ?_)
      refine C_ret (R_then (body_ret (res1 rfl rfl) ?_))
      exact ⟨retI (by first | (rw [at2_out (by omega)]) | (rw [at2_in (by omega) (by omega)])), hS0.kept (k := 0) rfl⟩
    · refine C_skip (K_seq ?_)
      refine C_seq ?_
      refine C_region ?_
      refine J_q 13 rfl rfl rfl rfl (Q_move rfl rfl) ?_
      refine J_q 14 rfl rfl rfl rfl (Q_move rfl rfl) ?_
      obtain ⟨ad3, es3, hA3, hr3, hc3⟩ := RdF.nth hF_c r (by omega) (by omega)
      obtain ⟨rfl, ho3⟩ := openI hr3
      refine J_q 15 rfl rfl rfl rfl (Q_iaE hA3 rfl rfl rfl Try.underlying44 Try.sizeOf3 (by omega) (by omega)) ?_
      refine J_q 16 rfl rfl rfl rfl (Q_ldC1' (hc3 _ (hS0.get (k := 0) rfl)) rfl rfl Try.isAgg3 rfl) ?_
      refine J_q 4 rfl rfl rfl rfl (Q_assign rfl rfl) ?_
      refine J_nil (K_seq ?_)
      refine C_ret (body_ret (res1 rfl rfl) ?_)
      exact ⟨retI (by first | (rw [at2_out (by omega)]) | (rw [at2_in (by omega) (by omega)])), hS0.kept (k := 0) rfl⟩

theorem RAt_calls (w : World) (v_c : Value) (c : List Int) (h_c : (tSl tI).rd w [v_c] c) (r : Int) :
    Calls Try.prog 40 #[v_c, .int .i64 r] w fun e w' => e = .returned (.int .i64 (at2 c r)) ∧ Kp no w w' := by
  have hS0 := St.start w
  have hF_c := RdF.of_rd h_c
  obtain ⟨A_c, cap_c, rfl, hc_c, hm_c⟩ := hF_c.slice
  refine fn_calls' 17 (args := [_, _]) Try.func40 rfl rfl rfl ?_
  refine C_seq ?_
  refine C_region ?_
  refine J_q 4 rfl rfl rfl rfl (Q_assign rfl rfl) ?_
  refine J_nil (K_seq ?_)
  refine C_seq ?_
  refine C_seq ?_
  refine C_region ?_
  refine J_q 5 rfl rfl rfl rfl (Q_move rfl rfl) ?_
  refine J_q 6 rfl rfl rfl rfl (Q_geq rfl rfl rfl) ?_
  refine J_q 7 rfl rfl rfl rfl (Q_move rfl rfl) ?_
  refine J_split 7 rfl (fun h1 => ?_) (fun h1 => ?_)
  · refine J_q 8 rfl rfl rfl rfl (Q_move rfl rfl) ?_
    refine J_q 9 rfl rfl rfl rfl (Q_move rfl rfl) ?_
    refine J_q 10 rfl rfl rfl rfl (Q_len rfl rfl Try.underlying44) ?_
    refine J_q 11 rfl rfl rfl rfl (Q_lss rfl rfl rfl) ?_
    refine J_q 12 rfl rfl rfl rfl (Q_pickT rfl rfl rfl) ?_
    refine J_nil (K_seq ?_)
    refine C_if rfl (fun h2 => ?_) (fun h2 => ?_)
    · refine C_seq ?_
      refine C_region ?_
      refine J_q 13 rfl rfl rfl rfl (Q_move rfl rfl) ?_
      refine J_q 14 rfl rfl rfl rfl (Q_move rfl rfl) ?_
      obtain ⟨ad3, es3, hA3, hr3, hc3⟩ := RdF.nth hF_c r (by omega) (by omega)
      obtain ⟨rfl, ho3⟩ := openI hr3
      refine J_q 15 rfl rfl rfl rfl (Q_iaE hA3 rfl rfl rfl Try.underlying44 Try.sizeOf3 (by omega) (by omega)) ?_
      refine J_q 16 rfl rfl rfl rfl (Q_ldC1' (hc3 _ (hS0.get (k := 0) rfl)) rfl rfl Try.isAgg3 rfl) ?_
      refine J_q 4 rfl rfl rfl rfl (Q_assign rfl rfl) ?_
      refine J_nil (K_seq ?_)
      refine C_ret (R_then (body_ret (res1 rfl rfl) ?_))
      exact ⟨retI (by first | (rw [at2_out (by omega)]) | (rw [at2_in (by omega) (by omega)])), hS0.kept (k := 0) rfl⟩
    · refine C_skip (K_seq ?_)
      refine C_seq ?_
      refine C_region ?_
      refine J_q 4 rfl rfl rfl rfl (Q_assign rfl rfl) ?_
      refine J_nil (K_seq ?_)
      refine C_ret (body_ret (res1 rfl rfl) ?_)
      exact ⟨retI (by first | (rw [at2_out (by omega)]) | (rw [at2_in (by omega) (by omega)])), hS0.kept (k := 0) rfl⟩
  · refine J_no rfl rfl rfl ?_
    refine J_no rfl rfl rfl ?_
    refine J_no rfl rfl rfl ?_
    refine J_no rfl rfl rfl ?_
    refine J_q 12 rfl rfl rfl rfl (Q_pickF rfl rfl rfl) ?_
    refine J_nil (K_seq ?_)
    refine C_false rfl ?_
    refine C_skip (K_seq ?_)
    refine C_seq ?_
    refine C_region ?_
    refine J_q 4 rfl rfl rfl rfl (Q_assign rfl rfl) ?_
    refine J_nil (K_seq ?_)
    refine C_ret (body_ret (res1 rfl rfl) ?_)
    exact ⟨retI (by first | (rw [at2_out (by omega)]) | (rw [at2_in (by omega) (by omega)])), hS0.kept (k := 0) rfl⟩

theorem CCheck_calls (w : World) (v_c : Value) (c : List Int) (h_c : (tSl tI).rd w [v_c] c) :
    Calls Try.prog 65 #[v_c] w fun e w' => e = .returned (.int .i64 (chk2 c)) ∧ Kp no w w' := by
  have hS0 := St.start w
  have hF_c := RdF.of_rd h_c
  obtain ⟨A_c, cap_c, rfl, hc_c, hm_c⟩ := hF_c.slice
  refine fn_calls' 21 (args := [_]) Try.func65 rfl rfl rfl ?_
  refine C_seq ?_
  refine C_region ?_
  refine J_q 2 rfl rfl rfl rfl (Q_assign rfl rfl) ?_
  refine J_nil (K_seq ?_)
  refine C_seq ?_
  refine C_seq ?_
  refine C_region ?_
  refine J_q 5 rfl rfl rfl rfl (Q_move rfl rfl) ?_
  refine J_q 6 rfl rfl rfl rfl (Q_len rfl rfl Try.underlying44) ?_
  refine J_q 7 rfl rfl rfl rfl (Q_gtr rfl rfl rfl) ?_
  refine J_nil (K_seq ?_)
  refine C_if rfl (fun h1 => ?_) (fun h1 => ?_)
  · refine C_seq ?_
    refine C_region ?_
    refine J_q 2 rfl rfl rfl rfl (Q_assign rfl rfl) ?_
    refine J_nil (K_seq ?_)
    refine C_ret (R_then (body_ret (res1 rfl rfl) ?_))
    exact ⟨retI (by first | (rw [chk2_long (by omega)]) | (rw [chk2_bad (by assumption) (by assumption) (by assumption) (by omega)]) | (rw [chk2_ok (by assumption) (by assumption) (by omega)])), hS0.kept (k := 0) rfl⟩
  · refine C_skip (K_seq ?_)
    refine C_seq ?_
    refine C_seq ?_
    refine C_region ?_
    refine J_q 8 rfl rfl rfl rfl (Q_move rfl rfl) ?_
    refine J_q 9 rfl rfl rfl rfl (Q_len rfl rfl Try.underlying44) ?_
    refine J_q 10 rfl rfl rfl rfl (Q_move rfl rfl) ?_
    refine J_nil (K_seq ?_)
    refine C_block ?_
    refine C_loop1 (fun (i : Int) => (c.length - i).toNat) (fun (i : Int) => [(0, .slice A_c c.length cap_c), (5, .slice A_c c.length cap_c), (6, .int .i64 (c.length : Int)), (7, .bool (decide (64 < (c.length : Int)))), (8, .slice A_c c.length cap_c), (9, .int .i64 (c.length : Int)), (10, .int .i64 i)]) (fun (i : Int) w' => (0 ≤ i) ∧ (i ≤ c.length) ∧ (UpTo okN c i) ∧ St w w' [(0, fz w (lt_ w))]) 0 ⟨(by first | omega | exact UpTo.zero), (by first | omega | exact UpTo.zero), (by first | omega | exact UpTo.zero), hS0⟩ ⟨rfl, rfl, rfl, rfl, rfl, rfl, rfl, trivial⟩ ?_
    rintro i w2 ⟨h0, h1, hu, hS2⟩
    refine C_seq ?_
    refine C_region ?_
    refine J_q 11 rfl rfl rfl rfl (Q_lss rfl rfl rfl) ?_
    refine J_nil (K_seq ?_)
    refine C_seq ?_
    refine C_if rfl (fun h3 => ?_) (fun h3 => ?_)
    · refine C_skip (K_seq ?_)
      refine C_seq ?_
      refine C_block ?_
      refine C_seq ?_
      refine C_region ?_
      obtain ⟨ad4, es4, hA4, hr4, hc4⟩ := RdF.nth hF_c i (by omega) (by omega)
      obtain ⟨rfl, ho4⟩ := openI hr4
      refine J_q 12 rfl rfl rfl rfl (Q_iaE hA4 rfl rfl rfl Try.underlying44 Try.sizeOf3 (by omega) (by omega)) ?_
      refine J_q 13 rfl rfl rfl rfl (Q_ldC1' (hc4 _ (hS2.get (k := 0) rfl)) rfl rfl Try.isAgg3 rfl) ?_
      refine J_q 4 rfl rfl rfl rfl (Q_assign rfl rfl) ?_
      refine J_nil (K_seq ?_)
      refine C_seq ?_
      refine C_region ?_
      refine J_q 14 rfl rfl rfl rfl (Q_move rfl rfl) ?_
      refine J_q 15 rfl rfl rfl rfl (Q_lss rfl rfl rfl) ?_
      refine J_q 16 rfl rfl rfl rfl (Q_move rfl rfl) ?_
      refine J_split 16 rfl (fun h5 => ?_) (fun h5 => ?_)
      · refine J_no rfl rfl rfl ?_
        refine J_no rfl rfl rfl ?_
        refine J_q 19 rfl rfl rfl rfl (Q_pickT rfl rfl rfl) ?_
        refine J_nil (K_seq ?_)
        refine C_true rfl ?_
        refine C_seq ?_
        refine C_region ?_
        refine J_q 2 rfl rfl rfl rfl (Q_assign rfl rfl) ?_
        refine J_nil (K_seq ?_)
        refine C_ret (R_blk (R_then (R_then (R_blk (R_then (body_ret (res1 rfl rfl) ?_))))))
        exact ⟨retI (by first | (rw [chk2_long (by omega)]) | (rw [chk2_bad (by assumption) (by assumption) (by assumption) (by omega)]) | (rw [chk2_ok (by assumption) (by assumption) (by omega)])), hS2.kept (k := 0) rfl⟩
      · refine J_q 17 rfl rfl rfl rfl (Q_move rfl rfl) ?_
        refine J_q 18 rfl rfl rfl rfl (Q_gtr rfl rfl rfl) ?_
        refine J_q 19 rfl rfl rfl rfl (Q_pickF rfl rfl rfl) ?_
        refine J_nil (K_seq ?_)
        refine C_if rfl (fun h6 => ?_) (fun h6 => ?_)
        · refine C_seq ?_
          refine C_region ?_
          refine J_q 2 rfl rfl rfl rfl (Q_assign rfl rfl) ?_
          refine J_nil (K_seq ?_)
          refine C_ret (R_blk (R_then (R_then (R_blk (R_then (body_ret (res1 rfl rfl) ?_))))))
          exact ⟨retI (by first | (rw [chk2_long (by omega)]) | (rw [chk2_bad (by assumption) (by assumption) (by assumption) (by omega)]) | (rw [chk2_ok (by assumption) (by assumption) (by omega)])), hS2.kept (k := 0) rfl⟩
        · refine C_skip (N_blk (K_seq ?_))
          refine C_region ?_
          refine J_q 20 rfl rfl rfl rfl (Q_add rfl rfl rfl (by omega) (by omega)) ?_
          refine J_q 10 rfl rfl rfl rfl (Q_move rfl rfl) ?_
          exact J_nil (K_round1 (x0 := i) (i + 1) ⟨(by first | omega | (exact UpTo.snoc hu (by omega))), (by first | omega | (exact UpTo.snoc hu (by omega))), (by first | omega | (exact UpTo.snoc hu (by omega))), hS2⟩ (by omega) ⟨rfl, rfl, rfl, rfl, rfl, rfl, rfl, trivial⟩)
    · refine C_exit (X_then (X_then (X_hit (K_seq ?_))))
      refine C_seq ?_
      refine C_region ?_
      refine J_q 2 rfl rfl rfl rfl (Q_assign rfl rfl) ?_
      refine J_nil (K_seq ?_)
      refine C_ret (body_ret (res1 rfl rfl) ?_)
      exact ⟨retI (by first | (rw [chk2_long (by omega)]) | (rw [chk2_bad (by assumption) (by assumption) (by assumption) (by omega)]) | (rw [chk2_ok (by assumption) (by assumption) (by omega)])), hS2.kept (k := 0) rfl⟩

theorem RCheck_calls (w : World) (v_c : Value) (c : List Int) (h_c : (tSl tI).rd w [v_c] c) :
    Calls Try.prog 27 #[v_c] w fun e w' => e = .returned (.int .i64 (chk2 c)) ∧ Kp no w w' := by
  have hS0 := St.start w
  have hF_c := RdF.of_rd h_c
  obtain ⟨A_c, cap_c, rfl, hc_c, hm_c⟩ := hF_c.slice
  refine fn_calls' 25 (args := [_]) Try.func27 rfl rfl rfl ?_
  refine C_seq ?_
  refine C_region ?_
  refine J_q 2 rfl rfl rfl rfl (Q_assign rfl rfl) ?_
  refine J_nil (K_seq ?_)
  refine C_seq ?_
  refine C_seq ?_
  refine C_region ?_
  refine J_q 4 rfl rfl rfl rfl (Q_move rfl rfl) ?_
  refine J_q 5 rfl rfl rfl rfl (Q_len rfl rfl Try.underlying44) ?_
  refine J_q 6 rfl rfl rfl rfl (Q_gtr rfl rfl rfl) ?_
  refine J_nil (K_seq ?_)
  refine C_if rfl (fun h1 => ?_) (fun h1 => ?_)
  · refine C_seq ?_
    refine C_region ?_
    refine J_q 2 rfl rfl rfl rfl (Q_assign rfl rfl) ?_
    refine J_nil (K_seq ?_)
    refine C_ret (R_then (body_ret (res1 rfl rfl) ?_))
    exact ⟨retI (by first | (rw [chk2_long (by omega)]) | (rw [chk2_bad (by assumption) (by assumption) (by assumption) (by omega)]) | (rw [chk2_ok (by assumption) (by assumption) (by omega)])), hS0.kept (k := 0) rfl⟩
  · refine C_skip (K_seq ?_)
    refine C_seq ?_
    refine C_seq ?_
    refine C_region ?_
    refine J_q 3 rfl rfl rfl rfl (Q_assign rfl rfl) ?_
    refine J_nil (K_seq ?_)
    refine C_block ?_
    refine C_loop1 (fun (i : Int) => (c.length - i).toNat) (fun (i : Int) => [(0, .slice A_c c.length cap_c), (4, .slice A_c c.length cap_c), (5, .int .i64 (c.length : Int)), (6, .bool (decide (64 < (c.length : Int)))), (3, .int .i64 i)]) (fun (i : Int) w' => (0 ≤ i) ∧ (i ≤ c.length) ∧ (UpTo okN c i) ∧ St w w' [(0, fz w (lt_ w))]) 0 ⟨(by first | omega | exact UpTo.zero), (by first | omega | exact UpTo.zero), (by first | omega | exact UpTo.zero), hS0⟩ ⟨rfl, rfl, rfl, rfl, rfl, trivial⟩ ?_
    rintro i w2 ⟨h0, h1, hu, hS2⟩
    refine C_seq ?_
    refine C_seq ?_
    refine C_region ?_
    refine J_q 7 rfl rfl rfl rfl (Q_move rfl rfl) ?_
    refine J_q 8 rfl rfl rfl rfl (Q_move rfl rfl) ?_
    refine J_q 9 rfl rfl rfl rfl (Q_len rfl rfl Try.underlying44) ?_
    refine J_q 10 rfl rfl rfl rfl (Q_lss rfl rfl rfl) ?_
    refine J_nil (K_seq ?_)
    refine C_if rfl (fun h3 => ?_) (fun h3 => ?_)
    · refine C_skip (K_seq ?_)
      refine C_seq ?_
      refine C_block ?_
      refine C_seq ?_
      refine C_region ?_
      refine J_q 13 rfl rfl rfl rfl (Q_move rfl rfl) ?_
      refine J_q 14 rfl rfl rfl rfl (Q_move rfl rfl) ?_
      obtain ⟨ad4, es4, hA4, hr4, hc4⟩ := RdF.nth hF_c i (by omega) (by omega)
      obtain ⟨rfl, ho4⟩ := openI hr4
      refine J_q 15 rfl rfl rfl rfl (Q_iaE hA4 rfl rfl rfl Try.underlying44 Try.sizeOf3 (by omega) (by omega)) ?_
      refine J_q 16 rfl rfl rfl rfl (Q_ldC1' (hc4 _ (hS2.get (k := 0) rfl)) rfl rfl Try.isAgg3 rfl) ?_
      refine J_q 17 rfl rfl rfl rfl (Q_lss rfl rfl rfl) ?_
      refine J_q 18 rfl rfl rfl rfl (Q_move rfl rfl) ?_
      refine J_split 18 rfl (fun h5 => ?_) (fun h5 => ?_)
      · refine J_no rfl rfl rfl ?_
        refine J_no rfl rfl rfl ?_
        refine J_no rfl rfl rfl ?_
        refine J_no rfl rfl rfl ?_
        refine J_no rfl rfl rfl ?_
        refine J_q 24 rfl rfl rfl rfl (Q_pickT rfl rfl rfl) ?_
        refine J_nil (K_seq ?_)
        refine C_true rfl ?_
        refine C_seq ?_
        refine C_region ?_
        refine J_q 2 rfl rfl rfl rfl (Q_assign rfl rfl) ?_
        refine J_nil (K_seq ?_)
        refine C_ret (R_blk (R_then (R_then (R_blk (R_then (body_ret (res1 rfl rfl) ?_))))))
        exact ⟨retI (by first | (rw [chk2_long (by omega)]) | (rw [chk2_bad (by assumption) (by assumption) (by assumption) (by omega)]) | (rw [chk2_ok (by assumption) (by assumption) (by omega)])), hS2.kept (k := 0) rfl⟩
      · refine J_q 19 rfl rfl rfl rfl (Q_move rfl rfl) ?_
        refine J_q 20 rfl rfl rfl rfl (Q_move rfl rfl) ?_
        refine J_q 21 rfl rfl rfl rfl (Q_iaE hA4 rfl rfl rfl Try.underlying44 Try.sizeOf3 (by omega) (by omega)) ?_
        refine J_q 22 rfl rfl rfl rfl (Q_ldC1' (hc4 _ (hS2.get (k := 0) rfl)) rfl rfl Try.isAgg3 rfl) ?_
        refine J_q 23 rfl rfl rfl rfl (Q_gtr rfl rfl rfl) ?_
        refine J_q 24 rfl rfl rfl rfl (Q_pickF rfl rfl rfl) ?_
        refine J_nil (K_seq ?_)
        refine C_if rfl (fun h6 => ?_) (fun h6 => ?_)
        · refine C_seq ?_
          refine C_region ?_
          refine J_q 2 rfl rfl rfl rfl (Q_assign rfl rfl) ?_
          refine J_nil (K_seq ?_)
          refine C_ret (R_blk (R_then (R_then (R_blk (R_then (body_ret (res1 rfl rfl) ?_))))))
          exact ⟨retI (by first | (rw [chk2_long (by omega)]) | (rw [chk2_bad (by assumption) (by assumption) (by assumption) (by omega)]) | (rw [chk2_ok (by assumption) (by assumption) (by omega)])), hS2.kept (k := 0) rfl⟩
        · refine C_skip (N_blk (K_seq ?_))
          refine C_region ?_
          refine J_q 11 rfl rfl rfl rfl (Q_move rfl rfl) ?_
          refine J_q 12 rfl rfl rfl rfl (Q_add rfl rfl rfl (by omega) (by omega)) ?_
          refine J_q 3 rfl rfl rfl rfl (Q_assign rfl rfl) ?_
          exact J_nil (K_round1 (x0 := i) (i + 1) ⟨(by first | omega | (exact UpTo.snoc hu (by omega))), (by first | omega | (exact UpTo.snoc hu (by omega))), (by first | omega | (exact UpTo.snoc hu (by omega))), hS2⟩ (by omega) ⟨rfl, rfl, rfl, rfl, rfl, trivial⟩)
    · refine C_exit (X_then (X_then (X_hit (K_seq ?_))))
      refine C_seq ?_
      refine C_region ?_
      refine J_q 2 rfl rfl rfl rfl (Q_assign rfl rfl) ?_
      refine J_nil (K_seq ?_)
      refine C_ret (body_ret (res1 rfl rfl) ?_)
      exact ⟨retI (by first | (rw [chk2_long (by omega)]) | (rw [chk2_bad (by assumption) (by assumption) (by assumption) (by omega)]) | (rw [chk2_ok (by assumption) (by assumption) (by omega)])), hS2.kept (k := 0) rfl⟩

theorem Under_calls (w : World) (v_a : Value) (a : List Int) (h_a : (tSl tI).rd w [v_a] a) (v_b : Value) (b : List Int) (h_b : (tSl tI).rd w [v_b] b) :
    Calls Try.prog 39 #[v_a, v_b] w fun e w' => e = .returned (.bool (decide (under a b))) ∧ Kp no w w' := by
  have hS0 := St.start w
  have hF_a := RdF.of_rd h_a
  obtain ⟨A_a, cap_a, rfl, hc_a, hm_a⟩ := hF_a.slice
  have hF_b := RdF.of_rd h_b
  obtain ⟨A_b, cap_b, rfl, hc_b, hm_b⟩ := hF_b.slice
  refine fn_calls' 20 (args := [_, _]) Try.func39 rfl rfl rfl ?_
  refine C_seq ?_
  refine C_region ?_
  refine J_q 4 rfl rfl rfl rfl (Q_assign rfl rfl) ?_
  refine J_nil (K_seq ?_)
  refine C_seq ?_
  refine C_seq ?_
  refine C_region ?_
  refine J_q 5 rfl rfl rfl rfl (Q_assign rfl rfl) ?_
  refine J_nil (K_seq ?_)
  refine C_block ?_
  refine C_loop1 (fun (i : Int) => (a.length - i).toNat) (fun (i : Int) => [(0, .slice A_a a.length cap_a), (1, .slice A_b b.length cap_b), (5, .int .i64 i)]) (fun (i : Int) w' => (0 ≤ i) ∧ (i ≤ a.length) ∧ (Up i fun j => nth a j ≤ at2 b j) ∧ St w w' [(0, fz w (lt_ w))]) 0 ⟨(by first | omega | exact Up.zero), (by first | omega | exact Up.zero), (by first | omega | exact Up.zero), hS0⟩ ⟨rfl, rfl, rfl, trivial⟩ ?_
  rintro i w1 ⟨h0, h1, hu, hS1⟩
  refine C_seq ?_
  refine C_seq ?_
  refine C_region ?_
  refine J_q 6 rfl rfl rfl rfl (Q_move rfl rfl) ?_
  refine J_q 7 rfl rfl rfl rfl (Q_move rfl rfl) ?_
  refine J_q 8 rfl rfl rfl rfl (Q_len rfl rfl Try.underlying44) ?_
  refine J_q 9 rfl rfl rfl rfl (Q_lss rfl rfl rfl) ?_
  refine J_nil (K_seq ?_)
  refine C_if rfl (fun h2 => ?_) (fun h2 => ?_)
  · refine C_skip (K_seq ?_)
    refine C_seq ?_
    refine C_block ?_
    refine C_seq ?_
    refine C_draw (fun w' => St w w' [(0, fz w (lt_ w))]) 8 mixedOrders 8 rfl (fun w3 hk3 => ?_)
    have hS3 := hS1.kp0 hk3
    refine JA_p 0 12 8 rfl rfl rfl rfl (by kernel_rfl) (by kernel_rfl) (fun _ => Q_move rfl rfl) ?_
    refine JA_p 1 13 8 rfl rfl rfl rfl (by kernel_rfl) (by kernel_rfl) (fun _ => Q_move rfl rfl) ?_
    obtain ⟨ad4, es4, hA4, hr4, hc4⟩ := RdF.nth hF_a i (by omega) (by omega)
    obtain ⟨rfl, ho4⟩ := openI hr4
    refine JA_p 2 14 8 rfl rfl rfl rfl (by kernel_rfl) (by kernel_rfl) (fun _ => Q_iaE hA4 rfl rfl rfl Try.underlying44 Try.sizeOf3 (by omega) (by omega)) ?_
    refine JA_q 3 15 rfl rfl rfl rfl (by kernel_rfl) (by kernel_rfl) hS3 (fun _ hI => Q_ldC1' (hc4 _ (hI.get (k := 0) rfl)) rfl rfl Try.isAgg3 rfl) ?_
    refine JA_p 4 16 8 rfl rfl rfl rfl (by kernel_rfl) (by kernel_rfl) (fun _ => Q_move rfl rfl) ?_
    refine JA_p 5 17 8 rfl rfl rfl rfl (by kernel_rfl) (by kernel_rfl) (fun _ => Q_move rfl rfl) ?_
    refine JA_call 6 18 rfl rfl rfl rfl (by kernel_rfl) (T_call rfl rfl rfl Try.call40) (RAt_calls _ _ b (hS3.rd 0 rfl hF_b) i) ?_
    rintro _ w5 ⟨rfl, hk5⟩
    have hS5 := hS3.kp0 hk5
    refine ⟨_, rfl, (fun _ => hS5), ?_⟩
    refine JA_p 7 19 8 rfl rfl rfl rfl (by kernel_rfl) (by kernel_rfl) (fun _ => Q_gtr rfl rfl rfl) ?_
    refine JA_end (by kernel_rfl) (K_seq ?_)
    refine C_if rfl (fun h6 => ?_) (fun h6 => ?_)
    · refine C_seq ?_
      refine C_region ?_
      refine J_q 4 rfl rfl rfl rfl (Q_assign rfl rfl) ?_
      refine J_nil (K_seq ?_)
      refine C_ret (R_blk (R_then (R_then (R_blk (R_then (body_ret (res1 rfl rfl) ?_))))))
      exact ⟨retB (by first | (exact (decide_eq_false (Up.bad (by assumption) (by omega) (by omega))).symm) | (exact (decide_eq_true (hu.full (by omega))).symm)), hS5.kept (k := 0) rfl⟩
    · refine C_skip (N_blk (K_seq ?_))
      refine C_region ?_
      refine J_q 10 rfl rfl rfl rfl (Q_move rfl rfl) ?_
      refine J_q 11 rfl rfl rfl rfl (Q_add rfl rfl rfl (by omega) (by omega)) ?_
      refine J_q 5 rfl rfl rfl rfl (Q_assign rfl rfl) ?_
      exact J_nil (K_round1 (x0 := i) (i + 1) ⟨(by first | omega | (exact Up.snoc hu (by omega))), (by first | omega | (exact Up.snoc hu (by omega))), (by first | omega | (exact Up.snoc hu (by omega))), hS5⟩ (by omega) ⟨rfl, rfl, rfl, trivial⟩)
  · refine C_exit (X_then (X_then (X_hit (K_seq ?_))))
    refine C_seq ?_
    refine C_region ?_
    refine J_q 4 rfl rfl rfl rfl (Q_assign rfl rfl) ?_
    refine J_nil (K_seq ?_)
    refine C_ret (body_ret (res1 rfl rfl) ?_)
    exact ⟨retB (by first | (exact (decide_eq_false (Up.bad (by assumption) (by omega) (by omega))).symm) | (exact (decide_eq_true (hu.full (by omega))).symm)), hS1.kept (k := 0) rfl⟩

theorem RSame_calls (w : World) (v_a : Value) (a : List Int) (h_a : (tSl tI).rd w [v_a] a) (v_b : Value) (b : List Int) (h_b : (tSl tI).rd w [v_b] b) :
    Calls Try.prog 51 #[v_a, v_b] w fun e w' => e = .returned (.bool (decide (a = b))) ∧ Kp no w w' := by
  have hS0 := St.start w
  have hF_a := RdF.of_rd h_a
  obtain ⟨A_a, cap_a, rfl, hc_a, hm_a⟩ := hF_a.slice
  have hF_b := RdF.of_rd h_b
  obtain ⟨A_b, cap_b, rfl, hc_b, hm_b⟩ := hF_b.slice
  refine fn_calls' 26 (args := [_, _]) Try.func51 rfl rfl rfl ?_
  refine C_seq ?_
  refine C_region ?_
  refine J_q 4 rfl rfl rfl rfl (Q_assign rfl rfl) ?_
  refine J_nil (K_seq ?_)
  refine C_seq ?_
  refine C_seq ?_
  refine C_region ?_
  refine J_q 6 rfl rfl rfl rfl (Q_move rfl rfl) ?_
  refine J_q 7 rfl rfl rfl rfl (Q_len rfl rfl Try.underlying44) ?_
  refine J_q 8 rfl rfl rfl rfl (Q_move rfl rfl) ?_
  refine J_q 9 rfl rfl rfl rfl (Q_len rfl rfl Try.underlying44) ?_
  refine J_q 10 rfl rfl rfl rfl (Q_neqN rfl rfl rfl) ?_
  refine J_nil (K_seq ?_)
  refine C_ifN rfl (fun h1 => ?_) (fun h1 => ?_)
  · refine C_seq ?_
    refine C_region ?_
    refine J_q 4 rfl rfl rfl rfl (Q_assign rfl rfl) ?_
    refine J_nil (K_seq ?_)
    refine C_ret (R_then (body_ret (res1 rfl rfl) ?_))
    exact ⟨retB (by first | (refine (decide_eq_false fun hab => ?_).symm; subst hab; omega) | (exact (decide_eq_true (nth_ext (by omega) (hu.full (by omega)))).symm)), hS0.kept (k := 0) rfl⟩
  · refine C_skip (K_seq ?_)
    refine C_seq ?_
    refine C_seq ?_
    refine C_region ?_
    refine J_q 5 rfl rfl rfl rfl (Q_assign rfl rfl) ?_
    refine J_nil (K_seq ?_)
    refine C_block ?_
    refine C_loop1 (fun (i : Int) => (a.length - i).toNat) (fun (i : Int) => [(0, .slice A_a a.length cap_a), (1, .slice A_b b.length cap_b), (6, .slice A_a a.length cap_a), (7, .int .i64 (a.length : Int)), (8, .slice A_b b.length cap_b), (9, .int .i64 (b.length : Int)), (10, .bool (!decide ((a.length : Int) = (b.length : Int)))), (5, .int .i64 i)]) (fun (i : Int) w' => (0 ≤ i) ∧ (i ≤ a.length) ∧ (Up i fun j => nth a j = nth b j) ∧ St w w' [(0, fz w (lt_ w))]) 0 ⟨(by first | omega | exact Up.zero), (by first | omega | exact Up.zero), (by first | omega | exact Up.zero), hS0⟩ ⟨rfl, rfl, rfl, rfl, rfl, rfl, rfl, rfl, trivial⟩ ?_
    rintro i w2 ⟨h0, h1, hu, hS2⟩
    refine C_seq ?_
    refine C_seq ?_
    refine C_region ?_
    refine J_q 11 rfl rfl rfl rfl (Q_move rfl rfl) ?_
    refine J_q 12 rfl rfl rfl rfl (Q_move rfl rfl) ?_
    refine J_q 13 rfl rfl rfl rfl (Q_len rfl rfl Try.underlying44) ?_
    refine J_q 14 rfl rfl rfl rfl (Q_lss rfl rfl rfl) ?_
    refine J_nil (K_seq ?_)
    refine C_if rfl (fun h3 => ?_) (fun h3 => ?_)
    · refine C_skip (K_seq ?_)
      refine C_seq ?_
      refine C_block ?_
      refine C_seq ?_
      refine C_draw (fun w' => St w w' [(0, fz w (lt_ w))]) 9 mixedOrders 9 rfl (fun w4 hk4 => ?_)
      have hS4 := hS2.kp0 hk4
      refine JA_p 0 17 9 rfl rfl rfl rfl (by kernel_rfl) (by kernel_rfl) (fun _ => Q_move rfl rfl) ?_
      refine JA_p 1 18 9 rfl rfl rfl rfl (by kernel_rfl) (by kernel_rfl) (fun _ => Q_move rfl rfl) ?_
      obtain ⟨ad5, es5, hA5, hr5, hc5⟩ := RdF.nth hF_a i (by omega) (by omega)
      obtain ⟨rfl, ho5⟩ := openI hr5
      refine JA_p 2 19 9 rfl rfl rfl rfl (by kernel_rfl) (by kernel_rfl) (fun _ => Q_iaE hA5 rfl rfl rfl Try.underlying44 Try.sizeOf3 (by omega) (by omega)) ?_
      refine JA_q 3 20 rfl rfl rfl rfl (by kernel_rfl) (by kernel_rfl) hS4 (fun _ hI => Q_ldC1' (hc5 _ (hI.get (k := 0) rfl)) rfl rfl Try.isAgg3 rfl) ?_
      refine JA_p 4 21 9 rfl rfl rfl rfl (by kernel_rfl) (by kernel_rfl) (fun _ => Q_move rfl rfl) ?_
      refine JA_p 5 22 9 rfl rfl rfl rfl (by kernel_rfl) (by kernel_rfl) (fun _ => Q_move rfl rfl) ?_
      obtain ⟨ad6, es6, hA6, hr6, hc6⟩ := RdF.nth hF_b i (by omega) (by omega)
      obtain ⟨rfl, ho6⟩ := openI hr6
      refine JA_p 6 23 9 rfl rfl rfl rfl (by kernel_rfl) (by kernel_rfl) (fun _ => Q_iaE hA6 rfl rfl rfl Try.underlying44 Try.sizeOf3 (by omega) (by omega)) ?_
      refine JA_q 7 24 rfl rfl rfl rfl (by kernel_rfl) (by kernel_rfl) hS4 (fun _ hI => Q_ldC1' (hc6 _ (hI.get (k := 0) rfl)) rfl rfl Try.isAgg3 rfl) ?_
      refine JA_p 8 25 9 rfl rfl rfl rfl (by kernel_rfl) (by kernel_rfl) (fun _ => Q_neqN rfl rfl rfl) ?_
      refine JA_end (by kernel_rfl) (K_seq ?_)
      refine C_ifN rfl (fun h7 => ?_) (fun h7 => ?_)
      · refine C_seq ?_
        refine C_region ?_
        refine J_q 4 rfl rfl rfl rfl (Q_assign rfl rfl) ?_
        refine J_nil (K_seq ?_)
        refine C_ret (R_blk (R_then (R_then (R_blk (R_then (body_ret (res1 rfl rfl) ?_))))))
        exact ⟨retB (by first | (refine (decide_eq_false fun hab => ?_).symm; subst hab; omega) | (exact (decide_eq_true (nth_ext (by omega) (hu.full (by omega)))).symm)), hS4.kept (k := 0) rfl⟩
      · refine C_skip (N_blk (K_seq ?_))
        refine C_region ?_
        refine J_q 15 rfl rfl rfl rfl (Q_move rfl rfl) ?_
        refine J_q 16 rfl rfl rfl rfl (Q_add rfl rfl rfl (by omega) (by omega)) ?_
        refine J_q 5 rfl rfl rfl rfl (Q_assign rfl rfl) ?_
        exact J_nil (K_round1 (x0 := i) (i + 1) ⟨(by first | omega | (exact Up.snoc hu (by omega))), (by first | omega | (exact Up.snoc hu (by omega))), (by first | omega | (exact Up.snoc hu (by omega))), hS4⟩ (by omega) ⟨rfl, rfl, rfl, rfl, rfl, rfl, rfl, rfl, trivial⟩)
    · refine C_exit (X_then (X_then (X_hit (K_seq ?_))))
      refine C_seq ?_
      refine C_region ?_
      refine J_q 4 rfl rfl rfl rfl (Q_assign rfl rfl) ?_
      refine J_nil (K_seq ?_)
      refine C_ret (body_ret (res1 rfl rfl) ?_)
      exact ⟨retB (by first | (refine (decide_eq_false fun hab => ?_).symm; subst hab; omega) | (exact (decide_eq_true (nth_ext (by omega) (hu.full (by omega)))).symm)), hS2.kept (k := 0) rfl⟩

theorem Equal_calls (w : World) (v_a : Value) (a : List Int) (h_a : (tSl tI).rd w [v_a] a) (v_b : Value) (b : List Int) (h_b : (tSl tI).rd w [v_b] b) :
    Calls Try.prog 124 #[v_a, v_b] w fun e w' => e = .returned (.bool (decide (a = b))) ∧ Kp no w w' := by
  have hS0 := St.start w
  have hF_a := RdF.of_rd h_a
  obtain ⟨A_a, cap_a, rfl, hc_a, hm_a⟩ := hF_a.slice
  have hF_b := RdF.of_rd h_b
  obtain ⟨A_b, cap_b, rfl, hc_b, hm_b⟩ := hF_b.slice
  refine fn_calls' 26 (args := [_, _]) Try.func124 rfl rfl rfl ?_
  refine C_seq ?_
  refine C_region ?_
  refine J_q 4 rfl rfl rfl rfl (Q_assign rfl rfl) ?_
  refine J_nil (K_seq ?_)
  refine C_seq ?_
  refine C_seq ?_
  refine C_region ?_
  refine J_q 6 rfl rfl rfl rfl (Q_move rfl rfl) ?_
  refine J_q 7 rfl rfl rfl rfl (Q_len rfl rfl Try.underlying44) ?_
  refine J_q 8 rfl rfl rfl rfl (Q_move rfl rfl) ?_
  refine J_q 9 rfl rfl rfl rfl (Q_len rfl rfl Try.underlying44) ?_
  refine J_q 10 rfl rfl rfl rfl (Q_neqN rfl rfl rfl) ?_
  refine J_nil (K_seq ?_)
  refine C_ifN rfl (fun h1 => ?_) (fun h1 => ?_)
  · refine C_seq ?_
    refine C_region ?_
    refine J_q 4 rfl rfl rfl rfl (Q_assign rfl rfl) ?_
    refine J_nil (K_seq ?_)
    refine C_ret (R_then (body_ret (res1 rfl rfl) ?_))
    exact ⟨retB (by first | (refine (decide_eq_false fun hab => ?_).symm; subst hab; omega) | (exact (decide_eq_true (nth_ext (by omega) (hu.full (by omega)))).symm)), hS0.kept (k := 0) rfl⟩
  · refine C_skip (K_seq ?_)
    refine C_seq ?_
    refine C_seq ?_
    refine C_region ?_
    refine J_q 11 rfl rfl rfl rfl (Q_move rfl rfl) ?_
    refine J_q 12 rfl rfl rfl rfl (Q_len rfl rfl Try.underlying44) ?_
    refine J_q 13 rfl rfl rfl rfl (Q_move rfl rfl) ?_
    refine J_nil (K_seq ?_)
    refine C_block ?_
    refine C_loop1 (fun (i : Int) => (a.length - i).toNat) (fun (i : Int) => [(0, .slice A_a a.length cap_a), (1, .slice A_b b.length cap_b), (6, .slice A_a a.length cap_a), (7, .int .i64 (a.length : Int)), (8, .slice A_b b.length cap_b), (9, .int .i64 (b.length : Int)), (10, .bool (!decide ((a.length : Int) = (b.length : Int)))), (11, .slice A_a a.length cap_a), (12, .int .i64 (a.length : Int)), (13, .int .i64 i)]) (fun (i : Int) w' => (0 ≤ i) ∧ (i ≤ a.length) ∧ (Up i fun j => nth a j = nth b j) ∧ St w w' [(0, fz w (lt_ w))]) 0 ⟨(by first | omega | exact Up.zero), (by first | omega | exact Up.zero), (by first | omega | exact Up.zero), hS0⟩ ⟨rfl, rfl, rfl, rfl, rfl, rfl, rfl, rfl, rfl, rfl, trivial⟩ ?_
    rintro i w2 ⟨h0, h1, hu, hS2⟩
    refine C_seq ?_
    refine C_region ?_
    refine J_q 14 rfl rfl rfl rfl (Q_lss rfl rfl rfl) ?_
    refine J_nil (K_seq ?_)
    refine C_seq ?_
    refine C_if rfl (fun h3 => ?_) (fun h3 => ?_)
    · refine C_skip (K_seq ?_)
      refine C_seq ?_
      refine C_block ?_
      refine C_seq ?_
      refine C_region ?_
      refine J_q 15 rfl rfl rfl rfl (Q_move rfl rfl) ?_
      refine J_q 5 rfl rfl rfl rfl (Q_assign rfl rfl) ?_
      refine J_nil (K_seq ?_)
      refine C_seq ?_
      refine C_draw (fun w' => St w w' [(0, fz w (lt_ w))]) 9 mixedOrders 9 rfl (fun w4 hk4 => ?_)
      have hS4 := hS2.kp0 hk4
      refine JA_p 0 16 9 rfl rfl rfl rfl (by kernel_rfl) (by kernel_rfl) (fun _ => Q_move rfl rfl) ?_
      refine JA_p 1 17 9 rfl rfl rfl rfl (by kernel_rfl) (by kernel_rfl) (fun _ => Q_move rfl rfl) ?_
      obtain ⟨ad5, es5, hA5, hr5, hc5⟩ := RdF.nth hF_a i (by omega) (by omega)
      obtain ⟨rfl, ho5⟩ := openI hr5
      refine JA_p 2 18 9 rfl rfl rfl rfl (by kernel_rfl) (by kernel_rfl) (fun _ => Q_iaE hA5 rfl rfl rfl Try.underlying44 Try.sizeOf3 (by omega) (by omega)) ?_
      refine JA_q 3 19 rfl rfl rfl rfl (by kernel_rfl) (by kernel_rfl) hS4 (fun _ hI => Q_ldC1' (hc5 _ (hI.get (k := 0) rfl)) rfl rfl Try.isAgg3 rfl) ?_
      refine JA_p 4 20 9 rfl rfl rfl rfl (by kernel_rfl) (by kernel_rfl) (fun _ => Q_move rfl rfl) ?_
      refine JA_p 5 21 9 rfl rfl rfl rfl (by kernel_rfl) (by kernel_rfl) (fun _ => Q_move rfl rfl) ?_
      obtain ⟨ad6, es6, hA6, hr6, hc6⟩ := RdF.nth hF_b i (by omega) (by omega)
      obtain ⟨rfl, ho6⟩ := openI hr6
      refine JA_p 6 22 9 rfl rfl rfl rfl (by kernel_rfl) (by kernel_rfl) (fun _ => Q_iaE hA6 rfl rfl rfl Try.underlying44 Try.sizeOf3 (by omega) (by omega)) ?_
      refine JA_q 7 23 rfl rfl rfl rfl (by kernel_rfl) (by kernel_rfl) hS4 (fun _ hI => Q_ldC1' (hc6 _ (hI.get (k := 0) rfl)) rfl rfl Try.isAgg3 rfl) ?_
      refine JA_p 8 24 9 rfl rfl rfl rfl (by kernel_rfl) (by kernel_rfl) (fun _ => Q_neqN rfl rfl rfl) ?_
      refine JA_end (by kernel_rfl) (K_seq ?_)
      refine C_ifN rfl (fun h7 => ?_) (fun h7 => ?_)
      · refine C_seq ?_
        refine C_region ?_
        refine J_q 4 rfl rfl rfl rfl (Q_assign rfl rfl) ?_
        refine J_nil (K_seq ?_)
        refine C_ret (R_blk (R_then (R_then (R_blk (R_then (body_ret (res1 rfl rfl) ?_))))))
        exact ⟨retB (by first | (refine (decide_eq_false fun hab => ?_).symm; subst hab; omega) | (exact (decide_eq_true (nth_ext (by omega) (hu.full (by omega)))).symm)), hS4.kept (k := 0) rfl⟩
      · refine C_skip (N_blk (K_seq ?_))
        refine C_region ?_
        refine J_q 25 rfl rfl rfl rfl (Q_add rfl rfl rfl (by omega) (by omega)) ?_
        refine J_q 13 rfl rfl rfl rfl (Q_move rfl rfl) ?_
        exact J_nil (K_round1 (x0 := i) (i + 1) ⟨(by first | omega | (exact Up.snoc hu (by omega))), (by first | omega | (exact Up.snoc hu (by omega))), (by first | omega | (exact Up.snoc hu (by omega))), hS4⟩ (by omega) ⟨rfl, rfl, rfl, rfl, rfl, rfl, rfl, rfl, rfl, rfl, trivial⟩)
    · refine C_exit (X_then (X_then (X_hit (K_seq ?_))))
      refine C_seq ?_
      refine C_region ?_
      refine J_q 4 rfl rfl rfl rfl (Q_assign rfl rfl) ?_
      refine J_nil (K_seq ?_)
      refine C_ret (body_ret (res1 rfl rfl) ?_)
      exact ⟨retB (by first | (refine (decide_eq_false fun hab => ?_).symm; subst hab; omega) | (exact (decide_eq_true (nth_ext (by omega) (hu.full (by omega)))).symm)), hS2.kept (k := 0) rfl⟩

theorem Has_calls (w : World) (v_l : Value) (l : List Stamp) (h_l : (tSl tSt).rd w [v_l] l) (s : Stamp) :
    Calls Try.prog 109 #[v_l, .agg (stL s).toArray] w fun e w' => e = .returned (.bool (decide (s ∈ l))) ∧ Kp no w w' := by
  have hS0 := St.start w
  have hF_l := RdF.of_rd h_l
  obtain ⟨A_l, cap_l, rfl, hc_l, hm_l⟩ := hF_l.slice
  refine fn_calls' 18 (args := [_, _]) Try.func109 rfl rfl rfl ?_
  refine C_seq ?_
  refine C_region ?_
  refine J_do 3 rfl rfl rfl rfl (D_box 1 hS0 rfl rfl (fun g1 w1 hS1 => ?_))
  refine J_q 4 rfl rfl rfl rfl (Q_assign rfl rfl) ?_
  refine J_nil (K_seq ?_)
  refine C_seq ?_
  refine C_seq ?_
  refine C_region ?_
  refine J_q 5 rfl rfl rfl rfl (Q_assign rfl rfl) ?_
  refine J_nil (K_seq ?_)
  refine C_block ?_
  refine C_loop1 (fun (i : Int) => (l.length - i).toNat) (fun (i : Int) => [(0, .slice A_l l.length cap_l), (1, .agg (stL s).toArray), (3, .pointer (some (⟨g1, 0, none⟩ : Addr))), (5, .int .i64 i)]) (fun (i : Int) w' => (0 ≤ i) ∧ (i ≤ l.length) ∧ (Up i fun j => ¬ nth l j = s) ∧ St w w' [(1, blkL g1 (stL s) 23), (0, fz w (lt_ w))]) 0 ⟨(by first | omega | exact Up.zero), (by first | omega | exact Up.zero), (by first | omega | exact Up.zero), hS1⟩ ⟨rfl, rfl, rfl, rfl, trivial⟩ ?_
  rintro i w2 ⟨h0, h1, hu, hS2⟩
  refine C_seq ?_
  refine C_seq ?_
  refine C_region ?_
  refine J_q 6 rfl rfl rfl rfl (Q_move rfl rfl) ?_
  refine J_q 7 rfl rfl rfl rfl (Q_move rfl rfl) ?_
  refine J_q 8 rfl rfl rfl rfl (Q_len rfl rfl Try.underlying36) ?_
  refine J_q 9 rfl rfl rfl rfl (Q_lss rfl rfl rfl) ?_
  refine J_nil (K_seq ?_)
  refine C_if rfl (fun h3 => ?_) (fun h3 => ?_)
  · refine C_skip (K_seq ?_)
    refine C_seq ?_
    refine C_block ?_
    refine C_seq ?_
    refine C_draw (fun w' => St w w' [(1, blkL g1 (stL s) 23), (0, fz w (lt_ w))]) 6 mixedOrders 6 rfl (fun w4 hk4 => ?_)
    have hS4 := hS2.kp0 hk4
    refine JA_p 0 12 6 rfl rfl rfl rfl (by kernel_rfl) (by kernel_rfl) (fun _ => Q_move rfl rfl) ?_
    refine JA_p 1 13 6 rfl rfl rfl rfl (by kernel_rfl) (by kernel_rfl) (fun _ => Q_move rfl rfl) ?_
    obtain ⟨ad5, es5, hA5, hr5, hc5⟩ := RdF.nth hF_l i (by omega) (by omega)
    obtain ⟨rfl, ho5⟩ := openSt hr5
    refine JA_p 2 14 6 rfl rfl rfl rfl (by kernel_rfl) (by kernel_rfl) (fun _ => Q_iaE hA5 rfl rfl rfl Try.underlying36 Try.sizeOf23 (by omega) (by omega)) ?_
    refine JA_q 3 15 rfl rfl rfl rfl (by kernel_rfl) (by kernel_rfl) hS4 (fun _ hI => Q_ldCK' (stL (nth l i)) (hc5 _ (hI.get (k := 0) rfl)) rfl rfl Try.isAgg23 Try.sizeOf23 rfl rfl) ?_
    refine JA_q 4 16 rfl rfl rfl rfl (by kernel_rfl) (by kernel_rfl) hS4 (fun _ hI => Q_ldBK' (k := 1) (stL s) hI rfl rfl rfl Try.isAgg23 Try.sizeOf23 rfl rfl) ?_
    refine JA_p 5 17 6 rfl rfl rfl rfl (by kernel_rfl) (by kernel_rfl) (fun _ => Q_eqlP rfl rfl rfl pe23) ?_
    refine JA_end (by kernel_rfl) (K_seq ?_)
    refine C_if rfl (fun h6 => ?_) (fun h6 => ?_)
    · refine C_seq ?_
      refine C_region ?_
      refine J_q 4 rfl rfl rfl rfl (Q_assign rfl rfl) ?_
      refine J_nil (K_seq ?_)
      refine C_ret (R_blk (R_then (R_then (R_blk (R_then (body_ret (res1 rfl rfl) ?_))))))
      exact ⟨retB (by first | (exact (decide_eq_true (mem_nth.2 ⟨i, h0, by omega, eqs_iff.2 (by assumption)⟩)).symm) | (refine (decide_eq_false fun hm => ?_).symm; obtain ⟨j, hj0, hj1, hj2⟩ := mem_nth.1 hm; exact hu j hj0 (by omega) hj2)), hS4.kept (k := 0) rfl⟩
    · refine C_skip (N_blk (K_seq ?_))
      refine C_region ?_
      refine J_q 10 rfl rfl rfl rfl (Q_move rfl rfl) ?_
      refine J_q 11 rfl rfl rfl rfl (Q_add rfl rfl rfl (by omega) (by omega)) ?_
      refine J_q 5 rfl rfl rfl rfl (Q_assign rfl rfl) ?_
      exact J_nil (K_round1 (x0 := i) (i + 1) ⟨(by first | omega | (exact Up.snoc hu (fun he => by have he2 := eqs_iff.1 he; omega))), (by first | omega | (exact Up.snoc hu (fun he => by have he2 := eqs_iff.1 he; omega))), (by first | omega | (exact Up.snoc hu (fun he => by have he2 := eqs_iff.1 he; omega))), hS4⟩ (by omega) ⟨rfl, rfl, rfl, rfl, trivial⟩)
  · refine C_exit (X_then (X_then (X_hit (K_seq ?_))))
    refine C_seq ?_
    refine C_region ?_
    refine J_q 4 rfl rfl rfl rfl (Q_assign rfl rfl) ?_
    refine J_nil (K_seq ?_)
    refine C_ret (body_ret (res1 rfl rfl) ?_)
    exact ⟨retB (by first | (exact (decide_eq_true (mem_nth.2 ⟨i, h0, by omega, eqs_iff.2 (by assumption)⟩)).symm) | (refine (decide_eq_false fun hm => ?_).symm; obtain ⟨j, hj0, hj1, hj2⟩ := mem_nth.1 hm; exact hu j hj0 (by omega) hj2)), hS2.kept (k := 0) rfl⟩

theorem ahead_calls (w : World) (s : Stamp) (a : Stamp) :
    Calls Try.prog 131 #[.agg (stL s).toArray, .agg (stL a).toArray] w fun e w' => e = .returned (.bool (decide (sahead s a))) ∧ Kp no w w' := by
  have hS0 := St.start w
  refine fn_calls' 12 (args := [_, _]) Try.func131 rfl rfl rfl ?_
  refine C_seq ?_
  refine C_region ?_
  refine J_do 2 rfl rfl rfl rfl (D_box 1 hS0 rfl rfl (fun g1 w1 hS1 => ?_))
  refine J_do 3 rfl rfl rfl rfl (D_box 2 hS1 rfl rfl (fun g2 w2 hS2 => ?_))
  refine J_q 4 rfl rfl rfl rfl (Q_assign rfl rfl) ?_
  refine J_nil (K_seq ?_)
  refine C_seq ?_
  refine C_region ?_
  refine J_q 5 rfl rfl rfl rfl (Q_ldBK' (k := 1) (stL s) hS2 rfl rfl rfl Try.isAgg23 Try.sizeOf23 rfl rfl) ?_
  refine J_call 6 rfl rfl rfl rfl (T_call rfl rfl rfl Try.call79) (RRight_calls _ s) ?_
  rintro _ w3 ⟨rfl, hk3⟩
  have hS3 := hS2.kp0 hk3
  refine ⟨_, rfl, ?_⟩
  refine J_q 7 rfl rfl rfl rfl (Q_move rfl rfl) ?_
  refine J_split 7 rfl (fun h4 => ?_) (fun h4 => ?_)
  · refine J_q 8 rfl rfl rfl rfl (Q_ldBK' (k := 1) (stL s) hS3 rfl rfl rfl Try.isAgg23 Try.sizeOf23 rfl rfl) ?_
    refine J_q 9 rfl rfl rfl rfl (Q_ldBK' (k := 2) (stL a) hS3 rfl rfl rfl Try.isAgg23 Try.sizeOf23 rfl rfl) ?_
    refine J_call 10 rfl rfl rfl rfl (T_call rfl rfl rfl Try.call37) (RLess_calls _ s a) ?_
    rintro _ w5 ⟨rfl, hk5⟩
    have hS5 := hS3.kp0 hk5
    refine ⟨_, rfl, ?_⟩
    refine J_q 11 rfl rfl rfl rfl (Q_pickT rfl rfl rfl) ?_
    refine J_q 4 rfl rfl rfl rfl (Q_assign rfl rfl) ?_
    refine J_nil (K_seq ?_)
    refine C_ret (body_ret (res1 rfl rfl) ?_)
    exact ⟨retB (by first | rfl | (simp only [decide_eq_decide]; omega) | (refine (decide_eq_true ?_).symm; omega) | (refine (decide_eq_false ?_).symm; omega) | (rw [← decide_not, decide_eq_decide]; omega)), hS5.kept (k := 0) rfl⟩
  · refine J_no rfl rfl rfl ?_
    refine J_no rfl rfl rfl ?_
    refine J_no rfl rfl rfl ?_
    refine J_q 11 rfl rfl rfl rfl (Q_pickF rfl rfl rfl) ?_
    refine J_q 4 rfl rfl rfl rfl (Q_assign rfl rfl) ?_
    refine J_nil (K_seq ?_)
    refine C_ret (body_ret (res1 rfl rfl) ?_)
    exact ⟨retB (by first | rfl | (simp only [decide_eq_decide]; omega) | (refine (decide_eq_true ?_).symm; omega) | (refine (decide_eq_false ?_).symm; omega) | (rw [← decide_not, decide_eq_decide]; omega)), hS3.kept (k := 0) rfl⟩

theorem Within_calls (w : World) (l_c : List Value) (c : Change) (h_c : tCh.rd w l_c c) (v_known : Value) (known : List Int) (h_known : (tSl tI).rd w [v_known] known) :
    Calls Try.prog 74 #[.agg l_c.toArray, v_known] w fun e w' => e = .returned (.bool (decide (within c known))) ∧ Kp no w w' := by
  have hS0 := St.start w
  have hF_c := RdF.of_rd h_c
  obtain ⟨A_c, cap_c, rfl, hd_c, ho_c⟩ := openCh hF_c
  have hF_known := RdF.of_rd h_known
  obtain ⟨A_known, cap_known, rfl, hc_known, hm_known⟩ := hF_known.slice
  refine fn_calls' 13 (args := [_, _]) Try.func74 rfl rfl rfl ?_
  refine C_seq ?_
  refine C_region ?_
  refine J_do 2 rfl rfl rfl rfl (D_box 1 hS0 rfl rfl (fun g1 w1 hS1 => ?_))
  refine J_q 4 rfl rfl rfl rfl (Q_assign rfl rfl) ?_
  refine J_nil (K_seq ?_)
  refine C_seq ?_
  refine C_draw (fun w' => St w w' [(1, blkL g1 (chL c A_c cap_c) 55), (0, fz w (lt_ w))]) 9 mixedOrders 9 rfl (fun w2 hk2 => ?_)
  have hS2 := hS1.kp0 hk2
  refine JA_p 0 5 9 rfl rfl rfl rfl (by kernel_rfl) (by kernel_rfl) (fun _ => Q_fa0 rfl rfl fo55_1) ?_
  refine JA_q 1 6 rfl rfl rfl rfl (by kernel_rfl) (by kernel_rfl) hS2 (fun _ hI => Q_ldB1 (k := 1) hI rfl rfl rfl Try.isAgg3 rfl) ?_
  refine JA_p 2 7 9 rfl rfl rfl rfl (by kernel_rfl) (by kernel_rfl) (fun _ => Q_move rfl rfl) ?_
  refine JA_p 3 8 9 rfl rfl rfl rfl (by kernel_rfl) (by kernel_rfl) (fun _ => Q_fa0 rfl rfl fo55_0) ?_
  refine JA_p 4 9 9 rfl rfl rfl rfl (by kernel_rfl) (by kernel_rfl) (fun _ => Q_fa rfl rfl fo23_1 rfl) ?_
  refine JA_q 5 10 rfl rfl rfl rfl (by kernel_rfl) (by kernel_rfl) hS2 (fun _ hI => Q_ldB1 (k := 1) hI rfl rfl rfl Try.isAgg3 rfl) ?_
  refine JA_call 6 11 rfl rfl rfl rfl (by kernel_rfl) (T_call rfl rfl rfl Try.call40) (RAt_calls _ _ known (hS2.rd 0 rfl hF_known) c.at_.r) ?_
  rintro _ w3 ⟨rfl, hk3⟩
  have hS3 := hS2.kp0 hk3
  refine ⟨_, rfl, (fun _ => hS3), ?_⟩
  refine JA_p 7 12 9 rfl rfl rfl rfl (by kernel_rfl) (by kernel_rfl) (fun _ => Q_leq rfl rfl rfl) ?_
  refine JA_p 8 4 9 rfl rfl rfl rfl (by kernel_rfl) (by kernel_rfl) (fun _ => Q_assign rfl rfl) ?_
  refine JA_end (by kernel_rfl) (K_seq ?_)
  refine C_ret (body_ret (res1 rfl rfl) ?_)
  exact ⟨retB (by first | rfl | (simp only [decide_eq_decide]; omega) | (refine (decide_eq_true ?_).symm; omega) | (refine (decide_eq_false ?_).symm; omega) | (rw [← decide_not, decide_eq_decide]; omega)), hS3.kept (k := 0) rfl⟩

theorem Two_calls (w : World) (v_a : Value) (a : List Int) (h_a : (tSl tI).rd w [v_a] a) (v_b : Value) (b : List Int) (h_b : (tSl tI).rd w [v_b] b) :
    Calls Try.prog 84 #[v_a, v_b] w fun e w' => e = .returned (.int .i64 (if ¬ chk2 a = 0 then chk2 a else chk2 b)) ∧ Kp no w w' := by
  have hS0 := St.start w
  have hF_a := RdF.of_rd h_a
  obtain ⟨A_a, cap_a, rfl, hc_a, hm_a⟩ := hF_a.slice
  have hF_b := RdF.of_rd h_b
  obtain ⟨A_b, cap_b, rfl, hc_b, hm_b⟩ := hF_b.slice
  refine fn_calls' 12 (args := [_, _]) Try.func84 rfl rfl rfl ?_
  refine C_seq ?_
  refine C_region ?_
  refine J_q 4 rfl rfl rfl rfl (Q_assign rfl rfl) ?_
  refine J_nil (K_seq ?_)
  refine C_seq ?_
  refine C_seq ?_
  refine C_region ?_
  refine J_q 5 rfl rfl rfl rfl (Q_move rfl rfl) ?_
  refine J_call 6 rfl rfl rfl rfl (T_call rfl rfl rfl Try.call27) (RCheck_calls _ _ a (hS0.rd 0 rfl hF_a)) ?_
  rintro _ w1 ⟨rfl, hk1⟩
  have hS1 := hS0.kp0 hk1
  refine ⟨_, rfl, ?_⟩
  refine J_q 7 rfl rfl rfl rfl (Q_neqN rfl rfl rfl) ?_
  refine J_nil (K_seq ?_)
  refine C_ifN rfl (fun h2 => ?_) (fun h2 => ?_)
  · refine C_seq ?_
    refine C_region ?_
    refine J_q 8 rfl rfl rfl rfl (Q_move rfl rfl) ?_
    refine J_call 9 rfl rfl rfl rfl (T_call rfl rfl rfl Try.call27) (RCheck_calls _ _ a (hS1.rd 0 rfl hF_a)) ?_
    rintro _ w3 ⟨rfl, hk3⟩
    have hS3 := hS1.kp0 hk3
    refine ⟨_, rfl, ?_⟩
    refine J_q 4 rfl rfl rfl rfl (Q_assign rfl rfl) ?_
    refine J_nil (K_seq ?_)
    refine C_ret (R_then (body_ret (res1 rfl rfl) ?_))
    exact ⟨retI (by simp [h2]), hS3.kept (k := 0) rfl⟩
  · refine C_skip (K_seq ?_)
    refine C_seq ?_
    refine C_region ?_
    refine J_q 10 rfl rfl rfl rfl (Q_move rfl rfl) ?_
    refine J_call 11 rfl rfl rfl rfl (T_call rfl rfl rfl Try.call27) (RCheck_calls _ _ b (hS1.rd 0 rfl hF_b)) ?_
    rintro _ w4 ⟨rfl, hk4⟩
    have hS4 := hS1.kp0 hk4
    refine ⟨_, rfl, ?_⟩
    refine J_q 4 rfl rfl rfl rfl (Q_assign rfl rfl) ?_
    refine J_nil (K_seq ?_)
    refine C_ret (body_ret (res1 rfl rfl) ?_)
    exact ⟨retI (by simp [h2]), hS4.kept (k := 0) rfl⟩

theorem RFind_calls (w : World) (v_l : Value) (l : List Change) (h_l : (tSl tCh).rd w [v_l] l) (s : Stamp) :
    Calls Try.prog 32 #[v_l, .agg (stL s).toArray] w fun e w' => e = .returned (.int .i64 (findAt l s)) ∧ Kp no w w' := by
  have hS0 := St.start w
  have hF_l := RdF.of_rd h_l
  obtain ⟨A_l, cap_l, rfl, hc_l, hm_l⟩ := hF_l.slice
  refine fn_calls' 20 (args := [_, _]) Try.func32 rfl rfl rfl ?_
  refine C_seq ?_
  refine C_region ?_
  refine J_do 3 rfl rfl rfl rfl (D_box 1 hS0 rfl rfl (fun g1 w1 hS1 => ?_))
  refine J_q 4 rfl rfl rfl rfl (Q_assign rfl rfl) ?_
  refine J_nil (K_seq ?_)
  refine C_seq ?_
  refine C_seq ?_
  refine C_region ?_
  refine J_q 5 rfl rfl rfl rfl (Q_assign rfl rfl) ?_
  refine J_nil (K_seq ?_)
  refine C_block ?_
  refine C_loop1 (fun (i : Int) => (l.length - i).toNat) (fun (i : Int) => [(0, .slice A_l l.length cap_l), (1, .agg (stL s).toArray), (3, .pointer (some (⟨g1, 0, none⟩ : Addr))), (5, .int .i64 i)]) (fun (i : Int) w' => (0 ≤ i) ∧ (i ≤ l.length) ∧ (Up i fun j => ¬ eqs (nth l j).at_ s) ∧ St w w' [(1, blkL g1 (stL s) 23), (0, fz w (lt_ w))]) 0 ⟨(by first | omega | exact Up.zero), (by first | omega | exact Up.zero), (by first | omega | exact Up.zero), hS1⟩ ⟨rfl, rfl, rfl, rfl, trivial⟩ ?_
  rintro i w2 ⟨h0, h1, hu, hS2⟩
  refine C_seq ?_
  refine C_seq ?_
  refine C_region ?_
  refine J_q 6 rfl rfl rfl rfl (Q_move rfl rfl) ?_
  refine J_q 7 rfl rfl rfl rfl (Q_move rfl rfl) ?_
  refine J_q 8 rfl rfl rfl rfl (Q_len rfl rfl Try.underlying43) ?_
  refine J_q 9 rfl rfl rfl rfl (Q_lss rfl rfl rfl) ?_
  refine J_nil (K_seq ?_)
  refine C_if rfl (fun h3 => ?_) (fun h3 => ?_)
  · refine C_skip (K_seq ?_)
    refine C_seq ?_
    refine C_block ?_
    refine C_seq ?_
    refine C_draw (fun w' => St w w' [(1, blkL g1 (stL s) 23), (0, fz w (lt_ w))]) 7 mixedOrders 7 rfl (fun w4 hk4 => ?_)
    have hS4 := hS2.kp0 hk4
    refine JA_p 0 12 7 rfl rfl rfl rfl (by kernel_rfl) (by kernel_rfl) (fun _ => Q_move rfl rfl) ?_
    refine JA_p 1 13 7 rfl rfl rfl rfl (by kernel_rfl) (by kernel_rfl) (fun _ => Q_move rfl rfl) ?_
    obtain ⟨ad5, es5, hA5, hr5, hc5⟩ := RdF.nth hF_l i (by omega) (by omega)
    obtain ⟨A5, cap5, rfl, hd5, ho5⟩ := openCh hr5
    refine JA_p 2 14 7 rfl rfl rfl rfl (by kernel_rfl) (by kernel_rfl) (fun _ => Q_iaE hA5 rfl rfl rfl Try.underlying43 Try.sizeOf55 (by omega) (by omega)) ?_
    refine JA_p 3 15 7 rfl rfl rfl rfl (by kernel_rfl) (by kernel_rfl) (fun _ => Q_fa0 rfl rfl fo55_0) ?_
    refine JA_q 4 16 rfl rfl rfl rfl (by kernel_rfl) (by kernel_rfl) hS4 (fun _ hI => Q_ldCK (stL ((nth l i).at_)) (hc5 _ (hI.get (k := 0) rfl)) rfl rfl Try.isAgg23 Try.sizeOf23 rfl rfl) ?_
    refine JA_q 5 17 rfl rfl rfl rfl (by kernel_rfl) (by kernel_rfl) hS4 (fun _ hI => Q_ldBK' (k := 1) (stL s) hI rfl rfl rfl Try.isAgg23 Try.sizeOf23 rfl rfl) ?_
    refine JA_p 6 18 7 rfl rfl rfl rfl (by kernel_rfl) (by kernel_rfl) (fun _ => Q_eqlP rfl rfl rfl pe23) ?_
    refine JA_end (by kernel_rfl) (K_seq ?_)
    refine C_if rfl (fun h6 => ?_) (fun h6 => ?_)
    · refine C_seq ?_
      refine C_region ?_
      refine J_q 19 rfl rfl rfl rfl (Q_move rfl rfl) ?_
      refine J_q 4 rfl rfl rfl rfl (Q_assign rfl rfl) ?_
      refine J_nil (K_seq ?_)
      refine C_ret (R_blk (R_then (R_then (R_blk (R_then (body_ret (res1 rfl rfl) ?_))))))
      exact ⟨retI (by first | (exact (fidx_hit h0 (by omega) (by assumption) hu).symm) | (exact (fidx_none (hu.full (by omega))).symm)), hS4.kept (k := 0) rfl⟩
    · refine C_skip (N_blk (K_seq ?_))
      refine C_region ?_
      refine J_q 10 rfl rfl rfl rfl (Q_move rfl rfl) ?_
      refine J_q 11 rfl rfl rfl rfl (Q_add rfl rfl rfl (by omega) (by omega)) ?_
      refine J_q 5 rfl rfl rfl rfl (Q_assign rfl rfl) ?_
      exact J_nil (K_round1 (x0 := i) (i + 1) ⟨(by first | omega | (exact Up.snoc hu (by assumption))), (by first | omega | (exact Up.snoc hu (by assumption))), (by first | omega | (exact Up.snoc hu (by assumption))), hS4⟩ (by omega) ⟨rfl, rfl, rfl, rfl, trivial⟩)
  · refine C_exit (X_then (X_then (X_hit (K_seq ?_))))
    refine C_seq ?_
    refine C_region ?_
    refine J_q 4 rfl rfl rfl rfl (Q_assign rfl rfl) ?_
    refine J_nil (K_seq ?_)
    refine C_ret (body_ret (res1 rfl rfl) ?_)
    exact ⟨retI (by first | (exact (fidx_hit h0 (by omega) (by assumption) hu).symm) | (exact (fidx_none (hu.full (by omega))).symm)), hS2.kept (k := 0) rfl⟩

theorem ROwn_calls (w : World) (v_l : Value) (l : List Change) (h_l : (tSl tCh).rd w [v_l] l) (r : Int) (q : Int) :
    Calls Try.prog 34 #[v_l, .int .i64 r, .int .i64 q] w fun e w' => e = .returned (.int .i64 (ownAt l r q)) ∧ Kp no w w' := by
  have hS0 := St.start w
  have hF_l := RdF.of_rd h_l
  obtain ⟨A_l, cap_l, rfl, hc_l, hm_l⟩ := hF_l.slice
  refine fn_calls' 32 (args := [_, _, _]) Try.func34 rfl rfl rfl ?_
  refine C_seq ?_
  refine C_region ?_
  refine J_q 6 rfl rfl rfl rfl (Q_assign rfl rfl) ?_
  refine J_nil (K_seq ?_)
  refine C_seq ?_
  refine C_seq ?_
  refine C_region ?_
  refine J_q 7 rfl rfl rfl rfl (Q_assign rfl rfl) ?_
  refine J_nil (K_seq ?_)
  refine C_block ?_
  refine C_loop1 (fun (i : Int) => (l.length - i).toNat) (fun (i : Int) => [(0, .slice A_l l.length cap_l), (1, .int .i64 r), (2, .int .i64 q), (7, .int .i64 i)]) (fun (i : Int) w' => (0 ≤ i) ∧ (i ≤ l.length) ∧ (Up i fun j => ¬ ((nth l j).at_.r = r ∧ (nth l j).seq = q)) ∧ St w w' [(0, fz w (lt_ w))]) 0 ⟨(by first | omega | exact Up.zero), (by first | omega | exact Up.zero), (by first | omega | exact Up.zero), hS0⟩ ⟨rfl, rfl, rfl, rfl, trivial⟩ ?_
  rintro i w1 ⟨h0, h1, hu, hS1⟩
  refine C_seq ?_
  refine C_seq ?_
  refine C_region ?_
  refine J_q 8 rfl rfl rfl rfl (Q_move rfl rfl) ?_
  refine J_q 9 rfl rfl rfl rfl (Q_move rfl rfl) ?_
  refine J_q 10 rfl rfl rfl rfl (Q_len rfl rfl Try.underlying43) ?_
  refine J_q 11 rfl rfl rfl rfl (Q_lss rfl rfl rfl) ?_
  refine J_nil (K_seq ?_)
  refine C_if rfl (fun h2 => ?_) (fun h2 => ?_)
  · refine C_skip (K_seq ?_)
    refine C_seq ?_
    refine C_block ?_
    refine C_seq ?_
    refine C_region ?_
    refine J_q 14 rfl rfl rfl rfl (Q_move rfl rfl) ?_
    refine J_q 15 rfl rfl rfl rfl (Q_move rfl rfl) ?_
    obtain ⟨ad3, es3, hA3, hr3, hc3⟩ := RdF.nth hF_l i (by omega) (by omega)
    obtain ⟨A3, cap3, rfl, hd3, ho3⟩ := openCh hr3
    refine J_q 16 rfl rfl rfl rfl (Q_iaE hA3 rfl rfl rfl Try.underlying43 Try.sizeOf55 (by omega) (by omega)) ?_
    refine J_q 17 rfl rfl rfl rfl (Q_fa0 rfl rfl fo55_0) ?_
    refine J_q 18 rfl rfl rfl rfl (Q_fa rfl rfl fo23_1 rfl) ?_
    refine J_q 19 rfl rfl rfl rfl (Q_ldC1 (hc3 _ (hS1.get (k := 0) rfl)) rfl rfl Try.isAgg3 rfl) ?_
    refine J_q 20 rfl rfl rfl rfl (Q_move rfl rfl) ?_
    refine J_q 21 rfl rfl rfl rfl (Q_eql rfl rfl rfl) ?_
    refine J_q 22 rfl rfl rfl rfl (Q_move rfl rfl) ?_
    refine J_split 22 rfl (fun h4 => ?_) (fun h4 => ?_)
    · refine J_q 23 rfl rfl rfl rfl (Q_move rfl rfl) ?_
      refine J_q 24 rfl rfl rfl rfl (Q_move rfl rfl) ?_
      refine J_q 25 rfl rfl rfl rfl (Q_iaE hA3 rfl rfl rfl Try.underlying43 Try.sizeOf55 (by omega) (by omega)) ?_
      refine J_q 26 rfl rfl rfl rfl (Q_fa0 rfl rfl fo55_1) ?_
      refine J_q 27 rfl rfl rfl rfl (Q_ldC1 (hc3 _ (hS1.get (k := 0) rfl)) rfl rfl Try.isAgg3 rfl) ?_
      refine J_q 28 rfl rfl rfl rfl (Q_move rfl rfl) ?_
      refine J_q 29 rfl rfl rfl rfl (Q_eql rfl rfl rfl) ?_
      refine J_q 30 rfl rfl rfl rfl (Q_pickT rfl rfl rfl) ?_
      refine J_nil (K_seq ?_)
      refine C_if rfl (fun h5 => ?_) (fun h5 => ?_)
      · refine C_seq ?_
        refine C_region ?_
        refine J_q 31 rfl rfl rfl rfl (Q_move rfl rfl) ?_
        refine J_q 6 rfl rfl rfl rfl (Q_assign rfl rfl) ?_
        refine J_nil (K_seq ?_)
        refine C_ret (R_blk (R_then (R_then (R_blk (R_then (body_ret (res1 rfl rfl) ?_))))))
        exact ⟨retI (by first | (exact (fidx_hit h0 (by omega) (by omega) hu).symm) | (exact (fidx_none (hu.full (by omega))).symm)), hS1.kept (k := 0) rfl⟩
      · refine C_skip (N_blk (K_seq ?_))
        refine C_region ?_
        refine J_q 12 rfl rfl rfl rfl (Q_move rfl rfl) ?_
        refine J_q 13 rfl rfl rfl rfl (Q_add rfl rfl rfl (by omega) (by omega)) ?_
        refine J_q 7 rfl rfl rfl rfl (Q_assign rfl rfl) ?_
        exact J_nil (K_round1 (x0 := i) (i + 1) ⟨(by first | omega | (exact Up.snoc hu (by omega))), (by first | omega | (exact Up.snoc hu (by omega))), (by first | omega | (exact Up.snoc hu (by omega))), hS1⟩ (by omega) ⟨rfl, rfl, rfl, rfl, trivial⟩)
    · refine J_no rfl rfl rfl ?_
      refine J_no rfl rfl rfl ?_
      refine J_no rfl rfl rfl ?_
      refine J_no rfl rfl rfl ?_
      refine J_no rfl rfl rfl ?_
      refine J_no rfl rfl rfl ?_
      refine J_no rfl rfl rfl ?_
      refine J_q 30 rfl rfl rfl rfl (Q_pickF rfl rfl rfl) ?_
      refine J_nil (K_seq ?_)
      refine C_false rfl ?_
      refine C_skip (N_blk (K_seq ?_))
      refine C_region ?_
      refine J_q 12 rfl rfl rfl rfl (Q_move rfl rfl) ?_
      refine J_q 13 rfl rfl rfl rfl (Q_add rfl rfl rfl (by omega) (by omega)) ?_
      refine J_q 7 rfl rfl rfl rfl (Q_assign rfl rfl) ?_
      exact J_nil (K_round1 (x0 := i) (i + 1) ⟨(by first | omega | (exact Up.snoc hu (by omega))), (by first | omega | (exact Up.snoc hu (by omega))), (by first | omega | (exact Up.snoc hu (by omega))), hS1⟩ (by omega) ⟨rfl, rfl, rfl, rfl, trivial⟩)
  · refine C_exit (X_then (X_then (X_hit (K_seq ?_))))
    refine C_seq ?_
    refine C_region ?_
    refine J_q 6 rfl rfl rfl rfl (Q_assign rfl rfl) ?_
    refine J_nil (K_seq ?_)
    refine C_ret (body_ret (res1 rfl rfl) ?_)
    exact ⟨retI (by first | (exact (fidx_hit h0 (by omega) (by omega) hu).symm) | (exact (fidx_none (hu.full (by omega))).symm)), hS1.kept (k := 0) rfl⟩

theorem RLast_calls (w : World) (v_l : Value) (l : List Change) (h_l : (tSl tCh).rd w [v_l] l) :
    Calls Try.prog 83 #[v_l] w fun e w' => e = .returned (.int .i64 (lastC l)) ∧ Kp no w w' := by
  have hS0 := St.start w
  have hF_l := RdF.of_rd h_l
  obtain ⟨A_l, cap_l, rfl, hc_l, hm_l⟩ := hF_l.slice
  refine fn_calls' 20 (args := [_]) Try.func83 rfl rfl rfl ?_
  refine C_seq ?_
  refine C_region ?_
  refine J_q 2 rfl rfl rfl rfl (Q_assign rfl rfl) ?_
  refine J_nil (K_seq ?_)
  refine C_seq ?_
  refine C_region ?_
  refine J_q 3 rfl rfl rfl rfl (Q_assign rfl rfl) ?_
  refine J_nil (K_seq ?_)
  refine C_seq ?_
  refine C_seq ?_
  refine C_region ?_
  refine J_q 4 rfl rfl rfl rfl (Q_assign rfl rfl) ?_
  refine J_nil (K_seq ?_)
  refine C_block ?_
  refine C_loop2 (fun (i : Int) (n : Int) => (l.length - i).toNat) (fun (i : Int) (n : Int) => [(0, .slice A_l l.length cap_l), (2, .int .i64 0), (4, .int .i64 i), (3, .int .i64 n)]) (fun (i : Int) (n : Int) w' => (0 ≤ i) ∧ (i ≤ l.length) ∧ (n = lastC (tk l i)) ∧ St w w' [(0, fz w (lt_ w))]) 0 0 ⟨(by first | omega | (simp [tk, lastC])), (by first | omega | (simp [tk, lastC])), (by first | omega | (simp [tk, lastC])), hS0⟩ ⟨rfl, rfl, rfl, rfl, trivial⟩ ?_
  rintro i n w1 ⟨h0, h1, hn, hS1⟩
  refine C_seq ?_
  refine C_seq ?_
  refine C_region ?_
  refine J_q 5 rfl rfl rfl rfl (Q_move rfl rfl) ?_
  refine J_q 6 rfl rfl rfl rfl (Q_move rfl rfl) ?_
  refine J_q 7 rfl rfl rfl rfl (Q_len rfl rfl Try.underlying43) ?_
  refine J_q 8 rfl rfl rfl rfl (Q_lss rfl rfl rfl) ?_
  refine J_nil (K_seq ?_)
  refine C_if rfl (fun h2 => ?_) (fun h2 => ?_)
  · refine C_skip (K_seq ?_)
    refine C_seq ?_
    refine C_block ?_
    refine C_region ?_
    refine J_q 11 rfl rfl rfl rfl (Q_move rfl rfl) ?_
    refine J_q 12 rfl rfl rfl rfl (Q_move rfl rfl) ?_
    refine J_q 13 rfl rfl rfl rfl (Q_move rfl rfl) ?_
    obtain ⟨ad3, es3, hA3, hr3, hc3⟩ := RdF.nth hF_l i (by omega) (by omega)
    obtain ⟨A3, cap3, rfl, hd3, ho3⟩ := openCh hr3
    refine J_q 14 rfl rfl rfl rfl (Q_iaE hA3 rfl rfl rfl Try.underlying43 Try.sizeOf55 (by omega) (by omega)) ?_
    refine J_q 15 rfl rfl rfl rfl (Q_fa0 rfl rfl fo55_0) ?_
    refine J_q 16 rfl rfl rfl rfl (Q_fa rfl rfl fo23_0 rfl) ?_
    refine J_q 17 rfl rfl rfl rfl (Q_ldC1 (hc3 _ (hS1.get (k := 0) rfl)) rfl rfl Try.isAgg3 rfl) ?_
    refine J_q 18 rfl rfl rfl rfl (Q_max rfl rfl rfl) ?_
    refine J_q 3 rfl rfl rfl rfl (Q_assign rfl rfl) ?_
    refine J_nil (N_blk (K_seq ?_))
    refine C_region ?_
    refine J_q 9 rfl rfl rfl rfl (Q_move rfl rfl) ?_
    refine J_q 10 rfl rfl rfl rfl (Q_add rfl rfl rfl (by omega) (by omega)) ?_
    refine J_q 4 rfl rfl rfl rfl (Q_assign rfl rfl) ?_
    exact J_nil (K_round2 (x0 := i) (x1 := n) (i + 1) (max n ((nth l i).at_.c)) ⟨(by first | omega | (rw [tk_snoc h0 (by omega), lastC_snoc, hn])), (by first | omega | (rw [tk_snoc h0 (by omega), lastC_snoc, hn])), (by first | omega | (rw [tk_snoc h0 (by omega), lastC_snoc, hn])), hS1⟩ (by omega) ⟨rfl, rfl, rfl, rfl, trivial⟩)
  · refine C_exit (X_then (X_then (X_hit (K_seq ?_))))
    refine C_seq ?_
    refine C_region ?_
    refine J_q 19 rfl rfl rfl rfl (Q_move rfl rfl) ?_
    refine J_q 2 rfl rfl rfl rfl (Q_assign rfl rfl) ?_
    refine J_nil (K_seq ?_)
    refine C_ret (body_ret (res1 rfl rfl) ?_)
    exact ⟨retI (by rw [hn, tk_full (by omega)]), hS1.kept (k := 0) rfl⟩

theorem Name_calls (w : World) (s : ByteArray) (hz_s : s.size ≤ 140737488355328) :
    Calls Try.prog 123 #[.string s] w fun e w' => e = .returned (.bool (decide (nameOk s))) ∧ Kp no w w' := by
  have hS0 := St.start w
  refine fn_calls' 50 (args := [_]) Try.func123 rfl rfl rfl ?_
  refine C_seq ?_
  refine C_region ?_
  refine J_q 2 rfl rfl rfl rfl (Q_assign rfl rfl) ?_
  refine J_nil (K_seq ?_)
  refine C_seq ?_
  refine C_seq ?_
  refine C_region ?_
  refine J_q 5 rfl rfl rfl rfl (Q_move rfl rfl) ?_
  refine J_q 6 rfl rfl rfl rfl (Q_lenS rfl rfl Try.underlying9) ?_
  refine J_q 7 rfl rfl rfl rfl (Q_eql rfl rfl rfl) ?_
  refine J_q 8 rfl rfl rfl rfl (Q_move rfl rfl) ?_
  refine J_split 8 rfl (fun h1 => ?_) (fun h1 => ?_)
  · refine J_no rfl rfl rfl ?_
    refine J_no rfl rfl rfl ?_
    refine J_no rfl rfl rfl ?_
    refine J_q 12 rfl rfl rfl rfl (Q_pickT rfl rfl rfl) ?_
    refine J_q 13 rfl rfl rfl rfl (Q_move rfl rfl) ?_
    refine J_no rfl rfl rfl ?_
    refine J_no rfl rfl rfl ?_
    refine J_no rfl rfl rfl ?_
    refine J_q 17 rfl rfl rfl rfl (Q_pickT rfl rfl rfl) ?_
    refine J_q 18 rfl rfl rfl rfl (Q_move rfl rfl) ?_
    refine J_no rfl rfl rfl ?_
    refine J_no rfl rfl rfl ?_
    refine J_no rfl rfl rfl ?_
    refine J_q 22 rfl rfl rfl rfl (Q_pickT rfl rfl rfl) ?_
    refine J_nil (K_seq ?_)
    refine C_true rfl ?_
    refine C_seq ?_
    refine C_region ?_
    refine J_q 2 rfl rfl rfl rfl (Q_assign rfl rfl) ?_
    refine J_nil (K_seq ?_)
    refine C_ret (R_then (body_ret (res1 rfl rfl) ?_))
    exact ⟨retB (by first | (exact (decide_eq_true ⟨by omega, by omega, hu.full (by omega)⟩).symm) | (refine (decide_eq_false fun hk => ?_).symm; have hk1 := hk.1; have hk2 := hk.2.1; first | omega | (have hk3 := hk.2.2 0 (by omega) (by omega); simp only at hk3; omega) | (have hk3 := hk.2.2 i (by omega) (by omega); simp only at hk3; omega))), hS0.kept (k := 0) rfl⟩
  · refine J_q 9 rfl rfl rfl rfl (Q_move rfl rfl) ?_
    refine J_q 10 rfl rfl rfl rfl (Q_lenS rfl rfl Try.underlying9) ?_
    refine J_q 11 rfl rfl rfl rfl (Q_gtr rfl rfl rfl) ?_
    refine J_q 12 rfl rfl rfl rfl (Q_pickF rfl rfl rfl) ?_
    refine J_q 13 rfl rfl rfl rfl (Q_move rfl rfl) ?_
    refine J_split 13 rfl (fun h2 => ?_) (fun h2 => ?_)
    · refine J_no rfl rfl rfl ?_
      refine J_no rfl rfl rfl ?_
      refine J_no rfl rfl rfl ?_
      refine J_q 17 rfl rfl rfl rfl (Q_pickT rfl rfl rfl) ?_
      refine J_q 18 rfl rfl rfl rfl (Q_move rfl rfl) ?_
      refine J_no rfl rfl rfl ?_
      refine J_no rfl rfl rfl ?_
      refine J_no rfl rfl rfl ?_
      refine J_q 22 rfl rfl rfl rfl (Q_pickT rfl rfl rfl) ?_
      refine J_nil (K_seq ?_)
      refine C_true rfl ?_
      refine C_seq ?_
      refine C_region ?_
      refine J_q 2 rfl rfl rfl rfl (Q_assign rfl rfl) ?_
      refine J_nil (K_seq ?_)
      refine C_ret (R_then (body_ret (res1 rfl rfl) ?_))
      exact ⟨retB (by first | (exact (decide_eq_true ⟨by omega, by omega, hu.full (by omega)⟩).symm) | (refine (decide_eq_false fun hk => ?_).symm; have hk1 := hk.1; have hk2 := hk.2.1; first | omega | (have hk3 := hk.2.2 0 (by omega) (by omega); simp only at hk3; omega) | (have hk3 := hk.2.2 i (by omega) (by omega); simp only at hk3; omega))), hS0.kept (k := 0) rfl⟩
    · refine J_q 14 rfl rfl rfl rfl (Q_move rfl rfl) ?_
      refine J_q 15 rfl rfl rfl rfl (Q_idxS rfl rfl rfl Try.underlying9 (by omega) (by omega)) ?_
      refine J_q 16 rfl rfl rfl rfl (Q_lss rfl rfl rfl) ?_
      refine J_q 17 rfl rfl rfl rfl (Q_pickF rfl rfl rfl) ?_
      refine J_q 18 rfl rfl rfl rfl (Q_move rfl rfl) ?_
      refine J_split 18 rfl (fun h3 => ?_) (fun h3 => ?_)
      · refine J_no rfl rfl rfl ?_
        refine J_no rfl rfl rfl ?_
        refine J_no rfl rfl rfl ?_
        refine J_q 22 rfl rfl rfl rfl (Q_pickT rfl rfl rfl) ?_
        refine J_nil (K_seq ?_)
        refine C_true rfl ?_
        refine C_seq ?_
        refine C_region ?_
        refine J_q 2 rfl rfl rfl rfl (Q_assign rfl rfl) ?_
        refine J_nil (K_seq ?_)
        refine C_ret (R_then (body_ret (res1 rfl rfl) ?_))
        exact ⟨retB (by first | (exact (decide_eq_true ⟨by omega, by omega, hu.full (by omega)⟩).symm) | (refine (decide_eq_false fun hk => ?_).symm; have hk1 := hk.1; have hk2 := hk.2.1; first | omega | (have hk3 := hk.2.2 0 (by omega) (by omega); simp only at hk3; omega) | (have hk3 := hk.2.2 i (by omega) (by omega); simp only at hk3; omega))), hS0.kept (k := 0) rfl⟩
      · refine J_q 19 rfl rfl rfl rfl (Q_move rfl rfl) ?_
        refine J_q 20 rfl rfl rfl rfl (Q_idxS rfl rfl rfl Try.underlying9 (by omega) (by omega)) ?_
        refine J_q 21 rfl rfl rfl rfl (Q_gtr rfl rfl rfl) ?_
        refine J_q 22 rfl rfl rfl rfl (Q_pickF rfl rfl rfl) ?_
        refine J_nil (K_seq ?_)
        refine C_if rfl (fun h4 => ?_) (fun h4 => ?_)
        · refine C_seq ?_
          refine C_region ?_
          refine J_q 2 rfl rfl rfl rfl (Q_assign rfl rfl) ?_
          refine J_nil (K_seq ?_)
          refine C_ret (R_then (body_ret (res1 rfl rfl) ?_))
          exact ⟨retB (by first | (exact (decide_eq_true ⟨by omega, by omega, hu.full (by omega)⟩).symm) | (refine (decide_eq_false fun hk => ?_).symm; have hk1 := hk.1; have hk2 := hk.2.1; first | omega | (have hk3 := hk.2.2 0 (by omega) (by omega); simp only at hk3; omega) | (have hk3 := hk.2.2 i (by omega) (by omega); simp only at hk3; omega))), hS0.kept (k := 0) rfl⟩
        · refine C_skip (K_seq ?_)
          refine C_seq ?_
          refine C_seq ?_
          refine C_region ?_
          refine J_q 23 rfl rfl rfl rfl (Q_move rfl rfl) ?_
          refine J_q 24 rfl rfl rfl rfl (Q_lenS rfl rfl Try.underlying9) ?_
          refine J_q 25 rfl rfl rfl rfl (Q_move rfl rfl) ?_
          refine J_nil (K_seq ?_)
          refine C_block ?_
          refine C_loop1 (fun (i : Int) => (s.size - i).toNat) (fun (i : Int) => [(0, .string s), (5, .string s), (6, .int .i64 (s.size : Int)), (7, .bool (decide ((s.size : Int) = 0))), (8, .bool false), (9, .string s), (10, .int .i64 (s.size : Int)), (11, .bool (decide (32 < (s.size : Int)))), (12, .bool (decide (32 < (s.size : Int)))), (13, .bool false), (14, .string s), (15, .int .u8 (byteAt s 0)), (16, .bool (decide (byteAt s 0 < 97))), (17, .bool (decide (byteAt s 0 < 97))), (18, .bool false), (19, .string s), (20, .int .u8 (byteAt s 0)), (21, .bool (decide (122 < byteAt s 0))), (22, .bool (decide (122 < byteAt s 0))), (23, .string s), (24, .int .i64 (s.size : Int)), (25, .int .i64 i)]) (fun (i : Int) w' => (0 ≤ i) ∧ (i ≤ s.size) ∧ (Up i fun j => letter (byteAt s j) ∨ j ≠ 0 ∧ (byteAt s j = 45 ∨ digit (byteAt s j))) ∧ St w w' [(0, fz w (lt_ w))]) 0 ⟨(by first | omega | exact Up.zero), (by first | omega | exact Up.zero), (by first | omega | exact Up.zero), hS0⟩ ⟨rfl, rfl, rfl, rfl, rfl, rfl, rfl, rfl, rfl, rfl, rfl, rfl, rfl, rfl, rfl, rfl, rfl, rfl, rfl, rfl, rfl, rfl, trivial⟩ ?_
          rintro i w5 ⟨h0, h1, hu, hS5⟩
          refine C_seq ?_
          refine C_region ?_
          refine J_q 26 rfl rfl rfl rfl (Q_lss rfl rfl rfl) ?_
          refine J_nil (K_seq ?_)
          refine C_seq ?_
          refine C_if rfl (fun h6 => ?_) (fun h6 => ?_)
          · refine C_skip (K_seq ?_)
            refine C_seq ?_
            refine C_block ?_
            refine C_seq ?_
            refine C_region ?_
            refine J_q 27 rfl rfl rfl rfl (Q_move rfl rfl) ?_
            refine J_q 3 rfl rfl rfl rfl (Q_assign rfl rfl) ?_
            refine J_nil (K_seq ?_)
            refine C_seq ?_
            refine C_region ?_
            refine J_q 28 rfl rfl rfl rfl (Q_move rfl rfl) ?_
            refine J_q 29 rfl rfl rfl rfl (Q_move rfl rfl) ?_
            refine J_q 30 rfl rfl rfl rfl (Q_idxS rfl rfl rfl Try.underlying9 (by omega) (by omega)) ?_
            refine J_q 4 rfl rfl rfl rfl (Q_assign rfl rfl) ?_
            refine J_nil (K_seq ?_)
            refine C_seq ?_
            refine C_region ?_
            refine J_q 31 rfl rfl rfl rfl (Q_move rfl rfl) ?_
            refine J_q 32 rfl rfl rfl rfl (Q_lss rfl rfl rfl) ?_
            refine J_q 33 rfl rfl rfl rfl (Q_move rfl rfl) ?_
            refine J_split 33 rfl (fun h7 => ?_) (fun h7 => ?_)
            · refine J_no rfl rfl rfl ?_
              refine J_no rfl rfl rfl ?_
              refine J_q 36 rfl rfl rfl rfl (Q_pickT rfl rfl rfl) ?_
              refine J_q 37 rfl rfl rfl rfl (Q_move rfl rfl) ?_
              refine J_q 38 rfl rfl rfl rfl (Q_move rfl rfl) ?_
              refine J_q 39 rfl rfl rfl rfl (Q_lss rfl rfl rfl) ?_
              refine J_q 40 rfl rfl rfl rfl (Q_move rfl rfl) ?_
              refine J_split 40 rfl (fun h8 => ?_) (fun h8 => ?_)
              · refine J_no rfl rfl rfl ?_
                refine J_no rfl rfl rfl ?_
                refine J_q 43 rfl rfl rfl rfl (Q_pickT rfl rfl rfl) ?_
                refine J_q 44 rfl rfl rfl rfl (Q_pickT rfl rfl rfl) ?_
                refine J_q 45 rfl rfl rfl rfl (Q_move rfl rfl) ?_
                refine J_q 46 rfl rfl rfl rfl (Q_move rfl rfl) ?_
                refine J_q 47 rfl rfl rfl rfl (Q_neqN rfl rfl rfl) ?_
                refine J_q 48 rfl rfl rfl rfl (Q_pickT rfl rfl rfl) ?_
                refine J_nil (K_seq ?_)
                refine C_ifN rfl (fun h9 => ?_) (fun h9 => ?_)
                · refine C_seq ?_
                  refine C_region ?_
                  refine J_q 2 rfl rfl rfl rfl (Q_assign rfl rfl) ?_
                  refine J_nil (K_seq ?_)
                  refine C_ret (R_blk (R_then (R_then (R_blk (R_then (body_ret (res1 rfl rfl) ?_))))))
                  exact ⟨retB (by first | (exact (decide_eq_true ⟨by omega, by omega, hu.full (by omega)⟩).symm) | (refine (decide_eq_false fun hk => ?_).symm; have hk1 := hk.1; have hk2 := hk.2.1; first | omega | (have hk3 := hk.2.2 0 (by omega) (by omega); simp only at hk3; omega) | (have hk3 := hk.2.2 i (by omega) (by omega); simp only at hk3; omega))), hS5.kept (k := 0) rfl⟩
                · refine C_skip (N_blk (K_seq ?_))
                  refine C_region ?_
                  refine J_q 49 rfl rfl rfl rfl (Q_add rfl rfl rfl (by omega) (by omega)) ?_
                  refine J_q 25 rfl rfl rfl rfl (Q_move rfl rfl) ?_
                  exact J_nil (K_round1 (x0 := i) (i + 1) ⟨(by first | omega | (exact Up.snoc hu (show letter (byteAt s i) ∨ i ≠ 0 ∧ (byteAt s i = 45 ∨ digit (byteAt s i)) by (by_cases hi : i = 0; (subst hi; omega); omega)))), (by first | omega | (exact Up.snoc hu (show letter (byteAt s i) ∨ i ≠ 0 ∧ (byteAt s i = 45 ∨ digit (byteAt s i)) by (by_cases hi : i = 0; (subst hi; omega); omega)))), (by first | omega | (exact Up.snoc hu (show letter (byteAt s i) ∨ i ≠ 0 ∧ (byteAt s i = 45 ∨ digit (byteAt s i)) by (by_cases hi : i = 0; (subst hi; omega); omega)))), hS5⟩ (by omega) ⟨rfl, rfl, rfl, rfl, rfl, rfl, rfl, rfl, rfl, rfl, rfl, rfl, rfl, rfl, rfl, rfl, rfl, rfl, rfl, rfl, rfl, rfl, trivial⟩)
              · refine J_q 41 rfl rfl rfl rfl (Q_move rfl rfl) ?_
                refine J_q 42 rfl rfl rfl rfl (Q_gtr rfl rfl rfl) ?_
                refine J_q 43 rfl rfl rfl rfl (Q_pickF rfl rfl rfl) ?_
                refine J_q 44 rfl rfl rfl rfl (Q_pickT rfl rfl rfl) ?_
                refine J_q 45 rfl rfl rfl rfl (Q_move rfl rfl) ?_
                refine J_split 45 rfl (fun h10 => ?_) (fun h10 => ?_)
                · refine J_q 46 rfl rfl rfl rfl (Q_move rfl rfl) ?_
                  refine J_q 47 rfl rfl rfl rfl (Q_neqN rfl rfl rfl) ?_
                  refine J_q 48 rfl rfl rfl rfl (Q_pickT rfl rfl rfl) ?_
                  refine J_nil (K_seq ?_)
                  refine C_ifN rfl (fun h11 => ?_) (fun h11 => ?_)
                  · refine C_seq ?_
                    refine C_region ?_
                    refine J_q 2 rfl rfl rfl rfl (Q_assign rfl rfl) ?_
                    refine J_nil (K_seq ?_)
                    refine C_ret (R_blk (R_then (R_then (R_blk (R_then (body_ret (res1 rfl rfl) ?_))))))
                    exact ⟨retB (by first | (exact (decide_eq_true ⟨by omega, by omega, hu.full (by omega)⟩).symm) | (refine (decide_eq_false fun hk => ?_).symm; have hk1 := hk.1; have hk2 := hk.2.1; first | omega | (have hk3 := hk.2.2 0 (by omega) (by omega); simp only at hk3; omega) | (have hk3 := hk.2.2 i (by omega) (by omega); simp only at hk3; omega))), hS5.kept (k := 0) rfl⟩
                  · refine C_skip (N_blk (K_seq ?_))
                    refine C_region ?_
                    refine J_q 49 rfl rfl rfl rfl (Q_add rfl rfl rfl (by omega) (by omega)) ?_
                    refine J_q 25 rfl rfl rfl rfl (Q_move rfl rfl) ?_
                    exact J_nil (K_round1 (x0 := i) (i + 1) ⟨(by first | omega | (exact Up.snoc hu (show letter (byteAt s i) ∨ i ≠ 0 ∧ (byteAt s i = 45 ∨ digit (byteAt s i)) by (by_cases hi : i = 0; (subst hi; omega); omega)))), (by first | omega | (exact Up.snoc hu (show letter (byteAt s i) ∨ i ≠ 0 ∧ (byteAt s i = 45 ∨ digit (byteAt s i)) by (by_cases hi : i = 0; (subst hi; omega); omega)))), (by first | omega | (exact Up.snoc hu (show letter (byteAt s i) ∨ i ≠ 0 ∧ (byteAt s i = 45 ∨ digit (byteAt s i)) by (by_cases hi : i = 0; (subst hi; omega); omega)))), hS5⟩ (by omega) ⟨rfl, rfl, rfl, rfl, rfl, rfl, rfl, rfl, rfl, rfl, rfl, rfl, rfl, rfl, rfl, rfl, rfl, rfl, rfl, rfl, rfl, rfl, trivial⟩)
                · refine J_no rfl rfl rfl ?_
                  refine J_no rfl rfl rfl ?_
                  refine J_q 48 rfl rfl rfl rfl (Q_pickF rfl rfl rfl) ?_
                  refine J_nil (K_seq ?_)
                  refine C_false rfl ?_
                  refine C_skip (N_blk (K_seq ?_))
                  refine C_region ?_
                  refine J_q 49 rfl rfl rfl rfl (Q_add rfl rfl rfl (by omega) (by omega)) ?_
                  refine J_q 25 rfl rfl rfl rfl (Q_move rfl rfl) ?_
                  exact J_nil (K_round1 (x0 := i) (i + 1) ⟨(by first | omega | (exact Up.snoc hu (show letter (byteAt s i) ∨ i ≠ 0 ∧ (byteAt s i = 45 ∨ digit (byteAt s i)) by (by_cases hi : i = 0; (subst hi; omega); omega)))), (by first | omega | (exact Up.snoc hu (show letter (byteAt s i) ∨ i ≠ 0 ∧ (byteAt s i = 45 ∨ digit (byteAt s i)) by (by_cases hi : i = 0; (subst hi; omega); omega)))), (by first | omega | (exact Up.snoc hu (show letter (byteAt s i) ∨ i ≠ 0 ∧ (byteAt s i = 45 ∨ digit (byteAt s i)) by (by_cases hi : i = 0; (subst hi; omega); omega)))), hS5⟩ (by omega) ⟨rfl, rfl, rfl, rfl, rfl, rfl, rfl, rfl, rfl, rfl, rfl, rfl, rfl, rfl, rfl, rfl, rfl, rfl, rfl, rfl, rfl, rfl, trivial⟩)
            · refine J_q 34 rfl rfl rfl rfl (Q_move rfl rfl) ?_
              refine J_q 35 rfl rfl rfl rfl (Q_gtr rfl rfl rfl) ?_
              refine J_q 36 rfl rfl rfl rfl (Q_pickF rfl rfl rfl) ?_
              refine J_q 37 rfl rfl rfl rfl (Q_move rfl rfl) ?_
              refine J_split 37 rfl (fun h12 => ?_) (fun h12 => ?_)
              · refine J_q 38 rfl rfl rfl rfl (Q_move rfl rfl) ?_
                refine J_q 39 rfl rfl rfl rfl (Q_lss rfl rfl rfl) ?_
                refine J_q 40 rfl rfl rfl rfl (Q_move rfl rfl) ?_
                refine J_split 40 rfl (fun h13 => ?_) (fun h13 => ?_)
                · refine J_no rfl rfl rfl ?_
                  refine J_no rfl rfl rfl ?_
                  refine J_q 43 rfl rfl rfl rfl (Q_pickT rfl rfl rfl) ?_
                  refine J_q 44 rfl rfl rfl rfl (Q_pickT rfl rfl rfl) ?_
                  refine J_q 45 rfl rfl rfl rfl (Q_move rfl rfl) ?_
                  refine J_q 46 rfl rfl rfl rfl (Q_move rfl rfl) ?_
                  refine J_q 47 rfl rfl rfl rfl (Q_neqN rfl rfl rfl) ?_
                  refine J_q 48 rfl rfl rfl rfl (Q_pickT rfl rfl rfl) ?_
                  refine J_nil (K_seq ?_)
                  refine C_ifN rfl (fun h14 => ?_) (fun h14 => ?_)
                  · refine C_seq ?_
                    refine C_region ?_
                    refine J_q 2 rfl rfl rfl rfl (Q_assign rfl rfl) ?_
                    refine J_nil (K_seq ?_)
                    refine C_ret (R_blk (R_then (R_then (R_blk (R_then (body_ret (res1 rfl rfl) ?_))))))
                    exact ⟨retB (by first | (exact (decide_eq_true ⟨by omega, by omega, hu.full (by omega)⟩).symm) | (refine (decide_eq_false fun hk => ?_).symm; have hk1 := hk.1; have hk2 := hk.2.1; first | omega | (have hk3 := hk.2.2 0 (by omega) (by omega); simp only at hk3; omega) | (have hk3 := hk.2.2 i (by omega) (by omega); simp only at hk3; omega))), hS5.kept (k := 0) rfl⟩
                  · refine C_skip (N_blk (K_seq ?_))
                    refine C_region ?_
                    refine J_q 49 rfl rfl rfl rfl (Q_add rfl rfl rfl (by omega) (by omega)) ?_
                    refine J_q 25 rfl rfl rfl rfl (Q_move rfl rfl) ?_
                    exact J_nil (K_round1 (x0 := i) (i + 1) ⟨(by first | omega | (exact Up.snoc hu (show letter (byteAt s i) ∨ i ≠ 0 ∧ (byteAt s i = 45 ∨ digit (byteAt s i)) by (by_cases hi : i = 0; (subst hi; omega); omega)))), (by first | omega | (exact Up.snoc hu (show letter (byteAt s i) ∨ i ≠ 0 ∧ (byteAt s i = 45 ∨ digit (byteAt s i)) by (by_cases hi : i = 0; (subst hi; omega); omega)))), (by first | omega | (exact Up.snoc hu (show letter (byteAt s i) ∨ i ≠ 0 ∧ (byteAt s i = 45 ∨ digit (byteAt s i)) by (by_cases hi : i = 0; (subst hi; omega); omega)))), hS5⟩ (by omega) ⟨rfl, rfl, rfl, rfl, rfl, rfl, rfl, rfl, rfl, rfl, rfl, rfl, rfl, rfl, rfl, rfl, rfl, rfl, rfl, rfl, rfl, rfl, trivial⟩)
                · refine J_q 41 rfl rfl rfl rfl (Q_move rfl rfl) ?_
                  refine J_q 42 rfl rfl rfl rfl (Q_gtr rfl rfl rfl) ?_
                  refine J_q 43 rfl rfl rfl rfl (Q_pickF rfl rfl rfl) ?_
                  refine J_q 44 rfl rfl rfl rfl (Q_pickT rfl rfl rfl) ?_
                  refine J_q 45 rfl rfl rfl rfl (Q_move rfl rfl) ?_
                  refine J_split 45 rfl (fun h15 => ?_) (fun h15 => ?_)
                  · refine J_q 46 rfl rfl rfl rfl (Q_move rfl rfl) ?_
                    refine J_q 47 rfl rfl rfl rfl (Q_neqN rfl rfl rfl) ?_
                    refine J_q 48 rfl rfl rfl rfl (Q_pickT rfl rfl rfl) ?_
                    refine J_nil (K_seq ?_)
                    refine C_ifN rfl (fun h16 => ?_) (fun h16 => ?_)
                    · refine C_seq ?_
                      refine C_region ?_
                      refine J_q 2 rfl rfl rfl rfl (Q_assign rfl rfl) ?_
                      refine J_nil (K_seq ?_)
                      refine C_ret (R_blk (R_then (R_then (R_blk (R_then (body_ret (res1 rfl rfl) ?_))))))
                      exact ⟨retB (by first | (exact (decide_eq_true ⟨by omega, by omega, hu.full (by omega)⟩).symm) | (refine (decide_eq_false fun hk => ?_).symm; have hk1 := hk.1; have hk2 := hk.2.1; first | omega | (have hk3 := hk.2.2 0 (by omega) (by omega); simp only at hk3; omega) | (have hk3 := hk.2.2 i (by omega) (by omega); simp only at hk3; omega))), hS5.kept (k := 0) rfl⟩
                    · refine C_skip (N_blk (K_seq ?_))
                      refine C_region ?_
                      refine J_q 49 rfl rfl rfl rfl (Q_add rfl rfl rfl (by omega) (by omega)) ?_
                      refine J_q 25 rfl rfl rfl rfl (Q_move rfl rfl) ?_
                      exact J_nil (K_round1 (x0 := i) (i + 1) ⟨(by first | omega | (exact Up.snoc hu (show letter (byteAt s i) ∨ i ≠ 0 ∧ (byteAt s i = 45 ∨ digit (byteAt s i)) by (by_cases hi : i = 0; (subst hi; omega); omega)))), (by first | omega | (exact Up.snoc hu (show letter (byteAt s i) ∨ i ≠ 0 ∧ (byteAt s i = 45 ∨ digit (byteAt s i)) by (by_cases hi : i = 0; (subst hi; omega); omega)))), (by first | omega | (exact Up.snoc hu (show letter (byteAt s i) ∨ i ≠ 0 ∧ (byteAt s i = 45 ∨ digit (byteAt s i)) by (by_cases hi : i = 0; (subst hi; omega); omega)))), hS5⟩ (by omega) ⟨rfl, rfl, rfl, rfl, rfl, rfl, rfl, rfl, rfl, rfl, rfl, rfl, rfl, rfl, rfl, rfl, rfl, rfl, rfl, rfl, rfl, rfl, trivial⟩)
                  · refine J_no rfl rfl rfl ?_
                    refine J_no rfl rfl rfl ?_
                    refine J_q 48 rfl rfl rfl rfl (Q_pickF rfl rfl rfl) ?_
                    refine J_nil (K_seq ?_)
                    refine C_false rfl ?_
                    refine C_skip (N_blk (K_seq ?_))
                    refine C_region ?_
                    refine J_q 49 rfl rfl rfl rfl (Q_add rfl rfl rfl (by omega) (by omega)) ?_
                    refine J_q 25 rfl rfl rfl rfl (Q_move rfl rfl) ?_
                    exact J_nil (K_round1 (x0 := i) (i + 1) ⟨(by first | omega | (exact Up.snoc hu (show letter (byteAt s i) ∨ i ≠ 0 ∧ (byteAt s i = 45 ∨ digit (byteAt s i)) by (by_cases hi : i = 0; (subst hi; omega); omega)))), (by first | omega | (exact Up.snoc hu (show letter (byteAt s i) ∨ i ≠ 0 ∧ (byteAt s i = 45 ∨ digit (byteAt s i)) by (by_cases hi : i = 0; (subst hi; omega); omega)))), (by first | omega | (exact Up.snoc hu (show letter (byteAt s i) ∨ i ≠ 0 ∧ (byteAt s i = 45 ∨ digit (byteAt s i)) by (by_cases hi : i = 0; (subst hi; omega); omega)))), hS5⟩ (by omega) ⟨rfl, rfl, rfl, rfl, rfl, rfl, rfl, rfl, rfl, rfl, rfl, rfl, rfl, rfl, rfl, rfl, rfl, rfl, rfl, rfl, rfl, rfl, trivial⟩)
              · refine J_no rfl rfl rfl ?_
                refine J_no rfl rfl rfl ?_
                refine J_noU 40 rfl rfl rfl rfl ?_
                refine J_no rfl rfl rfl ?_
                refine J_no rfl rfl rfl ?_
                refine J_no rfl rfl rfl ?_
                refine J_q 44 rfl rfl rfl rfl (Q_pickF rfl rfl rfl) ?_
                refine J_q 45 rfl rfl rfl rfl (Q_move rfl rfl) ?_
                refine J_no rfl rfl rfl ?_
                refine J_no rfl rfl rfl ?_
                refine J_q 48 rfl rfl rfl rfl (Q_pickF rfl rfl rfl) ?_
                refine J_nil (K_seq ?_)
                refine C_false rfl ?_
                refine C_skip (N_blk (K_seq ?_))
                refine C_region ?_
                refine J_q 49 rfl rfl rfl rfl (Q_add rfl rfl rfl (by omega) (by omega)) ?_
                refine J_q 25 rfl rfl rfl rfl (Q_move rfl rfl) ?_
                exact J_nil (K_round1 (x0 := i) (i + 1) ⟨(by first | omega | (exact Up.snoc hu (show letter (byteAt s i) ∨ i ≠ 0 ∧ (byteAt s i = 45 ∨ digit (byteAt s i)) by (by_cases hi : i = 0; (subst hi; omega); omega)))), (by first | omega | (exact Up.snoc hu (show letter (byteAt s i) ∨ i ≠ 0 ∧ (byteAt s i = 45 ∨ digit (byteAt s i)) by (by_cases hi : i = 0; (subst hi; omega); omega)))), (by first | omega | (exact Up.snoc hu (show letter (byteAt s i) ∨ i ≠ 0 ∧ (byteAt s i = 45 ∨ digit (byteAt s i)) by (by_cases hi : i = 0; (subst hi; omega); omega)))), hS5⟩ (by omega) ⟨rfl, rfl, rfl, rfl, rfl, rfl, rfl, rfl, rfl, rfl, rfl, rfl, rfl, rfl, rfl, rfl, rfl, rfl, rfl, rfl, rfl, rfl, trivial⟩)
          · refine C_exit (X_then (X_then (X_hit (K_seq ?_))))
            refine C_seq ?_
            refine C_region ?_
            refine J_q 2 rfl rfl rfl rfl (Q_assign rfl rfl) ?_
            refine J_nil (K_seq ?_)
            refine C_ret (body_ret (res1 rfl rfl) ?_)
            exact ⟨retB (by first | (exact (decide_eq_true ⟨by omega, by omega, hu.full (by omega)⟩).symm) | (refine (decide_eq_false fun hk => ?_).symm; have hk1 := hk.1; have hk2 := hk.2.1; first | omega | (have hk3 := hk.2.2 0 (by omega) (by omega); simp only at hk3; omega) | (have hk3 := hk.2.2 i (by omega) (by omega); simp only at hk3; omega))), hS5.kept (k := 0) rfl⟩

theorem RName_calls (w : World) (s : ByteArray) (hz_s : s.size ≤ 140737488355328) :
    Calls Try.prog 111 #[.string s] w fun e w' => e = .returned (.bool (decide (nameOk s))) ∧ Kp no w w' := by
  have hS0 := St.start w
  refine fn_calls' 53 (args := [_]) Try.func111 rfl rfl rfl ?_
  refine C_seq ?_
  refine C_region ?_
  refine J_q 2 rfl rfl rfl rfl (Q_assign rfl rfl) ?_
  refine J_nil (K_seq ?_)
  refine C_seq ?_
  refine C_seq ?_
  refine C_region ?_
  refine J_q 3 rfl rfl rfl rfl (Q_assign rfl rfl) ?_
  refine J_nil (K_seq ?_)
  refine C_block ?_
  refine C_loop1 (fun (i : Int) => (s.size - i).toNat) (fun (i : Int) => [(0, .string s), (3, .int .i64 i)]) (fun (i : Int) w' => (0 ≤ i) ∧ (i ≤ s.size) ∧ (Up i fun j => letter (byteAt s j) ∨ j ≠ 0 ∧ (byteAt s j = 45 ∨ digit (byteAt s j))) ∧ St w w' [(0, fz w (lt_ w))]) 0 ⟨(by first | omega | exact Up.zero), (by first | omega | exact Up.zero), (by first | omega | exact Up.zero), hS0⟩ ⟨rfl, rfl, trivial⟩ ?_
  rintro i w1 ⟨h0, h1, hu, hS1⟩
  refine C_seq ?_
  refine C_seq ?_
  refine C_region ?_
  refine J_q 5 rfl rfl rfl rfl (Q_move rfl rfl) ?_
  refine J_q 6 rfl rfl rfl rfl (Q_move rfl rfl) ?_
  refine J_q 7 rfl rfl rfl rfl (Q_lenS rfl rfl Try.underlying9) ?_
  refine J_q 8 rfl rfl rfl rfl (Q_lss rfl rfl rfl) ?_
  refine J_nil (K_seq ?_)
  refine C_if rfl (fun h2 => ?_) (fun h2 => ?_)
  · refine C_skip (K_seq ?_)
    refine C_seq ?_
    refine C_block ?_
    refine C_seq ?_
    refine C_region ?_
    refine J_q 11 rfl rfl rfl rfl (Q_move rfl rfl) ?_
    refine J_q 12 rfl rfl rfl rfl (Q_move rfl rfl) ?_
    refine J_q 13 rfl rfl rfl rfl (Q_idxS rfl rfl rfl Try.underlying9 (by omega) (by omega)) ?_
    refine J_q 14 rfl rfl rfl rfl (Q_geq rfl rfl rfl) ?_
    refine J_q 15 rfl rfl rfl rfl (Q_move rfl rfl) ?_
    refine J_split 15 rfl (fun h3 => ?_) (fun h3 => ?_)
    · refine J_q 16 rfl rfl rfl rfl (Q_move rfl rfl) ?_
      refine J_q 17 rfl rfl rfl rfl (Q_move rfl rfl) ?_
      refine J_q 18 rfl rfl rfl rfl (Q_idxS rfl rfl rfl Try.underlying9 (by omega) (by omega)) ?_
      refine J_q 19 rfl rfl rfl rfl (Q_leq rfl rfl rfl) ?_
      refine J_q 20 rfl rfl rfl rfl (Q_pickT rfl rfl rfl) ?_
      refine J_q 4 rfl rfl rfl rfl (Q_assign rfl rfl) ?_
      refine J_nil (K_seq ?_)
      refine C_seq ?_
      refine C_region ?_
      refine J_q 21 rfl rfl rfl rfl (Q_move rfl rfl) ?_
      refine J_q 22 rfl rfl rfl rfl (Q_not rfl rfl) ?_
      refine J_q 23 rfl rfl rfl rfl (Q_move rfl rfl) ?_
      refine J_splitN 23 rfl (fun h4 => ?_) (fun h4 => ?_)
      · refine J_q 24 rfl rfl rfl rfl (Q_move rfl rfl) ?_
        refine J_q 25 rfl rfl rfl rfl (Q_eql rfl rfl rfl) ?_
        refine J_q 26 rfl rfl rfl rfl (Q_move rfl rfl) ?_
        refine J_split 26 rfl (fun h5 => ?_) (fun h5 => ?_)
        · refine J_no rfl rfl rfl ?_
          refine J_no rfl rfl rfl ?_
          refine J_no rfl rfl rfl ?_
          refine J_no rfl rfl rfl ?_
          refine J_noU 31 rfl rfl rfl rfl ?_
          refine J_no rfl rfl rfl ?_
          refine J_no rfl rfl rfl ?_
          refine J_no rfl rfl rfl ?_
          refine J_no rfl rfl rfl ?_
          refine J_noU 36 rfl rfl rfl rfl ?_
          refine J_no rfl rfl rfl ?_
          refine J_no rfl rfl rfl ?_
          refine J_no rfl rfl rfl ?_
          refine J_no rfl rfl rfl ?_
          refine J_no rfl rfl rfl ?_
          refine J_no rfl rfl rfl ?_
          refine J_q 43 rfl rfl rfl rfl (Q_pickT rfl rfl rfl) ?_
          refine J_q 44 rfl rfl rfl rfl (Q_pickT rfl rfl rfl) ?_
          refine J_nil (K_seq ?_)
          refine C_true rfl ?_
          refine C_seq ?_
          refine C_region ?_
          refine J_q 2 rfl rfl rfl rfl (Q_assign rfl rfl) ?_
          refine J_nil (K_seq ?_)
          refine C_ret (R_blk (R_then (R_then (R_blk (R_then (body_ret (res1 rfl rfl) ?_))))))
          exact ⟨retB (by first | (refine decide_eq_decide.2 ⟨fun hk => ⟨by omega, by omega, hu.full (by omega)⟩, fun hk => ?_⟩; have hk1 := hk.1; have hk2 := hk.2.1; omega) | first | (exact (decide_eq_true ⟨by omega, by omega, hu.full (by omega)⟩).symm) | (refine (decide_eq_false fun hk => ?_).symm; have hk1 := hk.1; have hk2 := hk.2.1; first | omega | (have hk3 := hk.2.2 0 (by omega) (by omega); simp only at hk3; omega) | (have hk3 := hk.2.2 i (by omega) (by omega); simp only at hk3; omega))), hS1.kept (k := 0) rfl⟩
        · refine J_q 27 rfl rfl rfl rfl (Q_move rfl rfl) ?_
          refine J_q 28 rfl rfl rfl rfl (Q_move rfl rfl) ?_
          refine J_q 29 rfl rfl rfl rfl (Q_idxS rfl rfl rfl Try.underlying9 (by omega) (by omega)) ?_
          refine J_q 30 rfl rfl rfl rfl (Q_neqN rfl rfl rfl) ?_
          refine J_q 31 rfl rfl rfl rfl (Q_move rfl rfl) ?_
          refine J_splitN 31 rfl (fun h6 => ?_) (fun h6 => ?_)
          · refine J_q 32 rfl rfl rfl rfl (Q_move rfl rfl) ?_
            refine J_q 33 rfl rfl rfl rfl (Q_move rfl rfl) ?_
            refine J_q 34 rfl rfl rfl rfl (Q_idxS rfl rfl rfl Try.underlying9 (by omega) (by omega)) ?_
            refine J_q 35 rfl rfl rfl rfl (Q_lss rfl rfl rfl) ?_
            refine J_q 36 rfl rfl rfl rfl (Q_move rfl rfl) ?_
            refine J_split 36 rfl (fun h7 => ?_) (fun h7 => ?_)
            · refine J_no rfl rfl rfl ?_
              refine J_no rfl rfl rfl ?_
              refine J_no rfl rfl rfl ?_
              refine J_no rfl rfl rfl ?_
              refine J_q 41 rfl rfl rfl rfl (Q_pickT rfl rfl rfl) ?_
              refine J_q 42 rfl rfl rfl rfl (Q_pickT rfl rfl rfl) ?_
              refine J_q 43 rfl rfl rfl rfl (Q_pickF rfl rfl rfl) ?_
              refine J_q 44 rfl rfl rfl rfl (Q_pickT rfl rfl rfl) ?_
              refine J_nil (K_seq ?_)
              refine C_true rfl ?_
              refine C_seq ?_
              refine C_region ?_
              refine J_q 2 rfl rfl rfl rfl (Q_assign rfl rfl) ?_
              refine J_nil (K_seq ?_)
              refine C_ret (R_blk (R_then (R_then (R_blk (R_then (body_ret (res1 rfl rfl) ?_))))))
              exact ⟨retB (by first | (refine decide_eq_decide.2 ⟨fun hk => ⟨by omega, by omega, hu.full (by omega)⟩, fun hk => ?_⟩; have hk1 := hk.1; have hk2 := hk.2.1; omega) | first | (exact (decide_eq_true ⟨by omega, by omega, hu.full (by omega)⟩).symm) | (refine (decide_eq_false fun hk => ?_).symm; have hk1 := hk.1; have hk2 := hk.2.1; first | omega | (have hk3 := hk.2.2 0 (by omega) (by omega); simp only at hk3; omega) | (have hk3 := hk.2.2 i (by omega) (by omega); simp only at hk3; omega))), hS1.kept (k := 0) rfl⟩
            · refine J_q 37 rfl rfl rfl rfl (Q_move rfl rfl) ?_
              refine J_q 38 rfl rfl rfl rfl (Q_move rfl rfl) ?_
              refine J_q 39 rfl rfl rfl rfl (Q_idxS rfl rfl rfl Try.underlying9 (by omega) (by omega)) ?_
              refine J_q 40 rfl rfl rfl rfl (Q_gtr rfl rfl rfl) ?_
              refine J_q 41 rfl rfl rfl rfl (Q_pickF rfl rfl rfl) ?_
              refine J_q 42 rfl rfl rfl rfl (Q_pickT rfl rfl rfl) ?_
              refine J_q 43 rfl rfl rfl rfl (Q_pickF rfl rfl rfl) ?_
              refine J_q 44 rfl rfl rfl rfl (Q_pickT rfl rfl rfl) ?_
              refine J_nil (K_seq ?_)
              refine C_if rfl (fun h8 => ?_) (fun h8 => ?_)
              · refine C_seq ?_
                refine C_region ?_
                refine J_q 2 rfl rfl rfl rfl (Q_assign rfl rfl) ?_
                refine J_nil (K_seq ?_)
                refine C_ret (R_blk (R_then (R_then (R_blk (R_then (body_ret (res1 rfl rfl) ?_))))))
                exact ⟨retB (by first | (refine decide_eq_decide.2 ⟨fun hk => ⟨by omega, by omega, hu.full (by omega)⟩, fun hk => ?_⟩; have hk1 := hk.1; have hk2 := hk.2.1; omega) | first | (exact (decide_eq_true ⟨by omega, by omega, hu.full (by omega)⟩).symm) | (refine (decide_eq_false fun hk => ?_).symm; have hk1 := hk.1; have hk2 := hk.2.1; first | omega | (have hk3 := hk.2.2 0 (by omega) (by omega); simp only at hk3; omega) | (have hk3 := hk.2.2 i (by omega) (by omega); simp only at hk3; omega))), hS1.kept (k := 0) rfl⟩
              · refine C_skip (N_blk (K_seq ?_))
                refine C_region ?_
                refine J_q 9 rfl rfl rfl rfl (Q_move rfl rfl) ?_
                refine J_q 10 rfl rfl rfl rfl (Q_add rfl rfl rfl (by omega) (by omega)) ?_
                refine J_q 3 rfl rfl rfl rfl (Q_assign rfl rfl) ?_
                exact J_nil (K_round1 (x0 := i) (i + 1) ⟨(by first | omega | (exact Up.snoc hu (show letter (byteAt s i) ∨ i ≠ 0 ∧ (byteAt s i = 45 ∨ digit (byteAt s i)) by (by_cases hi : i = 0; (subst hi; omega); omega)))), (by first | omega | (exact Up.snoc hu (show letter (byteAt s i) ∨ i ≠ 0 ∧ (byteAt s i = 45 ∨ digit (byteAt s i)) by (by_cases hi : i = 0; (subst hi; omega); omega)))), (by first | omega | (exact Up.snoc hu (show letter (byteAt s i) ∨ i ≠ 0 ∧ (byteAt s i = 45 ∨ digit (byteAt s i)) by (by_cases hi : i = 0; (subst hi; omega); omega)))), hS1⟩ (by omega) ⟨rfl, rfl, trivial⟩)
          · refine J_no rfl rfl rfl ?_
            refine J_no rfl rfl rfl ?_
            refine J_no rfl rfl rfl ?_
            refine J_no rfl rfl rfl ?_
            refine J_noU 36 rfl rfl rfl rfl ?_
            refine J_no rfl rfl rfl ?_
            refine J_no rfl rfl rfl ?_
            refine J_no rfl rfl rfl ?_
            refine J_no rfl rfl rfl ?_
            refine J_no rfl rfl rfl ?_
            refine J_q 42 rfl rfl rfl rfl (Q_pickF rfl rfl rfl) ?_
            refine J_q 43 rfl rfl rfl rfl (Q_pickF rfl rfl rfl) ?_
            refine J_q 44 rfl rfl rfl rfl (Q_pickT rfl rfl rfl) ?_
            refine J_nil (K_seq ?_)
            refine C_false rfl ?_
            refine C_skip (N_blk (K_seq ?_))
            refine C_region ?_
            refine J_q 9 rfl rfl rfl rfl (Q_move rfl rfl) ?_
            refine J_q 10 rfl rfl rfl rfl (Q_add rfl rfl rfl (by omega) (by omega)) ?_
            refine J_q 3 rfl rfl rfl rfl (Q_assign rfl rfl) ?_
            exact J_nil (K_round1 (x0 := i) (i + 1) ⟨(by first | omega | (exact Up.snoc hu (show letter (byteAt s i) ∨ i ≠ 0 ∧ (byteAt s i = 45 ∨ digit (byteAt s i)) by (by_cases hi : i = 0; (subst hi; omega); omega)))), (by first | omega | (exact Up.snoc hu (show letter (byteAt s i) ∨ i ≠ 0 ∧ (byteAt s i = 45 ∨ digit (byteAt s i)) by (by_cases hi : i = 0; (subst hi; omega); omega)))), (by first | omega | (exact Up.snoc hu (show letter (byteAt s i) ∨ i ≠ 0 ∧ (byteAt s i = 45 ∨ digit (byteAt s i)) by (by_cases hi : i = 0; (subst hi; omega); omega)))), hS1⟩ (by omega) ⟨rfl, rfl, trivial⟩)
      · refine J_no rfl rfl rfl ?_
        refine J_no rfl rfl rfl ?_
        refine J_noU 26 rfl rfl rfl rfl ?_
        refine J_no rfl rfl rfl ?_
        refine J_no rfl rfl rfl ?_
        refine J_no rfl rfl rfl ?_
        refine J_no rfl rfl rfl ?_
        refine J_noU 31 rfl rfl rfl rfl ?_
        refine J_no rfl rfl rfl ?_
        refine J_no rfl rfl rfl ?_
        refine J_no rfl rfl rfl ?_
        refine J_no rfl rfl rfl ?_
        refine J_noU 36 rfl rfl rfl rfl ?_
        refine J_no rfl rfl rfl ?_
        refine J_no rfl rfl rfl ?_
        refine J_no rfl rfl rfl ?_
        refine J_no rfl rfl rfl ?_
        refine J_no rfl rfl rfl ?_
        refine J_no rfl rfl rfl ?_
        refine J_no rfl rfl rfl ?_
        refine J_q 44 rfl rfl rfl rfl (Q_pickF rfl rfl rfl) ?_
        refine J_nil (K_seq ?_)
        refine C_false rfl ?_
        refine C_skip (N_blk (K_seq ?_))
        refine C_region ?_
        refine J_q 9 rfl rfl rfl rfl (Q_move rfl rfl) ?_
        refine J_q 10 rfl rfl rfl rfl (Q_add rfl rfl rfl (by omega) (by omega)) ?_
        refine J_q 3 rfl rfl rfl rfl (Q_assign rfl rfl) ?_
        exact J_nil (K_round1 (x0 := i) (i + 1) ⟨(by first | omega | (exact Up.snoc hu (show letter (byteAt s i) ∨ i ≠ 0 ∧ (byteAt s i = 45 ∨ digit (byteAt s i)) by (by_cases hi : i = 0; (subst hi; omega); omega)))), (by first | omega | (exact Up.snoc hu (show letter (byteAt s i) ∨ i ≠ 0 ∧ (byteAt s i = 45 ∨ digit (byteAt s i)) by (by_cases hi : i = 0; (subst hi; omega); omega)))), (by first | omega | (exact Up.snoc hu (show letter (byteAt s i) ∨ i ≠ 0 ∧ (byteAt s i = 45 ∨ digit (byteAt s i)) by (by_cases hi : i = 0; (subst hi; omega); omega)))), hS1⟩ (by omega) ⟨rfl, rfl, trivial⟩)
    · refine J_no rfl rfl rfl ?_
      refine J_no rfl rfl rfl ?_
      refine J_no rfl rfl rfl ?_
      refine J_no rfl rfl rfl ?_
      refine J_q 20 rfl rfl rfl rfl (Q_pickF rfl rfl rfl) ?_
      refine J_q 4 rfl rfl rfl rfl (Q_assign rfl rfl) ?_
      refine J_nil (K_seq ?_)
      refine C_seq ?_
      refine C_region ?_
      refine J_q 21 rfl rfl rfl rfl (Q_move rfl rfl) ?_
      refine J_q 22 rfl rfl rfl rfl (Q_not rfl rfl) ?_
      refine J_q 23 rfl rfl rfl rfl (Q_move rfl rfl) ?_
      refine J_q 24 rfl rfl rfl rfl (Q_move rfl rfl) ?_
      refine J_q 25 rfl rfl rfl rfl (Q_eql rfl rfl rfl) ?_
      refine J_q 26 rfl rfl rfl rfl (Q_move rfl rfl) ?_
      refine J_split 26 rfl (fun h9 => ?_) (fun h9 => ?_)
      · refine J_no rfl rfl rfl ?_
        refine J_no rfl rfl rfl ?_
        refine J_no rfl rfl rfl ?_
        refine J_no rfl rfl rfl ?_
        refine J_noU 31 rfl rfl rfl rfl ?_
        refine J_no rfl rfl rfl ?_
        refine J_no rfl rfl rfl ?_
        refine J_no rfl rfl rfl ?_
        refine J_no rfl rfl rfl ?_
        refine J_noU 36 rfl rfl rfl rfl ?_
        refine J_no rfl rfl rfl ?_
        refine J_no rfl rfl rfl ?_
        refine J_no rfl rfl rfl ?_
        refine J_no rfl rfl rfl ?_
        refine J_no rfl rfl rfl ?_
        refine J_no rfl rfl rfl ?_
        refine J_q 43 rfl rfl rfl rfl (Q_pickT rfl rfl rfl) ?_
        refine J_q 44 rfl rfl rfl rfl (Q_pickT rfl rfl rfl) ?_
        refine J_nil (K_seq ?_)
        refine C_true rfl ?_
        refine C_seq ?_
        refine C_region ?_
        refine J_q 2 rfl rfl rfl rfl (Q_assign rfl rfl) ?_
        refine J_nil (K_seq ?_)
        refine C_ret (R_blk (R_then (R_then (R_blk (R_then (body_ret (res1 rfl rfl) ?_))))))
        exact ⟨retB (by first | (refine decide_eq_decide.2 ⟨fun hk => ⟨by omega, by omega, hu.full (by omega)⟩, fun hk => ?_⟩; have hk1 := hk.1; have hk2 := hk.2.1; omega) | first | (exact (decide_eq_true ⟨by omega, by omega, hu.full (by omega)⟩).symm) | (refine (decide_eq_false fun hk => ?_).symm; have hk1 := hk.1; have hk2 := hk.2.1; first | omega | (have hk3 := hk.2.2 0 (by omega) (by omega); simp only at hk3; omega) | (have hk3 := hk.2.2 i (by omega) (by omega); simp only at hk3; omega))), hS1.kept (k := 0) rfl⟩
      · refine J_q 27 rfl rfl rfl rfl (Q_move rfl rfl) ?_
        refine J_q 28 rfl rfl rfl rfl (Q_move rfl rfl) ?_
        refine J_q 29 rfl rfl rfl rfl (Q_idxS rfl rfl rfl Try.underlying9 (by omega) (by omega)) ?_
        refine J_q 30 rfl rfl rfl rfl (Q_neqN rfl rfl rfl) ?_
        refine J_q 31 rfl rfl rfl rfl (Q_move rfl rfl) ?_
        refine J_splitN 31 rfl (fun h10 => ?_) (fun h10 => ?_)
        · refine J_q 32 rfl rfl rfl rfl (Q_move rfl rfl) ?_
          refine J_q 33 rfl rfl rfl rfl (Q_move rfl rfl) ?_
          refine J_q 34 rfl rfl rfl rfl (Q_idxS rfl rfl rfl Try.underlying9 (by omega) (by omega)) ?_
          refine J_q 35 rfl rfl rfl rfl (Q_lss rfl rfl rfl) ?_
          refine J_q 36 rfl rfl rfl rfl (Q_move rfl rfl) ?_
          refine J_split 36 rfl (fun h11 => ?_) (fun h11 => ?_)
          · refine J_no rfl rfl rfl ?_
            refine J_no rfl rfl rfl ?_
            refine J_no rfl rfl rfl ?_
            refine J_no rfl rfl rfl ?_
            refine J_q 41 rfl rfl rfl rfl (Q_pickT rfl rfl rfl) ?_
            refine J_q 42 rfl rfl rfl rfl (Q_pickT rfl rfl rfl) ?_
            refine J_q 43 rfl rfl rfl rfl (Q_pickF rfl rfl rfl) ?_
            refine J_q 44 rfl rfl rfl rfl (Q_pickT rfl rfl rfl) ?_
            refine J_nil (K_seq ?_)
            refine C_true rfl ?_
            refine C_seq ?_
            refine C_region ?_
            refine J_q 2 rfl rfl rfl rfl (Q_assign rfl rfl) ?_
            refine J_nil (K_seq ?_)
            refine C_ret (R_blk (R_then (R_then (R_blk (R_then (body_ret (res1 rfl rfl) ?_))))))
            exact ⟨retB (by first | (refine decide_eq_decide.2 ⟨fun hk => ⟨by omega, by omega, hu.full (by omega)⟩, fun hk => ?_⟩; have hk1 := hk.1; have hk2 := hk.2.1; omega) | first | (exact (decide_eq_true ⟨by omega, by omega, hu.full (by omega)⟩).symm) | (refine (decide_eq_false fun hk => ?_).symm; have hk1 := hk.1; have hk2 := hk.2.1; first | omega | (have hk3 := hk.2.2 0 (by omega) (by omega); simp only at hk3; omega) | (have hk3 := hk.2.2 i (by omega) (by omega); simp only at hk3; omega))), hS1.kept (k := 0) rfl⟩
          · refine J_q 37 rfl rfl rfl rfl (Q_move rfl rfl) ?_
            refine J_q 38 rfl rfl rfl rfl (Q_move rfl rfl) ?_
            refine J_q 39 rfl rfl rfl rfl (Q_idxS rfl rfl rfl Try.underlying9 (by omega) (by omega)) ?_
            refine J_q 40 rfl rfl rfl rfl (Q_gtr rfl rfl rfl) ?_
            refine J_q 41 rfl rfl rfl rfl (Q_pickF rfl rfl rfl) ?_
            refine J_q 42 rfl rfl rfl rfl (Q_pickT rfl rfl rfl) ?_
            refine J_q 43 rfl rfl rfl rfl (Q_pickF rfl rfl rfl) ?_
            refine J_q 44 rfl rfl rfl rfl (Q_pickT rfl rfl rfl) ?_
            refine J_nil (K_seq ?_)
            refine C_if rfl (fun h12 => ?_) (fun h12 => ?_)
            · refine C_seq ?_
              refine C_region ?_
              refine J_q 2 rfl rfl rfl rfl (Q_assign rfl rfl) ?_
              refine J_nil (K_seq ?_)
              refine C_ret (R_blk (R_then (R_then (R_blk (R_then (body_ret (res1 rfl rfl) ?_))))))
              exact ⟨retB (by first | (refine decide_eq_decide.2 ⟨fun hk => ⟨by omega, by omega, hu.full (by omega)⟩, fun hk => ?_⟩; have hk1 := hk.1; have hk2 := hk.2.1; omega) | first | (exact (decide_eq_true ⟨by omega, by omega, hu.full (by omega)⟩).symm) | (refine (decide_eq_false fun hk => ?_).symm; have hk1 := hk.1; have hk2 := hk.2.1; first | omega | (have hk3 := hk.2.2 0 (by omega) (by omega); simp only at hk3; omega) | (have hk3 := hk.2.2 i (by omega) (by omega); simp only at hk3; omega))), hS1.kept (k := 0) rfl⟩
            · refine C_skip (N_blk (K_seq ?_))
              refine C_region ?_
              refine J_q 9 rfl rfl rfl rfl (Q_move rfl rfl) ?_
              refine J_q 10 rfl rfl rfl rfl (Q_add rfl rfl rfl (by omega) (by omega)) ?_
              refine J_q 3 rfl rfl rfl rfl (Q_assign rfl rfl) ?_
              exact J_nil (K_round1 (x0 := i) (i + 1) ⟨(by first | omega | (exact Up.snoc hu (show letter (byteAt s i) ∨ i ≠ 0 ∧ (byteAt s i = 45 ∨ digit (byteAt s i)) by (by_cases hi : i = 0; (subst hi; omega); omega)))), (by first | omega | (exact Up.snoc hu (show letter (byteAt s i) ∨ i ≠ 0 ∧ (byteAt s i = 45 ∨ digit (byteAt s i)) by (by_cases hi : i = 0; (subst hi; omega); omega)))), (by first | omega | (exact Up.snoc hu (show letter (byteAt s i) ∨ i ≠ 0 ∧ (byteAt s i = 45 ∨ digit (byteAt s i)) by (by_cases hi : i = 0; (subst hi; omega); omega)))), hS1⟩ (by omega) ⟨rfl, rfl, trivial⟩)
        · refine J_no rfl rfl rfl ?_
          refine J_no rfl rfl rfl ?_
          refine J_no rfl rfl rfl ?_
          refine J_no rfl rfl rfl ?_
          refine J_noU 36 rfl rfl rfl rfl ?_
          refine J_no rfl rfl rfl ?_
          refine J_no rfl rfl rfl ?_
          refine J_no rfl rfl rfl ?_
          refine J_no rfl rfl rfl ?_
          refine J_no rfl rfl rfl ?_
          refine J_q 42 rfl rfl rfl rfl (Q_pickF rfl rfl rfl) ?_
          refine J_q 43 rfl rfl rfl rfl (Q_pickF rfl rfl rfl) ?_
          refine J_q 44 rfl rfl rfl rfl (Q_pickT rfl rfl rfl) ?_
          refine J_nil (K_seq ?_)
          refine C_false rfl ?_
          refine C_skip (N_blk (K_seq ?_))
          refine C_region ?_
          refine J_q 9 rfl rfl rfl rfl (Q_move rfl rfl) ?_
          refine J_q 10 rfl rfl rfl rfl (Q_add rfl rfl rfl (by omega) (by omega)) ?_
          refine J_q 3 rfl rfl rfl rfl (Q_assign rfl rfl) ?_
          exact J_nil (K_round1 (x0 := i) (i + 1) ⟨(by first | omega | (exact Up.snoc hu (show letter (byteAt s i) ∨ i ≠ 0 ∧ (byteAt s i = 45 ∨ digit (byteAt s i)) by (by_cases hi : i = 0; (subst hi; omega); omega)))), (by first | omega | (exact Up.snoc hu (show letter (byteAt s i) ∨ i ≠ 0 ∧ (byteAt s i = 45 ∨ digit (byteAt s i)) by (by_cases hi : i = 0; (subst hi; omega); omega)))), (by first | omega | (exact Up.snoc hu (show letter (byteAt s i) ∨ i ≠ 0 ∧ (byteAt s i = 45 ∨ digit (byteAt s i)) by (by_cases hi : i = 0; (subst hi; omega); omega)))), hS1⟩ (by omega) ⟨rfl, rfl, trivial⟩)
  · refine C_exit (X_then (X_then (X_hit (K_seq ?_))))
    refine C_seq ?_
    refine C_region ?_
    refine J_q 45 rfl rfl rfl rfl (Q_move rfl rfl) ?_
    refine J_q 46 rfl rfl rfl rfl (Q_lenS rfl rfl Try.underlying9) ?_
    refine J_q 47 rfl rfl rfl rfl (Q_geq rfl rfl rfl) ?_
    refine J_q 48 rfl rfl rfl rfl (Q_move rfl rfl) ?_
    refine J_split 48 rfl (fun h13 => ?_) (fun h13 => ?_)
    · refine J_q 49 rfl rfl rfl rfl (Q_move rfl rfl) ?_
      refine J_q 50 rfl rfl rfl rfl (Q_lenS rfl rfl Try.underlying9) ?_
      refine J_q 51 rfl rfl rfl rfl (Q_leq rfl rfl rfl) ?_
      refine J_q 52 rfl rfl rfl rfl (Q_pickT rfl rfl rfl) ?_
      refine J_q 2 rfl rfl rfl rfl (Q_assign rfl rfl) ?_
      refine J_nil (K_seq ?_)
      refine C_ret (body_ret (res1 rfl rfl) ?_)
      exact ⟨retB (by first | (refine decide_eq_decide.2 ⟨fun hk => ⟨by omega, by omega, hu.full (by omega)⟩, fun hk => ?_⟩; have hk1 := hk.1; have hk2 := hk.2.1; omega) | first | (exact (decide_eq_true ⟨by omega, by omega, hu.full (by omega)⟩).symm) | (refine (decide_eq_false fun hk => ?_).symm; have hk1 := hk.1; have hk2 := hk.2.1; first | omega | (have hk3 := hk.2.2 0 (by omega) (by omega); simp only at hk3; omega) | (have hk3 := hk.2.2 i (by omega) (by omega); simp only at hk3; omega))), hS1.kept (k := 0) rfl⟩
    · refine J_no rfl rfl rfl ?_
      refine J_no rfl rfl rfl ?_
      refine J_no rfl rfl rfl ?_
      refine J_q 52 rfl rfl rfl rfl (Q_pickF rfl rfl rfl) ?_
      refine J_q 2 rfl rfl rfl rfl (Q_assign rfl rfl) ?_
      refine J_nil (K_seq ?_)
      refine C_ret (body_ret (res1 rfl rfl) ?_)
      exact ⟨retB (by first | (refine decide_eq_decide.2 ⟨fun hk => ⟨by omega, by omega, hu.full (by omega)⟩, fun hk => ?_⟩; have hk1 := hk.1; have hk2 := hk.2.1; omega) | first | (exact (decide_eq_true ⟨by omega, by omega, hu.full (by omega)⟩).symm) | (refine (decide_eq_false fun hk => ?_).symm; have hk1 := hk.1; have hk2 := hk.2.1; first | omega | (have hk3 := hk.2.2 0 (by omega) (by omega); simp only at hk3; omega) | (have hk3 := hk.2.2 i (by omega) (by omega); simp only at hk3; omega))), hS1.kept (k := 0) rfl⟩
end Go.Proofs.Ytceeellnjckmiaa

/- slices.SortFunc over stamps: what its row holds behind it, at whatever length. -/
set_option maxRecDepth 100000
namespace Go.Proofs.Ytceeellnjckmiaa
open Go Go.Sl Go.Shelf Go.RowKit Go.Lib Go.Sort
theorem cmp_ret {x y : Stamp} {n : Int} (h : Sl.cmp x y = n) : Value.int .i64 n = .int .i64 (Sl.cmp x y) := by rw [h]
theorem Compare_g (x y : Stamp) (W : World) : Calls Try.prog 63 #[.agg #[.int .i64 x.c, .int .i64 x.r], .agg #[.int .i64 y.c, .int .i64 y.r]] W fun e w' => e = .returned (.int .i64 (Sl.cmp x y)) ∧ ∃ q os', w' = grow (W.drewN q) os' := by
  have h0 : x.c = y.c ∧ x.r = y.r → Sl.cmp x y = 0 := cmp_eq
  have h1 : less x y → Sl.cmp x y = -1 := cmp_lt
  have h2 : ¬ (x.c = y.c ∧ x.r = y.r) → ¬ less x y → Sl.cmp x y = 1 := cmp_gt
  simp only [less] at h1 h2
  generalize Sl.cmp x y = n at *
  go_enter Try.func63, Try.ntmps63
  go_wp2
  all_goals
    go_ret
    refine ⟨congrArg Ending.returned (congrArg (Value.int .i64) ?_), 0, #[_] ++ #[_], by rw [alloc_eq_grow, alloc_eq_grow, grow_grow]; rfl⟩
    first | rfl | exact (h0 (by omega)).symm | exact (h1 (by omega)).symm | exact (h2 (by omega) (by omega)).symm
theorem cmp126 (x y : Stamp) (W : World) : Calls Try.prog 126 #[.agg #[.int .i64 x.c, .int .i64 x.r], .agg #[.int .i64 y.c, .int .i64 y.r]] W fun e w' => e = .returned (.int .i64 (Sl.cmp x y)) ∧ ∃ q os', w' = grow (W.drewN q) os' := by
  have hcon := fun W' => Compare_g x y W'
  generalize Sl.cmp x y = n at hcon ⊢
  go_enter Try.func126, Try.ntmps126
  go_wp2_with (go_at_call 63; refine (hcon _).mono ?_; rintro e w' ⟨rfl, q, os', rfl⟩)
  go_ret
  refine ⟨rfl, q, (#[Obj.cells #[Value.int .i64 x.c, Value.int .i64 x.r] 23] ++ #[Obj.cells #[Value.int .i64 y.c, Value.int .i64 y.r] 23]) ++ os', ?_⟩
  rw [alloc_eq_grow, alloc_eq_grow]
  show grow (grow (grow (W.drewN q) #[Obj.cells #[Value.int .i64 x.c, Value.int .i64 x.r] 23]) #[Obj.cells #[Value.int .i64 y.c, Value.int .i64 y.r] 23]) os' = _
  rw [grow_grow, grow_grow, Array.append_assoc]
theorem cmp_swo : SWO (ltOf Sl.cmp) := by
  have h : ∀ x y : Stamp, ltOf Sl.cmp x y = decide (less x y) := fun x y => by
    unfold ltOf; exact decide_eq_decide.2 cmp_neg
  refine ⟨fun x => ?_, fun x y z h1 h2 => ?_, fun x y z h1 h2 => ?_⟩
  · rw [h]; exact decide_eq_false (by omega)
  · rw [h] at *; have := of_decide_eq_true h1; have := of_decide_eq_true h2; exact decide_eq_true (by omega)
  · rw [h] at *; have := of_decide_eq_false h1; have := of_decide_eq_false h2; exact decide_eq_false (by omega)
theorem flatS (d : Array Stamp) : flatK stL 2 d = (flS d.toList).toArray := by
  have hl : (flatK stL 2 d).size = (flS d.toList).length := by rw [size_flatK, flS_len]; simp
  refine Array.ext (by rw [hl]; simp) fun i h1 h2 => ?_
  rw [size_flatK] at h1
  have h3 := get_flatK stL 2 d i h1
  rw [getElem!_pos _ i (by rw [size_flatK]; exact h1)] at h3
  rw [h3]
  have hi : i / 2 < d.size := by omega
  have h4 := flS_at d.toList (i := i / 2) (by simpa using hi)
  have h5 : (flS d.toList)[i]? = (stL d[i / 2])[i % 2]? := by
    have := congrArg (fun l => l[i % 2]?) h4
    simp only [List.getElem?_take, List.getElem?_drop] at this
    rw [if_pos (by omega), show i / 2 * 2 + i % 2 = i by omega] at this
    simpa using this
  rw [getElem!_pos d (i / 2) hi, getElem!_pos (stL d[i / 2]) (i % 2) (by simp [stL]; omega)]
  have h6 : (flS d.toList)[i]? = some (flS d.toList)[i] := List.getElem?_eq_getElem (by rw [flS_len]; simp; omega)
  rw [h5, List.getElem?_eq_getElem (by simp [stL]; omega)] at h6
  simpa using h6
theorem sortWorld_kp {w : World} {g m : Nat} {d : Array Stamp} {os : Array Obj} : Kp (· = g) w (sortWorldK stL 2 w g 0 m d os) := by
  unfold sortWorldK putRowK putRow mapBlock grow Sort.ahead
  refine ⟨rfl, rfl, rfl, by simp, fun b hb hn => ?_⟩
  simp only
  rw [Array.getElem?_append_left (by simpa using hb), Array.getElem?_modify, if_neg (fun h => hn h.symm)]
theorem sortWorld_blk {w : World} {g m : Nat} {d : Array Stamp} {os : Array Obj} {cur : Array Value} {e : TypeId} (h : w.heap[g]? = some (.cells cur e (0, 0))) (hs : d.size * 2 ≤ cur.size) :
    ∃ cur', (sortWorldK stL 2 w g 0 m d os).heap[g]? = some (.cells cur' e (0, 0)) ∧ cur'.size = cur.size ∧ cur'.toList.take (d.size * 2) = flS d.toList := by
  have hg : g < w.heap.size := (Array.getElem?_eq_some_iff.1 h).1
  refine ⟨putCells id 0 (flatK stL 2 d) cur, ?_, by simp [putCells], ?_⟩
  · unfold sortWorldK putRowK putRow mapBlock grow Sort.ahead
    simp only
    rw [Array.getElem?_append_left (by simpa using hg), Array.getElem?_modify, if_pos rfl, h]
    rfl
  · rw [flatS]
    refine List.ext_getElem? fun i => ?_
    rw [List.getElem?_take]
    split
    · rename_i hi
      have hl : i < (flS d.toList).length := by rw [flS_len]; simpa using hi
      simp only [putCells, Array.getElem?_toList, Array.getElem?_mapIdx]
      rw [Array.getElem?_eq_getElem (by omega)]
      simp only [Option.map_some, Nat.zero_le, true_and, Nat.zero_add, List.size_toArray, hl, if_true, Nat.sub_zero, id]
      rw [getElem!_pos _ i (by simpa using hl), List.getElem?_eq_getElem hl]
      simp
    · rename_i hi
      rw [List.getElem?_eq_none]
      rw [flS_len]; simp; omega
/-- **slices.SortFunc(l, cmp) over a row of one's own**: the same stamps, in some order. -/
theorem SortSt_calls (w : World) {g n cap : Nat} {xs : List Stamp} (hown : w.ownsRow 0 23 2 (.slice (some ⟨g, 0, none⟩) n cap) n (flS xs)) (hn : n = xs.length) (hb : n ≤ 1073741824) :
    Calls Try.prog 125 #[.slice (some ⟨g, 0, none⟩) n cap, .func (.func 126) #[] #[]] w fun e w' => e = .returned (.tuple #[]) ∧ Kp (· = g) w w' ∧ ∃ ys : List Stamp, ys.Perm xs ∧ w'.ownsRow 0 23 2 (.slice (some ⟨g, 0, none⟩) n cap) n (flS ys) := by
  subst hn
  rcases hown.2 with ⟨h, _⟩ | ⟨g', cap', cur, h, _, hh, hc, hm, hs, ht⟩
  · cases h
  cases h
  have eg : ∀ args w, (callFunc 126 args).run Try.prog w = .ok (.enter 126 args) w := Try.call126
  have hle : xs.length * 2 ≤ cap * 2 := Nat.mul_le_mul_right _ hc
  have hH : HoldsK stL 2 w g 0 xs.toArray := by
    intro j hj
    rw [size_flatK] at hj
    rw [flatS]
    simp only [List.size_toArray] at hj
    have hl : j < (flS xs).length := by rw [flS_len]; exact hj
    have h1 : (flS xs.toArray.toList).toArray[j]! = (flS xs)[j] := by rw [getElem!_pos _ j (by simpa using hl)]; simp
    rw [h1]
    refine ⟨?_, by simp [World.frozen?, hh]⟩
    simp only [World.cell?, hh, Nat.zero_add]
    have h2 : (cur.toList.take (xs.length * 2))[j]? = (flS xs)[j]? := by rw [ht]
    rw [List.getElem?_take, if_pos hj, List.getElem?_eq_getElem hl] at h2
    simpa using h2
  have hcon := AnyQ.slices_SortFunc Try.sortSt 2 Try.isAgg23 Try.sizeOf23 stL (fun _ => rfl) (fun x v hv => by simp [stL] at hv; rcases hv with rfl | rfl <;> rfl) Sl.cmp cmp_swo 126 #[] g 0 cap xs.toArray w eg (fun _ _ _ _ x y => cmp126 x y _) hH (Array.getElem?_eq_some_iff.1 hh).1 (by simp; omega)
  have hcon' : Calls Try.prog 125 #[.slice (some ⟨g, 0, none⟩) xs.length cap, .func (.func 126) #[] #[]] w _ := hcon
  refine hcon'.mono ?_
  rintro e w' ⟨rfl, d', m, os, hp, _, rfl⟩
  obtain ⟨hp1, _, hp2⟩ := hp
  have hd : d'.size = xs.length := by simpa using hp1
  refine ⟨rfl, sortWorld_kp, d'.toList, ?_, ?_⟩
  · have h5 : List.take xs.length d'.toList = d'.toList := List.take_of_length_le (by simp [hd])
    have h6 : (List.take xs.length d'.toList).Perm xs := by simpa using hp2
    rwa [h5] at h6
  · obtain ⟨cur', k1, k2, k3⟩ := sortWorld_blk (m := m) (d := d') (os := os) hh (by omega)
    rw [hd] at k3
    exact ⟨by rw [flS_len]; simp [hd], .inr ⟨g, cap, cur', rfl, Nat.zero_le _, k1, hc, hm, by rw [k2]; exact hs, k3⟩⟩
end Go.Proofs.Ytceeellnjckmiaa

