/- The texts Oc, Od, merged. Proved: what their theorems say, with no condition but those written. -/
import Derived.Test.YtceeellnjckmiaaBase3
/- Printed by a program of mine (gen.py). -/
set_option linter.unusedVariables false
set_option linter.unusedSimpArgs false
set_option maxRecDepth 100000
namespace Go.Proofs.Ytceeellnjckmiaa
open Go Go.Sl
theorem fo55_3 : FieldOk Try.prog 55 3 4 := fieldOk Try.underlying55 rfl rfl Try.sizeOf3
theorem fo55_4 : FieldOk Try.prog 55 4 5 := fieldOk Try.underlying55 rfl rfl Try.sizeOf23
theorem fo55_5 : FieldOk Try.prog 55 5 7 := fieldOk Try.underlying55 rfl rfl Try.sizeOf23
theorem fo55_6 : FieldOk Try.prog 55 6 9 := fieldOk Try.underlying55 rfl rfl Try.sizeOf23
theorem fo55_2 : FieldOk Try.prog 55 2 3 := fieldOk Try.underlying55 rfl rfl Try.sizeOf44
theorem fo55_7 : FieldOk Try.prog 55 7 11 := fieldOk Try.underlying55 rfl rfl Try.sizeOf9
theorem fo55_8 : FieldOk Try.prog 55 8 12 := fieldOk Try.underlying55 rfl rfl Try.sizeOf9
theorem node_calls (w : World) (l_c : List Value) (c : Change) (h_c : tCh.rd w l_c c) :
    Calls Try.prog 97 #[.agg l_c.toArray] w fun e w' => e = .returned (.bool (decide (nodeOk c))) ∧ Kp no w w' := by
  have hS0 := St.start w
  have hF_c := RdF.of_rd h_c
  obtain ⟨A_c, cap_c, rfl, hd_c, ho_c⟩ := openCh hF_c
  have hln_c := RdF.lens hd_c
  have hsq_c := ho_c.seq
  refine fn_calls' 40 (args := [_]) Try.func97 rfl rfl rfl ?_
  refine C_seq ?_
  refine C_region ?_
  refine J_do 1 rfl rfl rfl rfl (D_box 1 hS0 rfl rfl (fun g1 w1 hS1 => ?_))
  refine J_q 2 rfl rfl rfl rfl (Q_assign rfl rfl) ?_
  refine J_nil (K_seq ?_)
  refine C_seq ?_
  refine C_seq ?_
  refine C_region ?_
  refine J_q 3 rfl rfl rfl rfl (Q_fa0 rfl rfl fo55_3) ?_
  refine J_q 4 rfl rfl rfl rfl (Q_ldB1 (k := 1) hS1 rfl rfl rfl Try.isAgg3 rfl) ?_
  refine J_nil (K_seq ?_)
  refine C_block ?_
  refine C_seq ?_
  refine C_region ?_
  refine J_q 6 rfl rfl rfl rfl (Q_eql rfl rfl rfl) ?_
  refine J_q 5 rfl rfl rfl rfl (Q_assign rfl rfl) ?_
  refine J_nil (K_seq ?_)
  refine C_if rfl (fun h2 => ?_) (fun h2 => ?_)
  · refine C_seq ?_
    refine C_region ?_
    refine J_q 7 rfl rfl rfl rfl (Q_fa0 rfl rfl fo55_4) ?_
    refine J_q 8 rfl rfl rfl rfl (Q_ldBK (k := 1) (stL c.node) hS1 rfl rfl rfl Try.isAgg23 Try.sizeOf23 rfl rfl) ?_
    refine J_q 9 rfl rfl rfl rfl (Q_fa0 rfl rfl fo55_0) ?_
    refine J_q 10 rfl rfl rfl rfl (Q_ldBK (k := 1) (stL c.at_) hS1 rfl rfl rfl Try.isAgg23 Try.sizeOf23 rfl rfl) ?_
    refine J_q 11 rfl rfl rfl rfl (Q_eqlP rfl rfl rfl pe23) ?_
    refine J_q 2 rfl rfl rfl rfl (Q_assign rfl rfl) ?_
    refine J_nil (K_seq ?_)
    refine C_ret (R_blk (R_then (body_ret (res1 rfl rfl) ?_)))
    exact ⟨congrArg Ending.returned (eqB (by first | rfl | (refine decide_eq_decide.2 ?_; grind) | (refine (decide_eq_true ?_).symm; grind) | (refine (decide_eq_false ?_).symm; grind))), hS1.kept (k := 0) rfl⟩
  · refine C_seq ?_
    refine C_region ?_
    refine J_q 13 rfl rfl rfl rfl (Q_eql rfl rfl rfl) ?_
    refine J_q 12 rfl rfl rfl rfl (Q_assign rfl rfl) ?_
    refine J_nil (K_seq ?_)
    refine C_if rfl (fun h3 => ?_) (fun h3 => ?_)
    · refine C_seq ?_
      refine C_region ?_
      refine J_q 14 rfl rfl rfl rfl (Q_fa0 rfl rfl fo55_4) ?_
      refine J_q 15 rfl rfl rfl rfl (Q_ldBK (k := 1) (stL c.node) hS1 rfl rfl rfl Try.isAgg23 Try.sizeOf23 rfl rfl) ?_
      refine J_call 16 rfl rfl rfl rfl (T_call rfl rfl rfl Try.call54) (Right_calls _ c.node) ?_
      rintro _ w4 ⟨rfl, hk4⟩
      have hS4 := hS1.kp0 hk4
      refine ⟨_, rfl, ?_⟩
      refine J_q 17 rfl rfl rfl rfl (Q_move rfl rfl) ?_
      refine J_split 17 rfl (fun h5 => ?_) (fun h5 => ?_)
      · refine J_q 18 rfl rfl rfl rfl (Q_fa0 rfl rfl fo55_4) ?_
        refine J_q 19 rfl rfl rfl rfl (Q_ldBK (k := 1) (stL c.node) hS4 rfl rfl rfl Try.isAgg23 Try.sizeOf23 rfl rfl) ?_
        refine J_q 20 rfl rfl rfl rfl (Q_fa0 rfl rfl fo55_0) ?_
        refine J_q 21 rfl rfl rfl rfl (Q_ldBK (k := 1) (stL c.at_) hS4 rfl rfl rfl Try.isAgg23 Try.sizeOf23 rfl rfl) ?_
        refine J_call 22 rfl rfl rfl rfl (T_call rfl rfl rfl Try.call101) (Less_calls _ c.node c.at_) ?_
        rintro _ w6 ⟨rfl, hk6⟩
        have hS6 := hS4.kp0 hk6
        refine ⟨_, rfl, ?_⟩
        refine J_q 23 rfl rfl rfl rfl (Q_pickT rfl rfl rfl) ?_
        refine J_q 2 rfl rfl rfl rfl (Q_assign rfl rfl) ?_
        refine J_nil (K_seq ?_)
        refine C_ret (R_blk (R_then (body_ret (res1 rfl rfl) ?_)))
        exact ⟨congrArg Ending.returned (eqB (by first | rfl | (refine decide_eq_decide.2 ?_; grind) | (refine (decide_eq_true ?_).symm; grind) | (refine (decide_eq_false ?_).symm; grind))), hS6.kept (k := 0) rfl⟩
      · refine J_no rfl rfl rfl ?_
        refine J_no rfl rfl rfl ?_
        refine J_no rfl rfl rfl ?_
        refine J_no rfl rfl rfl ?_
        refine J_no rfl rfl rfl ?_
        refine J_q 23 rfl rfl rfl rfl (Q_pickF rfl rfl rfl) ?_
        refine J_q 2 rfl rfl rfl rfl (Q_assign rfl rfl) ?_
        refine J_nil (K_seq ?_)
        refine C_ret (R_blk (R_then (body_ret (res1 rfl rfl) ?_)))
        exact ⟨congrArg Ending.returned (eqB (by first | rfl | (refine decide_eq_decide.2 ?_; grind) | (refine (decide_eq_true ?_).symm; grind) | (refine (decide_eq_false ?_).symm; grind))), hS4.kept (k := 0) rfl⟩
    · refine C_skip (N_blk (K_seq ?_))
      refine C_seq ?_
      refine C_region ?_
      refine J_q 24 rfl rfl rfl rfl (Q_fa0 rfl rfl fo55_4) ?_
      refine J_q 25 rfl rfl rfl rfl (Q_ldBK (k := 1) (stL c.node) hS1 rfl rfl rfl Try.isAgg23 Try.sizeOf23 rfl rfl) ?_
      refine J_q 26 rfl rfl rfl rfl (Q_bld (v := .agg ([.int .i64 0, .int .i64 0]).toArray) (ps := []) rfl rfl (fun _ => by kernel_rfl)) ?_
      refine J_q 27 rfl rfl rfl rfl (Q_eqlP rfl rfl rfl pe23) ?_
      refine J_q 28 rfl rfl rfl rfl (Q_move rfl rfl) ?_
      refine J_split 28 rfl (fun h7 => ?_) (fun h7 => ?_)
      · refine J_no rfl rfl rfl ?_
        refine J_no rfl rfl rfl ?_
        refine J_no rfl rfl rfl ?_
        refine J_noU 32 rfl rfl rfl rfl ?_
        refine J_no rfl rfl rfl ?_
        refine J_no rfl rfl rfl ?_
        refine J_no rfl rfl rfl ?_
        refine J_no rfl rfl rfl ?_
        refine J_no rfl rfl rfl ?_
        refine J_no rfl rfl rfl ?_
        refine J_q 39 rfl rfl rfl rfl (Q_pickT rfl rfl rfl) ?_
        refine J_q 2 rfl rfl rfl rfl (Q_assign rfl rfl) ?_
        refine J_nil (K_seq ?_)
        refine C_ret (body_ret (res1 rfl rfl) ?_)
        exact ⟨congrArg Ending.returned (eqB (by first | rfl | (refine decide_eq_decide.2 ?_; grind) | (refine (decide_eq_true ?_).symm; grind) | (refine (decide_eq_false ?_).symm; grind))), hS1.kept (k := 0) rfl⟩
      · refine J_q 29 rfl rfl rfl rfl (Q_fa0 rfl rfl fo55_4) ?_
        refine J_q 30 rfl rfl rfl rfl (Q_ldBK (k := 1) (stL c.node) hS1 rfl rfl rfl Try.isAgg23 Try.sizeOf23 rfl rfl) ?_
        refine J_call 31 rfl rfl rfl rfl (T_call rfl rfl rfl Try.call54) (Right_calls _ c.node) ?_
        rintro _ w8 ⟨rfl, hk8⟩
        have hS8 := hS1.kp0 hk8
        refine ⟨_, rfl, ?_⟩
        refine J_q 32 rfl rfl rfl rfl (Q_move rfl rfl) ?_
        refine J_split 32 rfl (fun h9 => ?_) (fun h9 => ?_)
        · refine J_q 33 rfl rfl rfl rfl (Q_fa0 rfl rfl fo55_4) ?_
          refine J_q 34 rfl rfl rfl rfl (Q_ldBK (k := 1) (stL c.node) hS8 rfl rfl rfl Try.isAgg23 Try.sizeOf23 rfl rfl) ?_
          refine J_q 35 rfl rfl rfl rfl (Q_fa0 rfl rfl fo55_0) ?_
          refine J_q 36 rfl rfl rfl rfl (Q_ldBK (k := 1) (stL c.at_) hS8 rfl rfl rfl Try.isAgg23 Try.sizeOf23 rfl rfl) ?_
          refine J_call 37 rfl rfl rfl rfl (T_call rfl rfl rfl Try.call101) (Less_calls _ c.node c.at_) ?_
          rintro _ w10 ⟨rfl, hk10⟩
          have hS10 := hS8.kp0 hk10
          refine ⟨_, rfl, ?_⟩
          refine J_q 38 rfl rfl rfl rfl (Q_pickT rfl rfl rfl) ?_
          refine J_q 39 rfl rfl rfl rfl (Q_pickF rfl rfl rfl) ?_
          refine J_q 2 rfl rfl rfl rfl (Q_assign rfl rfl) ?_
          refine J_nil (K_seq ?_)
          refine C_ret (body_ret (res1 rfl rfl) ?_)
          exact ⟨congrArg Ending.returned (eqB (by first | rfl | (refine decide_eq_decide.2 ?_; grind) | (refine (decide_eq_true ?_).symm; grind) | (refine (decide_eq_false ?_).symm; grind))), hS10.kept (k := 0) rfl⟩
        · refine J_no rfl rfl rfl ?_
          refine J_no rfl rfl rfl ?_
          refine J_no rfl rfl rfl ?_
          refine J_no rfl rfl rfl ?_
          refine J_no rfl rfl rfl ?_
          refine J_q 38 rfl rfl rfl rfl (Q_pickF rfl rfl rfl) ?_
          refine J_q 39 rfl rfl rfl rfl (Q_pickF rfl rfl rfl) ?_
          refine J_q 2 rfl rfl rfl rfl (Q_assign rfl rfl) ?_
          refine J_nil (K_seq ?_)
          refine C_ret (body_ret (res1 rfl rfl) ?_)
          exact ⟨congrArg Ending.returned (eqB (by first | rfl | (refine decide_eq_decide.2 ?_; grind) | (refine (decide_eq_true ?_).symm; grind) | (refine (decide_eq_false ?_).symm; grind))), hS8.kept (k := 0) rfl⟩

theorem place_calls (w : World) (l_c : List Value) (c : Change) (h_c : tCh.rd w l_c c) :
    Calls Try.prog 98 #[.agg l_c.toArray] w fun e w' => e = .returned (.bool (decide (placeOk c))) ∧ Kp no w w' := by
  have hS0 := St.start w
  have hF_c := RdF.of_rd h_c
  obtain ⟨A_c, cap_c, rfl, hd_c, ho_c⟩ := openCh hF_c
  have hln_c := RdF.lens hd_c
  have hsq_c := ho_c.seq
  refine fn_calls' 56 (args := [_]) Try.func98 rfl rfl rfl ?_
  refine C_seq ?_
  refine C_region ?_
  refine J_do 1 rfl rfl rfl rfl (D_box 1 hS0 rfl rfl (fun g1 w1 hS1 => ?_))
  refine J_q 2 rfl rfl rfl rfl (Q_assign rfl rfl) ?_
  refine J_nil (K_seq ?_)
  refine C_seq ?_
  refine C_seq ?_
  refine C_region ?_
  refine J_q 3 rfl rfl rfl rfl (Q_fa0 rfl rfl fo55_3) ?_
  refine J_q 4 rfl rfl rfl rfl (Q_ldB1 (k := 1) hS1 rfl rfl rfl Try.isAgg3 rfl) ?_
  refine J_q 5 rfl rfl rfl rfl (Q_neqN rfl rfl rfl) ?_
  refine J_q 6 rfl rfl rfl rfl (Q_move rfl rfl) ?_
  refine J_splitN 6 rfl (fun h2 => ?_) (fun h2 => ?_)
  · refine J_q 7 rfl rfl rfl rfl (Q_fa0 rfl rfl fo55_3) ?_
    refine J_q 8 rfl rfl rfl rfl (Q_ldB1 (k := 1) hS1 rfl rfl rfl Try.isAgg3 rfl) ?_
    refine J_q 9 rfl rfl rfl rfl (Q_neqN rfl rfl rfl) ?_
    refine J_q 10 rfl rfl rfl rfl (Q_pickT rfl rfl rfl) ?_
    refine J_nil (K_seq ?_)
    refine C_ifN rfl (fun h3 => ?_) (fun h3 => ?_)
    · refine C_seq ?_
      refine C_region ?_
      refine J_q 11 rfl rfl rfl rfl (Q_fa0 rfl rfl fo55_5) ?_
      refine J_q 12 rfl rfl rfl rfl (Q_ldBK (k := 1) (stL c.par) hS1 rfl rfl rfl Try.isAgg23 Try.sizeOf23 rfl rfl) ?_
      refine J_q 13 rfl rfl rfl rfl (Q_bld (v := .agg ([.int .i64 0, .int .i64 0]).toArray) (ps := []) rfl rfl (fun _ => by kernel_rfl)) ?_
      refine J_q 14 rfl rfl rfl rfl (Q_eqlP rfl rfl rfl pe23) ?_
      refine J_q 15 rfl rfl rfl rfl (Q_move rfl rfl) ?_
      refine J_split 15 rfl (fun h4 => ?_) (fun h4 => ?_)
      · refine J_q 16 rfl rfl rfl rfl (Q_fa0 rfl rfl fo55_6) ?_
        refine J_q 17 rfl rfl rfl rfl (Q_ldBK (k := 1) (stL c.aft) hS1 rfl rfl rfl Try.isAgg23 Try.sizeOf23 rfl rfl) ?_
        refine J_q 18 rfl rfl rfl rfl (Q_bld (v := .agg ([.int .i64 0, .int .i64 0]).toArray) (ps := []) rfl rfl (fun _ => by kernel_rfl)) ?_
        refine J_q 19 rfl rfl rfl rfl (Q_eqlP rfl rfl rfl pe23) ?_
        refine J_q 20 rfl rfl rfl rfl (Q_pickT rfl rfl rfl) ?_
        refine J_q 2 rfl rfl rfl rfl (Q_assign rfl rfl) ?_
        refine J_nil (K_seq ?_)
        refine C_ret (R_then (body_ret (res1 rfl rfl) ?_))
        exact ⟨congrArg Ending.returned (eqB (by first | rfl | (refine decide_eq_decide.2 ?_; grind) | (refine (decide_eq_true ?_).symm; grind) | (refine (decide_eq_false ?_).symm; grind))), hS1.kept (k := 0) rfl⟩
      · refine J_no rfl rfl rfl ?_
        refine J_no rfl rfl rfl ?_
        refine J_no rfl rfl rfl ?_
        refine J_no rfl rfl rfl ?_
        refine J_q 20 rfl rfl rfl rfl (Q_pickF rfl rfl rfl) ?_
        refine J_q 2 rfl rfl rfl rfl (Q_assign rfl rfl) ?_
        refine J_nil (K_seq ?_)
        refine C_ret (R_then (body_ret (res1 rfl rfl) ?_))
        exact ⟨congrArg Ending.returned (eqB (by first | rfl | (refine decide_eq_decide.2 ?_; grind) | (refine (decide_eq_true ?_).symm; grind) | (refine (decide_eq_false ?_).symm; grind))), hS1.kept (k := 0) rfl⟩
    · refine C_skip (K_seq ?_)
      refine C_seq ?_
      refine C_seq ?_
      refine C_region ?_
      refine J_q 21 rfl rfl rfl rfl (Q_fa0 rfl rfl fo55_5) ?_
      refine J_q 22 rfl rfl rfl rfl (Q_ldBK (k := 1) (stL c.par) hS1 rfl rfl rfl Try.isAgg23 Try.sizeOf23 rfl rfl) ?_
      refine J_call 23 rfl rfl rfl rfl (T_call rfl rfl rfl Try.call55) (Node_calls _ c.par) ?_
      rintro _ w5 ⟨rfl, hk5⟩
      have hS5 := hS1.kp0 hk5
      refine ⟨_, rfl, ?_⟩
      refine J_q 24 rfl rfl rfl rfl (Q_not rfl rfl) ?_
      refine J_q 25 rfl rfl rfl rfl (Q_move rfl rfl) ?_
      refine J_splitN 25 rfl (fun h6 => ?_) (fun h6 => ?_)
      · refine J_no rfl rfl rfl ?_
        refine J_no rfl rfl rfl ?_
        refine J_no rfl rfl rfl ?_
        refine J_no rfl rfl rfl ?_
        refine J_no rfl rfl rfl ?_
        refine J_no rfl rfl rfl ?_
        refine J_q 32 rfl rfl rfl rfl (Q_pickT rfl rfl rfl) ?_
        refine J_q 33 rfl rfl rfl rfl (Q_move rfl rfl) ?_
        refine J_no rfl rfl rfl ?_
        refine J_no rfl rfl rfl ?_
        refine J_no rfl rfl rfl ?_
        refine J_no rfl rfl rfl ?_
        refine J_no rfl rfl rfl ?_
        refine J_q 39 rfl rfl rfl rfl (Q_pickT rfl rfl rfl) ?_
        refine J_nil (K_seq ?_)
        refine C_true rfl ?_
        refine C_seq ?_
        refine C_region ?_
        refine J_q 2 rfl rfl rfl rfl (Q_assign rfl rfl) ?_
        refine J_nil (K_seq ?_)
        refine C_ret (R_then (body_ret (res1 rfl rfl) ?_))
        exact ⟨congrArg Ending.returned (eqB (by first | rfl | (refine decide_eq_decide.2 ?_; grind) | (refine (decide_eq_true ?_).symm; grind) | (refine (decide_eq_false ?_).symm; grind))), hS5.kept (k := 0) rfl⟩
      · refine J_q 26 rfl rfl rfl rfl (Q_fa0 rfl rfl fo55_5) ?_
        refine J_q 27 rfl rfl rfl rfl (Q_ldBK (k := 1) (stL c.par) hS5 rfl rfl rfl Try.isAgg23 Try.sizeOf23 rfl rfl) ?_
        refine J_q 28 rfl rfl rfl rfl (Q_fa0 rfl rfl fo55_0) ?_
        refine J_q 29 rfl rfl rfl rfl (Q_ldBK (k := 1) (stL c.at_) hS5 rfl rfl rfl Try.isAgg23 Try.sizeOf23 rfl rfl) ?_
        refine J_call 30 rfl rfl rfl rfl (T_call rfl rfl rfl Try.call101) (Less_calls _ c.par c.at_) ?_
        rintro _ w7 ⟨rfl, hk7⟩
        have hS7 := hS5.kp0 hk7
        refine ⟨_, rfl, ?_⟩
        refine J_q 31 rfl rfl rfl rfl (Q_not rfl rfl) ?_
        refine J_q 32 rfl rfl rfl rfl (Q_pickF rfl rfl rfl) ?_
        refine J_q 33 rfl rfl rfl rfl (Q_move rfl rfl) ?_
        refine J_splitN 33 rfl (fun h8 => ?_) (fun h8 => ?_)
        · refine J_no rfl rfl rfl ?_
          refine J_no rfl rfl rfl ?_
          refine J_no rfl rfl rfl ?_
          refine J_no rfl rfl rfl ?_
          refine J_no rfl rfl rfl ?_
          refine J_q 39 rfl rfl rfl rfl (Q_pickT rfl rfl rfl) ?_
          refine J_nil (K_seq ?_)
          refine C_true rfl ?_
          refine C_seq ?_
          refine C_region ?_
          refine J_q 2 rfl rfl rfl rfl (Q_assign rfl rfl) ?_
          refine J_nil (K_seq ?_)
          refine C_ret (R_then (body_ret (res1 rfl rfl) ?_))
          exact ⟨congrArg Ending.returned (eqB (by first | rfl | (refine decide_eq_decide.2 ?_; grind) | (refine (decide_eq_true ?_).symm; grind) | (refine (decide_eq_false ?_).symm; grind))), hS7.kept (k := 0) rfl⟩
        · refine J_q 34 rfl rfl rfl rfl (Q_fa0 rfl rfl fo55_5) ?_
          refine J_q 35 rfl rfl rfl rfl (Q_ldBK (k := 1) (stL c.par) hS7 rfl rfl rfl Try.isAgg23 Try.sizeOf23 rfl rfl) ?_
          refine J_q 36 rfl rfl rfl rfl (Q_fa0 rfl rfl fo55_4) ?_
          refine J_q 37 rfl rfl rfl rfl (Q_ldBK (k := 1) (stL c.node) hS7 rfl rfl rfl Try.isAgg23 Try.sizeOf23 rfl rfl) ?_
          refine J_q 38 rfl rfl rfl rfl (Q_eqlP rfl rfl rfl pe23) ?_
          refine J_q 39 rfl rfl rfl rfl (Q_pickF rfl rfl rfl) ?_
          refine J_nil (K_seq ?_)
          refine C_if rfl (fun h9 => ?_) (fun h9 => ?_)
          · refine C_seq ?_
            refine C_region ?_
            refine J_q 2 rfl rfl rfl rfl (Q_assign rfl rfl) ?_
            refine J_nil (K_seq ?_)
            refine C_ret (R_then (body_ret (res1 rfl rfl) ?_))
            exact ⟨congrArg Ending.returned (eqB (by first | rfl | (refine decide_eq_decide.2 ?_; grind) | (refine (decide_eq_true ?_).symm; grind) | (refine (decide_eq_false ?_).symm; grind))), hS7.kept (k := 0) rfl⟩
          · refine C_skip (K_seq ?_)
            refine C_seq ?_
            refine C_region ?_
            refine J_q 40 rfl rfl rfl rfl (Q_fa0 rfl rfl fo55_6) ?_
            refine J_q 41 rfl rfl rfl rfl (Q_ldBK (k := 1) (stL c.aft) hS7 rfl rfl rfl Try.isAgg23 Try.sizeOf23 rfl rfl) ?_
            refine J_q 42 rfl rfl rfl rfl (Q_bld (v := .agg ([.int .i64 0, .int .i64 0]).toArray) (ps := []) rfl rfl (fun _ => by kernel_rfl)) ?_
            refine J_q 43 rfl rfl rfl rfl (Q_eqlP rfl rfl rfl pe23) ?_
            refine J_q 44 rfl rfl rfl rfl (Q_move rfl rfl) ?_
            refine J_split 44 rfl (fun h10 => ?_) (fun h10 => ?_)
            · refine J_no rfl rfl rfl ?_
              refine J_no rfl rfl rfl ?_
              refine J_no rfl rfl rfl ?_
              refine J_noU 48 rfl rfl rfl rfl ?_
              refine J_no rfl rfl rfl ?_
              refine J_no rfl rfl rfl ?_
              refine J_no rfl rfl rfl ?_
              refine J_no rfl rfl rfl ?_
              refine J_no rfl rfl rfl ?_
              refine J_no rfl rfl rfl ?_
              refine J_q 55 rfl rfl rfl rfl (Q_pickT rfl rfl rfl) ?_
              refine J_q 2 rfl rfl rfl rfl (Q_assign rfl rfl) ?_
              refine J_nil (K_seq ?_)
              refine C_ret (body_ret (res1 rfl rfl) ?_)
              exact ⟨congrArg Ending.returned (eqB (by first | rfl | (refine decide_eq_decide.2 ?_; grind) | (refine (decide_eq_true ?_).symm; grind) | (refine (decide_eq_false ?_).symm; grind))), hS7.kept (k := 0) rfl⟩
            · refine J_q 45 rfl rfl rfl rfl (Q_fa0 rfl rfl fo55_6) ?_
              refine J_q 46 rfl rfl rfl rfl (Q_ldBK (k := 1) (stL c.aft) hS7 rfl rfl rfl Try.isAgg23 Try.sizeOf23 rfl rfl) ?_
              refine J_call 47 rfl rfl rfl rfl (T_call rfl rfl rfl Try.call54) (Right_calls _ c.aft) ?_
              rintro _ w11 ⟨rfl, hk11⟩
              have hS11 := hS7.kp0 hk11
              refine ⟨_, rfl, ?_⟩
              refine J_q 48 rfl rfl rfl rfl (Q_move rfl rfl) ?_
              refine J_split 48 rfl (fun h12 => ?_) (fun h12 => ?_)
              · refine J_q 49 rfl rfl rfl rfl (Q_fa0 rfl rfl fo55_6) ?_
                refine J_q 50 rfl rfl rfl rfl (Q_ldBK (k := 1) (stL c.aft) hS11 rfl rfl rfl Try.isAgg23 Try.sizeOf23 rfl rfl) ?_
                refine J_q 51 rfl rfl rfl rfl (Q_fa0 rfl rfl fo55_0) ?_
                refine J_q 52 rfl rfl rfl rfl (Q_ldBK (k := 1) (stL c.at_) hS11 rfl rfl rfl Try.isAgg23 Try.sizeOf23 rfl rfl) ?_
                refine J_call 53 rfl rfl rfl rfl (T_call rfl rfl rfl Try.call101) (Less_calls _ c.aft c.at_) ?_
                rintro _ w13 ⟨rfl, hk13⟩
                have hS13 := hS11.kp0 hk13
                refine ⟨_, rfl, ?_⟩
                refine J_q 54 rfl rfl rfl rfl (Q_pickT rfl rfl rfl) ?_
                refine J_q 55 rfl rfl rfl rfl (Q_pickF rfl rfl rfl) ?_
                refine J_q 2 rfl rfl rfl rfl (Q_assign rfl rfl) ?_
                refine J_nil (K_seq ?_)
                refine C_ret (body_ret (res1 rfl rfl) ?_)
                exact ⟨congrArg Ending.returned (eqB (by first | rfl | (refine decide_eq_decide.2 ?_; grind) | (refine (decide_eq_true ?_).symm; grind) | (refine (decide_eq_false ?_).symm; grind))), hS13.kept (k := 0) rfl⟩
              · refine J_no rfl rfl rfl ?_
                refine J_no rfl rfl rfl ?_
                refine J_no rfl rfl rfl ?_
                refine J_no rfl rfl rfl ?_
                refine J_no rfl rfl rfl ?_
                refine J_q 54 rfl rfl rfl rfl (Q_pickF rfl rfl rfl) ?_
                refine J_q 55 rfl rfl rfl rfl (Q_pickF rfl rfl rfl) ?_
                refine J_q 2 rfl rfl rfl rfl (Q_assign rfl rfl) ?_
                refine J_nil (K_seq ?_)
                refine C_ret (body_ret (res1 rfl rfl) ?_)
                exact ⟨congrArg Ending.returned (eqB (by first | rfl | (refine decide_eq_decide.2 ?_; grind) | (refine (decide_eq_true ?_).symm; grind) | (refine (decide_eq_false ?_).symm; grind))), hS11.kept (k := 0) rfl⟩
  · refine J_no rfl rfl rfl ?_
    refine J_no rfl rfl rfl ?_
    refine J_no rfl rfl rfl ?_
    refine J_q 10 rfl rfl rfl rfl (Q_pickF rfl rfl rfl) ?_
    refine J_nil (K_seq ?_)
    refine C_false rfl ?_
    refine C_skip (K_seq ?_)
    refine C_seq ?_
    refine C_seq ?_
    refine C_region ?_
    refine J_q 21 rfl rfl rfl rfl (Q_fa0 rfl rfl fo55_5) ?_
    refine J_q 22 rfl rfl rfl rfl (Q_ldBK (k := 1) (stL c.par) hS1 rfl rfl rfl Try.isAgg23 Try.sizeOf23 rfl rfl) ?_
    refine J_call 23 rfl rfl rfl rfl (T_call rfl rfl rfl Try.call55) (Node_calls _ c.par) ?_
    rintro _ w14 ⟨rfl, hk14⟩
    have hS14 := hS1.kp0 hk14
    refine ⟨_, rfl, ?_⟩
    refine J_q 24 rfl rfl rfl rfl (Q_not rfl rfl) ?_
    refine J_q 25 rfl rfl rfl rfl (Q_move rfl rfl) ?_
    refine J_splitN 25 rfl (fun h15 => ?_) (fun h15 => ?_)
    · refine J_no rfl rfl rfl ?_
      refine J_no rfl rfl rfl ?_
      refine J_no rfl rfl rfl ?_
      refine J_no rfl rfl rfl ?_
      refine J_no rfl rfl rfl ?_
      refine J_no rfl rfl rfl ?_
      refine J_q 32 rfl rfl rfl rfl (Q_pickT rfl rfl rfl) ?_
      refine J_q 33 rfl rfl rfl rfl (Q_move rfl rfl) ?_
      refine J_no rfl rfl rfl ?_
      refine J_no rfl rfl rfl ?_
      refine J_no rfl rfl rfl ?_
      refine J_no rfl rfl rfl ?_
      refine J_no rfl rfl rfl ?_
      refine J_q 39 rfl rfl rfl rfl (Q_pickT rfl rfl rfl) ?_
      refine J_nil (K_seq ?_)
      refine C_true rfl ?_
      refine C_seq ?_
      refine C_region ?_
      refine J_q 2 rfl rfl rfl rfl (Q_assign rfl rfl) ?_
      refine J_nil (K_seq ?_)
      refine C_ret (R_then (body_ret (res1 rfl rfl) ?_))
      exact ⟨congrArg Ending.returned (eqB (by first | rfl | (refine decide_eq_decide.2 ?_; grind) | (refine (decide_eq_true ?_).symm; grind) | (refine (decide_eq_false ?_).symm; grind))), hS14.kept (k := 0) rfl⟩
    · refine J_q 26 rfl rfl rfl rfl (Q_fa0 rfl rfl fo55_5) ?_
      refine J_q 27 rfl rfl rfl rfl (Q_ldBK (k := 1) (stL c.par) hS14 rfl rfl rfl Try.isAgg23 Try.sizeOf23 rfl rfl) ?_
      refine J_q 28 rfl rfl rfl rfl (Q_fa0 rfl rfl fo55_0) ?_
      refine J_q 29 rfl rfl rfl rfl (Q_ldBK (k := 1) (stL c.at_) hS14 rfl rfl rfl Try.isAgg23 Try.sizeOf23 rfl rfl) ?_
      refine J_call 30 rfl rfl rfl rfl (T_call rfl rfl rfl Try.call101) (Less_calls _ c.par c.at_) ?_
      rintro _ w16 ⟨rfl, hk16⟩
      have hS16 := hS14.kp0 hk16
      refine ⟨_, rfl, ?_⟩
      refine J_q 31 rfl rfl rfl rfl (Q_not rfl rfl) ?_
      refine J_q 32 rfl rfl rfl rfl (Q_pickF rfl rfl rfl) ?_
      refine J_q 33 rfl rfl rfl rfl (Q_move rfl rfl) ?_
      refine J_splitN 33 rfl (fun h17 => ?_) (fun h17 => ?_)
      · refine J_no rfl rfl rfl ?_
        refine J_no rfl rfl rfl ?_
        refine J_no rfl rfl rfl ?_
        refine J_no rfl rfl rfl ?_
        refine J_no rfl rfl rfl ?_
        refine J_q 39 rfl rfl rfl rfl (Q_pickT rfl rfl rfl) ?_
        refine J_nil (K_seq ?_)
        refine C_true rfl ?_
        refine C_seq ?_
        refine C_region ?_
        refine J_q 2 rfl rfl rfl rfl (Q_assign rfl rfl) ?_
        refine J_nil (K_seq ?_)
        refine C_ret (R_then (body_ret (res1 rfl rfl) ?_))
        exact ⟨congrArg Ending.returned (eqB (by first | rfl | (refine decide_eq_decide.2 ?_; grind) | (refine (decide_eq_true ?_).symm; grind) | (refine (decide_eq_false ?_).symm; grind))), hS16.kept (k := 0) rfl⟩
      · refine J_q 34 rfl rfl rfl rfl (Q_fa0 rfl rfl fo55_5) ?_
        refine J_q 35 rfl rfl rfl rfl (Q_ldBK (k := 1) (stL c.par) hS16 rfl rfl rfl Try.isAgg23 Try.sizeOf23 rfl rfl) ?_
        refine J_q 36 rfl rfl rfl rfl (Q_fa0 rfl rfl fo55_4) ?_
        refine J_q 37 rfl rfl rfl rfl (Q_ldBK (k := 1) (stL c.node) hS16 rfl rfl rfl Try.isAgg23 Try.sizeOf23 rfl rfl) ?_
        refine J_q 38 rfl rfl rfl rfl (Q_eqlP rfl rfl rfl pe23) ?_
        refine J_q 39 rfl rfl rfl rfl (Q_pickF rfl rfl rfl) ?_
        refine J_nil (K_seq ?_)
        refine C_if rfl (fun h18 => ?_) (fun h18 => ?_)
        · refine C_seq ?_
          refine C_region ?_
          refine J_q 2 rfl rfl rfl rfl (Q_assign rfl rfl) ?_
          refine J_nil (K_seq ?_)
          refine C_ret (R_then (body_ret (res1 rfl rfl) ?_))
          exact ⟨congrArg Ending.returned (eqB (by first | rfl | (refine decide_eq_decide.2 ?_; grind) | (refine (decide_eq_true ?_).symm; grind) | (refine (decide_eq_false ?_).symm; grind))), hS16.kept (k := 0) rfl⟩
        · refine C_skip (K_seq ?_)
          refine C_seq ?_
          refine C_region ?_
          refine J_q 40 rfl rfl rfl rfl (Q_fa0 rfl rfl fo55_6) ?_
          refine J_q 41 rfl rfl rfl rfl (Q_ldBK (k := 1) (stL c.aft) hS16 rfl rfl rfl Try.isAgg23 Try.sizeOf23 rfl rfl) ?_
          refine J_q 42 rfl rfl rfl rfl (Q_bld (v := .agg ([.int .i64 0, .int .i64 0]).toArray) (ps := []) rfl rfl (fun _ => by kernel_rfl)) ?_
          refine J_q 43 rfl rfl rfl rfl (Q_eqlP rfl rfl rfl pe23) ?_
          refine J_q 44 rfl rfl rfl rfl (Q_move rfl rfl) ?_
          refine J_split 44 rfl (fun h19 => ?_) (fun h19 => ?_)
          · refine J_no rfl rfl rfl ?_
            refine J_no rfl rfl rfl ?_
            refine J_no rfl rfl rfl ?_
            refine J_noU 48 rfl rfl rfl rfl ?_
            refine J_no rfl rfl rfl ?_
            refine J_no rfl rfl rfl ?_
            refine J_no rfl rfl rfl ?_
            refine J_no rfl rfl rfl ?_
            refine J_no rfl rfl rfl ?_
            refine J_no rfl rfl rfl ?_
            refine J_q 55 rfl rfl rfl rfl (Q_pickT rfl rfl rfl) ?_
            refine J_q 2 rfl rfl rfl rfl (Q_assign rfl rfl) ?_
            refine J_nil (K_seq ?_)
            refine C_ret (body_ret (res1 rfl rfl) ?_)
            exact ⟨congrArg Ending.returned (eqB (by first | rfl | (refine decide_eq_decide.2 ?_; grind) | (refine (decide_eq_true ?_).symm; grind) | (refine (decide_eq_false ?_).symm; grind))), hS16.kept (k := 0) rfl⟩
          · refine J_q 45 rfl rfl rfl rfl (Q_fa0 rfl rfl fo55_6) ?_
            refine J_q 46 rfl rfl rfl rfl (Q_ldBK (k := 1) (stL c.aft) hS16 rfl rfl rfl Try.isAgg23 Try.sizeOf23 rfl rfl) ?_
            refine J_call 47 rfl rfl rfl rfl (T_call rfl rfl rfl Try.call54) (Right_calls _ c.aft) ?_
            rintro _ w20 ⟨rfl, hk20⟩
            have hS20 := hS16.kp0 hk20
            refine ⟨_, rfl, ?_⟩
            refine J_q 48 rfl rfl rfl rfl (Q_move rfl rfl) ?_
            refine J_split 48 rfl (fun h21 => ?_) (fun h21 => ?_)
            · refine J_q 49 rfl rfl rfl rfl (Q_fa0 rfl rfl fo55_6) ?_
              refine J_q 50 rfl rfl rfl rfl (Q_ldBK (k := 1) (stL c.aft) hS20 rfl rfl rfl Try.isAgg23 Try.sizeOf23 rfl rfl) ?_
              refine J_q 51 rfl rfl rfl rfl (Q_fa0 rfl rfl fo55_0) ?_
              refine J_q 52 rfl rfl rfl rfl (Q_ldBK (k := 1) (stL c.at_) hS20 rfl rfl rfl Try.isAgg23 Try.sizeOf23 rfl rfl) ?_
              refine J_call 53 rfl rfl rfl rfl (T_call rfl rfl rfl Try.call101) (Less_calls _ c.aft c.at_) ?_
              rintro _ w22 ⟨rfl, hk22⟩
              have hS22 := hS20.kp0 hk22
              refine ⟨_, rfl, ?_⟩
              refine J_q 54 rfl rfl rfl rfl (Q_pickT rfl rfl rfl) ?_
              refine J_q 55 rfl rfl rfl rfl (Q_pickF rfl rfl rfl) ?_
              refine J_q 2 rfl rfl rfl rfl (Q_assign rfl rfl) ?_
              refine J_nil (K_seq ?_)
              refine C_ret (body_ret (res1 rfl rfl) ?_)
              exact ⟨congrArg Ending.returned (eqB (by first | rfl | (refine decide_eq_decide.2 ?_; grind) | (refine (decide_eq_true ?_).symm; grind) | (refine (decide_eq_false ?_).symm; grind))), hS22.kept (k := 0) rfl⟩
            · refine J_no rfl rfl rfl ?_
              refine J_no rfl rfl rfl ?_
              refine J_no rfl rfl rfl ?_
              refine J_no rfl rfl rfl ?_
              refine J_no rfl rfl rfl ?_
              refine J_q 54 rfl rfl rfl rfl (Q_pickF rfl rfl rfl) ?_
              refine J_q 55 rfl rfl rfl rfl (Q_pickF rfl rfl rfl) ?_
              refine J_q 2 rfl rfl rfl rfl (Q_assign rfl rfl) ?_
              refine J_nil (K_seq ?_)
              refine C_ret (body_ret (res1 rfl rfl) ?_)
              exact ⟨congrArg Ending.returned (eqB (by first | rfl | (refine decide_eq_decide.2 ?_; grind) | (refine (decide_eq_true ?_).symm; grind) | (refine (decide_eq_false ?_).symm; grind))), hS20.kept (k := 0) rfl⟩

theorem placed_calls (w : World) (l_c : List Value) (c : Change) (h_c : tCh.rd w l_c c) :
    Calls Try.prog 110 #[.agg l_c.toArray] w fun e w' => e = .returned (.bool (decide (placedR c))) ∧ Kp no w w' := by
  have hS0 := St.start w
  have hF_c := RdF.of_rd h_c
  obtain ⟨A_c, cap_c, rfl, hd_c, ho_c⟩ := openCh hF_c
  have hln_c := RdF.lens hd_c
  have hsq_c := ho_c.seq
  refine fn_calls' 92 (args := [_]) Try.func110 rfl rfl rfl ?_
  refine C_seq ?_
  refine C_region ?_
  refine J_do 1 rfl rfl rfl rfl (D_box 1 hS0 rfl rfl (fun g1 w1 hS1 => ?_))
  refine J_q 2 rfl rfl rfl rfl (Q_assign rfl rfl) ?_
  refine J_nil (K_seq ?_)
  refine C_seq ?_
  refine C_region ?_
  refine J_q 5 rfl rfl rfl rfl (Q_bld (v := .agg ([.int .i64 0, .int .i64 0]).toArray) (ps := []) rfl rfl (fun _ => by kernel_rfl)) ?_
  refine J_do 3 rfl rfl rfl rfl (D_alloc 2 hS1 rfl Try.zeroValue23 (fun g2 w2 hS2 => ?_))
  refine J_do0 rfl rfl rfl rfl (D_store' (k := 2) hS2 rfl rfl rfl rfl Try.sizeOf23 rfl rfl rfl (fun w3 hS3 => ?_))
  refine J_nil (K_seq ?_)
  refine C_seq ?_
  refine C_seq ?_
  refine C_region ?_
  refine J_q 6 rfl rfl rfl rfl (Q_fa0 rfl rfl fo55_3) ?_
  refine J_q 7 rfl rfl rfl rfl (Q_ldB1 (k := 1) hS3 rfl rfl rfl Try.isAgg3 rfl) ?_
  refine J_q 8 rfl rfl rfl rfl (Q_eql rfl rfl rfl) ?_
  refine J_q 9 rfl rfl rfl rfl (Q_move rfl rfl) ?_
  refine J_split 9 rfl (fun h4 => ?_) (fun h4 => ?_)
  · refine J_q 10 rfl rfl rfl rfl (Q_fa0 rfl rfl fo55_4) ?_
    refine J_q 11 rfl rfl rfl rfl (Q_ldBK (k := 1) (stL c.node) hS3 rfl rfl rfl Try.isAgg23 Try.sizeOf23 rfl rfl) ?_
    refine J_q 12 rfl rfl rfl rfl (Q_fa0 rfl rfl fo55_0) ?_
    refine J_q 13 rfl rfl rfl rfl (Q_ldBK (k := 1) (stL c.at_) hS3 rfl rfl rfl Try.isAgg23 Try.sizeOf23 rfl rfl) ?_
    refine J_q 14 rfl rfl rfl rfl (Q_neqP rfl rfl rfl pe23) ?_
    refine J_q 15 rfl rfl rfl rfl (Q_pickT rfl rfl rfl) ?_
    refine J_q 16 rfl rfl rfl rfl (Q_move rfl rfl) ?_
    refine J_splitN 16 rfl (fun h5 => ?_) (fun h5 => ?_)
    · refine J_no rfl rfl rfl ?_
      refine J_no rfl rfl rfl ?_
      refine J_no rfl rfl rfl ?_
      refine J_noU 20 rfl rfl rfl rfl ?_
      refine J_no rfl rfl rfl ?_
      refine J_no rfl rfl rfl ?_
      refine J_no rfl rfl rfl ?_
      refine J_no rfl rfl rfl ?_
      refine J_no rfl rfl rfl ?_
      refine J_no rfl rfl rfl ?_
      refine J_no rfl rfl rfl ?_
      refine J_q 28 rfl rfl rfl rfl (Q_pickT rfl rfl rfl) ?_
      refine J_q 29 rfl rfl rfl rfl (Q_move rfl rfl) ?_
      refine J_no rfl rfl rfl ?_
      refine J_no rfl rfl rfl ?_
      refine J_no rfl rfl rfl ?_
      refine J_noU 33 rfl rfl rfl rfl ?_
      refine J_no rfl rfl rfl ?_
      refine J_no rfl rfl rfl ?_
      refine J_no rfl rfl rfl ?_
      refine J_no rfl rfl rfl ?_
      refine J_no rfl rfl rfl ?_
      refine J_noU 39 rfl rfl rfl rfl ?_
      refine J_no rfl rfl rfl ?_
      refine J_no rfl rfl rfl ?_
      refine J_no rfl rfl rfl ?_
      refine J_no rfl rfl rfl ?_
      refine J_no rfl rfl rfl ?_
      refine J_no rfl rfl rfl ?_
      refine J_no rfl rfl rfl ?_
      refine J_q 47 rfl rfl rfl rfl (Q_pickT rfl rfl rfl) ?_
      refine J_nil (K_seq ?_)
      refine C_true rfl ?_
      refine C_seq ?_
      refine C_region ?_
      refine J_q 2 rfl rfl rfl rfl (Q_assign rfl rfl) ?_
      refine J_nil (K_seq ?_)
      refine C_ret (R_then (body_ret (res1 rfl rfl) ?_))
      exact ⟨congrArg Ending.returned (eqB (by first | rfl | (refine decide_eq_decide.2 ?_; grind) | (refine (decide_eq_true ?_).symm; grind) | (refine (decide_eq_false ?_).symm; grind))), hS3.kept (k := 0) rfl⟩
    · refine J_q 17 rfl rfl rfl rfl (Q_fa0 rfl rfl fo55_3) ?_
      refine J_q 18 rfl rfl rfl rfl (Q_ldB1 (k := 1) hS3 rfl rfl rfl Try.isAgg3 rfl) ?_
      refine J_q 19 rfl rfl rfl rfl (Q_eql rfl rfl rfl) ?_
      refine J_q 20 rfl rfl rfl rfl (Q_move rfl rfl) ?_
      refine J_split 20 rfl (fun h6 => ?_) (fun h6 => ?_)
      · refine J_q 21 rfl rfl rfl rfl (Q_fa0 rfl rfl fo55_4) ?_
        refine J_q 22 rfl rfl rfl rfl (Q_ldBK (k := 1) (stL c.node) hS3 rfl rfl rfl Try.isAgg23 Try.sizeOf23 rfl rfl) ?_
        refine J_q 23 rfl rfl rfl rfl (Q_fa0 rfl rfl fo55_0) ?_
        refine J_q 24 rfl rfl rfl rfl (Q_ldBK (k := 1) (stL c.at_) hS3 rfl rfl rfl Try.isAgg23 Try.sizeOf23 rfl rfl) ?_
        refine J_call 25 rfl rfl rfl rfl (T_call rfl rfl rfl Try.call131) (ahead_calls _ c.node c.at_) ?_
        rintro _ w7 ⟨rfl, hk7⟩
        have hS7 := hS3.kp0 hk7
        refine ⟨_, rfl, ?_⟩
        refine J_q 26 rfl rfl rfl rfl (Q_not rfl rfl) ?_
        refine J_q 27 rfl rfl rfl rfl (Q_pickT rfl rfl rfl) ?_
        refine J_q 28 rfl rfl rfl rfl (Q_pickF rfl rfl rfl) ?_
        refine J_q 29 rfl rfl rfl rfl (Q_move rfl rfl) ?_
        refine J_splitN 29 rfl (fun h8 => ?_) (fun h8 => ?_)
        · refine J_no rfl rfl rfl ?_
          refine J_no rfl rfl rfl ?_
          refine J_no rfl rfl rfl ?_
          refine J_noU 33 rfl rfl rfl rfl ?_
          refine J_no rfl rfl rfl ?_
          refine J_no rfl rfl rfl ?_
          refine J_no rfl rfl rfl ?_
          refine J_no rfl rfl rfl ?_
          refine J_no rfl rfl rfl ?_
          refine J_noU 39 rfl rfl rfl rfl ?_
          refine J_no rfl rfl rfl ?_
          refine J_no rfl rfl rfl ?_
          refine J_no rfl rfl rfl ?_
          refine J_no rfl rfl rfl ?_
          refine J_no rfl rfl rfl ?_
          refine J_no rfl rfl rfl ?_
          refine J_no rfl rfl rfl ?_
          refine J_q 47 rfl rfl rfl rfl (Q_pickT rfl rfl rfl) ?_
          refine J_nil (K_seq ?_)
          refine C_true rfl ?_
          refine C_seq ?_
          refine C_region ?_
          refine J_q 2 rfl rfl rfl rfl (Q_assign rfl rfl) ?_
          refine J_nil (K_seq ?_)
          refine C_ret (R_then (body_ret (res1 rfl rfl) ?_))
          exact ⟨congrArg Ending.returned (eqB (by first | rfl | (refine decide_eq_decide.2 ?_; grind) | (refine (decide_eq_true ?_).symm; grind) | (refine (decide_eq_false ?_).symm; grind))), hS7.kept (k := 0) rfl⟩
        · refine J_q 30 rfl rfl rfl rfl (Q_fa0 rfl rfl fo55_3) ?_
          refine J_q 31 rfl rfl rfl rfl (Q_ldB1 (k := 1) hS7 rfl rfl rfl Try.isAgg3 rfl) ?_
          refine J_q 32 rfl rfl rfl rfl (Q_gtr rfl rfl rfl) ?_
          refine J_q 33 rfl rfl rfl rfl (Q_move rfl rfl) ?_
          refine J_split 33 rfl (fun h9 => ?_) (fun h9 => ?_)
          · refine J_q 34 rfl rfl rfl rfl (Q_fa0 rfl rfl fo55_4) ?_
            refine J_q 35 rfl rfl rfl rfl (Q_ldBK (k := 1) (stL c.node) hS7 rfl rfl rfl Try.isAgg23 Try.sizeOf23 rfl rfl) ?_
            refine J_q 36 rfl rfl rfl rfl (Q_ldBK' (k := 2) ([.int .i64 0, .int .i64 0]) hS7 rfl rfl rfl Try.isAgg23 Try.sizeOf23 rfl rfl) ?_
            refine J_q 37 rfl rfl rfl rfl (Q_neqP rfl rfl rfl pe23) ?_
            refine J_q 38 rfl rfl rfl rfl (Q_pickT rfl rfl rfl) ?_
            refine J_q 39 rfl rfl rfl rfl (Q_move rfl rfl) ?_
            refine J_splitN 39 rfl (fun h10 => ?_) (fun h10 => ?_)
            · refine J_q 40 rfl rfl rfl rfl (Q_fa0 rfl rfl fo55_4) ?_
              refine J_q 41 rfl rfl rfl rfl (Q_ldBK (k := 1) (stL c.node) hS7 rfl rfl rfl Try.isAgg23 Try.sizeOf23 rfl rfl) ?_
              refine J_q 42 rfl rfl rfl rfl (Q_fa0 rfl rfl fo55_0) ?_
              refine J_q 43 rfl rfl rfl rfl (Q_ldBK (k := 1) (stL c.at_) hS7 rfl rfl rfl Try.isAgg23 Try.sizeOf23 rfl rfl) ?_
              refine J_call 44 rfl rfl rfl rfl (T_call rfl rfl rfl Try.call131) (ahead_calls _ c.node c.at_) ?_
              rintro _ w11 ⟨rfl, hk11⟩
              have hS11 := hS7.kp0 hk11
              refine ⟨_, rfl, ?_⟩
              refine J_q 45 rfl rfl rfl rfl (Q_not rfl rfl) ?_
              refine J_q 46 rfl rfl rfl rfl (Q_pickT rfl rfl rfl) ?_
              refine J_q 47 rfl rfl rfl rfl (Q_pickF rfl rfl rfl) ?_
              refine J_nil (K_seq ?_)
              refine C_ifNF rfl h8 ?_
              refine C_skip (K_seq ?_)
              refine C_seq ?_
              refine C_seq ?_
              refine C_region ?_
              refine J_q 48 rfl rfl rfl rfl (Q_fa0 rfl rfl fo55_3) ?_
              refine J_q 49 rfl rfl rfl rfl (Q_ldB1 (k := 1) hS11 rfl rfl rfl Try.isAgg3 rfl) ?_
              refine J_q 50 rfl rfl rfl rfl (Q_gtr rfl rfl rfl) ?_
              refine J_nil (K_seq ?_)
              refine C_ifT rfl h9 ?_
              refine C_seq ?_
              refine C_region ?_
              refine J_q 51 rfl rfl rfl rfl (Q_fa0 rfl rfl fo55_5) ?_
              refine J_q 52 rfl rfl rfl rfl (Q_ldBK (k := 1) (stL c.par) hS11 rfl rfl rfl Try.isAgg23 Try.sizeOf23 rfl rfl) ?_
              refine J_q 53 rfl rfl rfl rfl (Q_ldBK' (k := 2) ([.int .i64 0, .int .i64 0]) hS11 rfl rfl rfl Try.isAgg23 Try.sizeOf23 rfl rfl) ?_
              refine J_q 54 rfl rfl rfl rfl (Q_eqlP rfl rfl rfl pe23) ?_
              refine J_q 55 rfl rfl rfl rfl (Q_move rfl rfl) ?_
              refine J_split 55 rfl (fun h12 => ?_) (fun h12 => ?_)
              · refine J_q 56 rfl rfl rfl rfl (Q_fa0 rfl rfl fo55_6) ?_
                refine J_q 57 rfl rfl rfl rfl (Q_ldBK (k := 1) (stL c.aft) hS11 rfl rfl rfl Try.isAgg23 Try.sizeOf23 rfl rfl) ?_
                refine J_q 58 rfl rfl rfl rfl (Q_ldBK' (k := 2) ([.int .i64 0, .int .i64 0]) hS11 rfl rfl rfl Try.isAgg23 Try.sizeOf23 rfl rfl) ?_
                refine J_q 59 rfl rfl rfl rfl (Q_eqlP rfl rfl rfl pe23) ?_
                refine J_q 60 rfl rfl rfl rfl (Q_pickT rfl rfl rfl) ?_
                refine J_q 2 rfl rfl rfl rfl (Q_assign rfl rfl) ?_
                refine J_nil (K_seq ?_)
                refine C_ret (R_then (body_ret (res1 rfl rfl) ?_))
                exact ⟨congrArg Ending.returned (eqB (by first | rfl | (refine decide_eq_decide.2 ?_; grind) | (refine (decide_eq_true ?_).symm; grind) | (refine (decide_eq_false ?_).symm; grind))), hS11.kept (k := 0) rfl⟩
              · refine J_no rfl rfl rfl ?_
                refine J_no rfl rfl rfl ?_
                refine J_no rfl rfl rfl ?_
                refine J_no rfl rfl rfl ?_
                refine J_q 60 rfl rfl rfl rfl (Q_pickF rfl rfl rfl) ?_
                refine J_q 2 rfl rfl rfl rfl (Q_assign rfl rfl) ?_
                refine J_nil (K_seq ?_)
                refine C_ret (R_then (body_ret (res1 rfl rfl) ?_))
                exact ⟨congrArg Ending.returned (eqB (by first | rfl | (refine decide_eq_decide.2 ?_; grind) | (refine (decide_eq_true ?_).symm; grind) | (refine (decide_eq_false ?_).symm; grind))), hS11.kept (k := 0) rfl⟩
            · refine J_no rfl rfl rfl ?_
              refine J_no rfl rfl rfl ?_
              refine J_no rfl rfl rfl ?_
              refine J_no rfl rfl rfl ?_
              refine J_no rfl rfl rfl ?_
              refine J_no rfl rfl rfl ?_
              refine J_q 46 rfl rfl rfl rfl (Q_pickF rfl rfl rfl) ?_
              refine J_q 47 rfl rfl rfl rfl (Q_pickF rfl rfl rfl) ?_
              refine J_nil (K_seq ?_)
              refine C_false rfl ?_
              refine C_skip (K_seq ?_)
              refine C_seq ?_
              refine C_seq ?_
              refine C_region ?_
              refine J_q 48 rfl rfl rfl rfl (Q_fa0 rfl rfl fo55_3) ?_
              refine J_q 49 rfl rfl rfl rfl (Q_ldB1 (k := 1) hS7 rfl rfl rfl Try.isAgg3 rfl) ?_
              refine J_q 50 rfl rfl rfl rfl (Q_gtr rfl rfl rfl) ?_
              refine J_nil (K_seq ?_)
              refine C_ifT rfl h9 ?_
              refine C_seq ?_
              refine C_region ?_
              refine J_q 51 rfl rfl rfl rfl (Q_fa0 rfl rfl fo55_5) ?_
              refine J_q 52 rfl rfl rfl rfl (Q_ldBK (k := 1) (stL c.par) hS7 rfl rfl rfl Try.isAgg23 Try.sizeOf23 rfl rfl) ?_
              refine J_q 53 rfl rfl rfl rfl (Q_ldBK' (k := 2) ([.int .i64 0, .int .i64 0]) hS7 rfl rfl rfl Try.isAgg23 Try.sizeOf23 rfl rfl) ?_
              refine J_q 54 rfl rfl rfl rfl (Q_eqlP rfl rfl rfl pe23) ?_
              refine J_q 55 rfl rfl rfl rfl (Q_move rfl rfl) ?_
              refine J_split 55 rfl (fun h13 => ?_) (fun h13 => ?_)
              · refine J_q 56 rfl rfl rfl rfl (Q_fa0 rfl rfl fo55_6) ?_
                refine J_q 57 rfl rfl rfl rfl (Q_ldBK (k := 1) (stL c.aft) hS7 rfl rfl rfl Try.isAgg23 Try.sizeOf23 rfl rfl) ?_
                refine J_q 58 rfl rfl rfl rfl (Q_ldBK' (k := 2) ([.int .i64 0, .int .i64 0]) hS7 rfl rfl rfl Try.isAgg23 Try.sizeOf23 rfl rfl) ?_
                refine J_q 59 rfl rfl rfl rfl (Q_eqlP rfl rfl rfl pe23) ?_
                refine J_q 60 rfl rfl rfl rfl (Q_pickT rfl rfl rfl) ?_
                refine J_q 2 rfl rfl rfl rfl (Q_assign rfl rfl) ?_
                refine J_nil (K_seq ?_)
                refine C_ret (R_then (body_ret (res1 rfl rfl) ?_))
                exact ⟨congrArg Ending.returned (eqB (by first | rfl | (refine decide_eq_decide.2 ?_; grind) | (refine (decide_eq_true ?_).symm; grind) | (refine (decide_eq_false ?_).symm; grind))), hS7.kept (k := 0) rfl⟩
              · refine J_no rfl rfl rfl ?_
                refine J_no rfl rfl rfl ?_
                refine J_no rfl rfl rfl ?_
                refine J_no rfl rfl rfl ?_
                refine J_q 60 rfl rfl rfl rfl (Q_pickF rfl rfl rfl) ?_
                refine J_q 2 rfl rfl rfl rfl (Q_assign rfl rfl) ?_
                refine J_nil (K_seq ?_)
                refine C_ret (R_then (body_ret (res1 rfl rfl) ?_))
                exact ⟨congrArg Ending.returned (eqB (by first | rfl | (refine decide_eq_decide.2 ?_; grind) | (refine (decide_eq_true ?_).symm; grind) | (refine (decide_eq_false ?_).symm; grind))), hS7.kept (k := 0) rfl⟩
          · refine J_no rfl rfl rfl ?_
            refine J_no rfl rfl rfl ?_
            refine J_no rfl rfl rfl ?_
            refine J_no rfl rfl rfl ?_
            refine J_q 38 rfl rfl rfl rfl (Q_pickF rfl rfl rfl) ?_
            refine J_q 39 rfl rfl rfl rfl (Q_move rfl rfl) ?_
            refine J_no rfl rfl rfl ?_
            refine J_no rfl rfl rfl ?_
            refine J_no rfl rfl rfl ?_
            refine J_no rfl rfl rfl ?_
            refine J_no rfl rfl rfl ?_
            refine J_no rfl rfl rfl ?_
            refine J_q 46 rfl rfl rfl rfl (Q_pickF rfl rfl rfl) ?_
            refine J_q 47 rfl rfl rfl rfl (Q_pickF rfl rfl rfl) ?_
            refine J_nil (K_seq ?_)
            refine C_false rfl ?_
            refine C_skip (K_seq ?_)
            refine C_seq ?_
            refine C_seq ?_
            refine C_region ?_
            refine J_q 48 rfl rfl rfl rfl (Q_fa0 rfl rfl fo55_3) ?_
            refine J_q 49 rfl rfl rfl rfl (Q_ldB1 (k := 1) hS7 rfl rfl rfl Try.isAgg3 rfl) ?_
            refine J_q 50 rfl rfl rfl rfl (Q_gtr rfl rfl rfl) ?_
            refine J_nil (K_seq ?_)
            refine C_ifF rfl h9 ?_
            refine C_skip (K_seq ?_)
            refine C_seq ?_
            refine C_region ?_
            refine J_q 61 rfl rfl rfl rfl (Q_fa0 rfl rfl fo55_5) ?_
            refine J_q 62 rfl rfl rfl rfl (Q_ldBK (k := 1) (stL c.par) hS7 rfl rfl rfl Try.isAgg23 Try.sizeOf23 rfl rfl) ?_
            refine J_call 63 rfl rfl rfl rfl (T_call rfl rfl rfl Try.call132) (RNode_calls _ c.par) ?_
            rintro _ w14 ⟨rfl, hk14⟩
            have hS14 := hS7.kp0 hk14
            refine ⟨_, rfl, ?_⟩
            refine J_q 64 rfl rfl rfl rfl (Q_move rfl rfl) ?_
            refine J_split 64 rfl (fun h15 => ?_) (fun h15 => ?_)
            · refine J_q 65 rfl rfl rfl rfl (Q_fa0 rfl rfl fo55_5) ?_
              refine J_q 66 rfl rfl rfl rfl (Q_ldBK (k := 1) (stL c.par) hS14 rfl rfl rfl Try.isAgg23 Try.sizeOf23 rfl rfl) ?_
              refine J_q 67 rfl rfl rfl rfl (Q_fa0 rfl rfl fo55_0) ?_
              refine J_q 68 rfl rfl rfl rfl (Q_ldBK (k := 1) (stL c.at_) hS14 rfl rfl rfl Try.isAgg23 Try.sizeOf23 rfl rfl) ?_
              refine J_call 69 rfl rfl rfl rfl (T_call rfl rfl rfl Try.call37) (RLess_calls _ c.par c.at_) ?_
              rintro _ w16 ⟨rfl, hk16⟩
              have hS16 := hS14.kp0 hk16
              refine ⟨_, rfl, ?_⟩
              refine J_q 70 rfl rfl rfl rfl (Q_pickT rfl rfl rfl) ?_
              refine J_q 71 rfl rfl rfl rfl (Q_move rfl rfl) ?_
              refine J_split 71 rfl (fun h17 => ?_) (fun h17 => ?_)
              · refine J_q 72 rfl rfl rfl rfl (Q_fa0 rfl rfl fo55_5) ?_
                refine J_q 73 rfl rfl rfl rfl (Q_ldBK (k := 1) (stL c.par) hS16 rfl rfl rfl Try.isAgg23 Try.sizeOf23 rfl rfl) ?_
                refine J_q 74 rfl rfl rfl rfl (Q_fa0 rfl rfl fo55_4) ?_
                refine J_q 75 rfl rfl rfl rfl (Q_ldBK (k := 1) (stL c.node) hS16 rfl rfl rfl Try.isAgg23 Try.sizeOf23 rfl rfl) ?_
                refine J_q 76 rfl rfl rfl rfl (Q_neqP rfl rfl rfl pe23) ?_
                refine J_q 77 rfl rfl rfl rfl (Q_pickT rfl rfl rfl) ?_
                refine J_q 4 rfl rfl rfl rfl (Q_assign rfl rfl) ?_
                refine J_nil (K_seq ?_)
                refine C_seq ?_
                refine C_region ?_
                refine J_q 78 rfl rfl rfl rfl (Q_move rfl rfl) ?_
                refine J_q 79 rfl rfl rfl rfl (Q_move rfl rfl) ?_
                refine J_splitN 79 rfl (fun h18 => ?_) (fun h18 => ?_)
                · refine J_q 80 rfl rfl rfl rfl (Q_fa0 rfl rfl fo55_6) ?_
                  refine J_q 81 rfl rfl rfl rfl (Q_ldBK (k := 1) (stL c.aft) hS16 rfl rfl rfl Try.isAgg23 Try.sizeOf23 rfl rfl) ?_
                  refine J_q 82 rfl rfl rfl rfl (Q_ldBK' (k := 2) ([.int .i64 0, .int .i64 0]) hS16 rfl rfl rfl Try.isAgg23 Try.sizeOf23 rfl rfl) ?_
                  refine J_q 83 rfl rfl rfl rfl (Q_eqlP rfl rfl rfl pe23) ?_
                  refine J_q 84 rfl rfl rfl rfl (Q_move rfl rfl) ?_
                  refine J_split 84 rfl (fun h19 => ?_) (fun h19 => ?_)
                  · refine J_no rfl rfl rfl ?_
                    refine J_no rfl rfl rfl ?_
                    refine J_no rfl rfl rfl ?_
                    refine J_no rfl rfl rfl ?_
                    refine J_no rfl rfl rfl ?_
                    refine J_q 90 rfl rfl rfl rfl (Q_pickT rfl rfl rfl) ?_
                    refine J_q 91 rfl rfl rfl rfl (Q_pickT rfl rfl rfl) ?_
                    refine J_q 2 rfl rfl rfl rfl (Q_assign rfl rfl) ?_
                    refine J_nil (K_seq ?_)
                    refine C_ret (body_ret (res1 rfl rfl) ?_)
                    exact ⟨congrArg Ending.returned (eqB (by first | rfl | (refine decide_eq_decide.2 ?_; grind) | (refine (decide_eq_true ?_).symm; grind) | (refine (decide_eq_false ?_).symm; grind))), hS16.kept (k := 0) rfl⟩
                  · refine J_q 85 rfl rfl rfl rfl (Q_fa0 rfl rfl fo55_6) ?_
                    refine J_q 86 rfl rfl rfl rfl (Q_ldBK (k := 1) (stL c.aft) hS16 rfl rfl rfl Try.isAgg23 Try.sizeOf23 rfl rfl) ?_
                    refine J_q 87 rfl rfl rfl rfl (Q_fa0 rfl rfl fo55_0) ?_
                    refine J_q 88 rfl rfl rfl rfl (Q_ldBK (k := 1) (stL c.at_) hS16 rfl rfl rfl Try.isAgg23 Try.sizeOf23 rfl rfl) ?_
                    refine J_call 89 rfl rfl rfl rfl (T_call rfl rfl rfl Try.call131) (ahead_calls _ c.aft c.at_) ?_
                    rintro _ w20 ⟨rfl, hk20⟩
                    have hS20 := hS16.kp0 hk20
                    refine ⟨_, rfl, ?_⟩
                    refine J_q 90 rfl rfl rfl rfl (Q_pickF rfl rfl rfl) ?_
                    refine J_q 91 rfl rfl rfl rfl (Q_pickT rfl rfl rfl) ?_
                    refine J_q 2 rfl rfl rfl rfl (Q_assign rfl rfl) ?_
                    refine J_nil (K_seq ?_)
                    refine C_ret (body_ret (res1 rfl rfl) ?_)
                    exact ⟨congrArg Ending.returned (eqB (by first | rfl | (refine decide_eq_decide.2 ?_; grind) | (refine (decide_eq_true ?_).symm; grind) | (refine (decide_eq_false ?_).symm; grind))), hS20.kept (k := 0) rfl⟩
                · refine J_no rfl rfl rfl ?_
                  refine J_no rfl rfl rfl ?_
                  refine J_no rfl rfl rfl ?_
                  refine J_no rfl rfl rfl ?_
                  refine J_noU 84 rfl rfl rfl rfl ?_
                  refine J_no rfl rfl rfl ?_
                  refine J_no rfl rfl rfl ?_
                  refine J_no rfl rfl rfl ?_
                  refine J_no rfl rfl rfl ?_
                  refine J_no rfl rfl rfl ?_
                  refine J_no rfl rfl rfl ?_
                  refine J_q 91 rfl rfl rfl rfl (Q_pickF rfl rfl rfl) ?_
                  refine J_q 2 rfl rfl rfl rfl (Q_assign rfl rfl) ?_
                  refine J_nil (K_seq ?_)
                  refine C_ret (body_ret (res1 rfl rfl) ?_)
                  exact ⟨congrArg Ending.returned (eqB (by first | rfl | (refine decide_eq_decide.2 ?_; grind) | (refine (decide_eq_true ?_).symm; grind) | (refine (decide_eq_false ?_).symm; grind))), hS16.kept (k := 0) rfl⟩
              · refine J_no rfl rfl rfl ?_
                refine J_no rfl rfl rfl ?_
                refine J_no rfl rfl rfl ?_
                refine J_no rfl rfl rfl ?_
                refine J_no rfl rfl rfl ?_
                refine J_q 77 rfl rfl rfl rfl (Q_pickF rfl rfl rfl) ?_
                refine J_q 4 rfl rfl rfl rfl (Q_assign rfl rfl) ?_
                refine J_nil (K_seq ?_)
                refine C_seq ?_
                refine C_region ?_
                refine J_q 78 rfl rfl rfl rfl (Q_move rfl rfl) ?_
                refine J_q 79 rfl rfl rfl rfl (Q_move rfl rfl) ?_
                refine J_no rfl rfl rfl ?_
                refine J_no rfl rfl rfl ?_
                refine J_no rfl rfl rfl ?_
                refine J_no rfl rfl rfl ?_
                refine J_noU 84 rfl rfl rfl rfl ?_
                refine J_no rfl rfl rfl ?_
                refine J_no rfl rfl rfl ?_
                refine J_no rfl rfl rfl ?_
                refine J_no rfl rfl rfl ?_
                refine J_no rfl rfl rfl ?_
                refine J_no rfl rfl rfl ?_
                refine J_q 91 rfl rfl rfl rfl (Q_pickF rfl rfl rfl) ?_
                refine J_q 2 rfl rfl rfl rfl (Q_assign rfl rfl) ?_
                refine J_nil (K_seq ?_)
                refine C_ret (body_ret (res1 rfl rfl) ?_)
                exact ⟨congrArg Ending.returned (eqB (by first | rfl | (refine decide_eq_decide.2 ?_; grind) | (refine (decide_eq_true ?_).symm; grind) | (refine (decide_eq_false ?_).symm; grind))), hS16.kept (k := 0) rfl⟩
            · refine J_no rfl rfl rfl ?_
              refine J_no rfl rfl rfl ?_
              refine J_no rfl rfl rfl ?_
              refine J_no rfl rfl rfl ?_
              refine J_no rfl rfl rfl ?_
              refine J_q 70 rfl rfl rfl rfl (Q_pickF rfl rfl rfl) ?_
              refine J_q 71 rfl rfl rfl rfl (Q_move rfl rfl) ?_
              refine J_no rfl rfl rfl ?_
              refine J_no rfl rfl rfl ?_
              refine J_no rfl rfl rfl ?_
              refine J_no rfl rfl rfl ?_
              refine J_no rfl rfl rfl ?_
              refine J_q 77 rfl rfl rfl rfl (Q_pickF rfl rfl rfl) ?_
              refine J_q 4 rfl rfl rfl rfl (Q_assign rfl rfl) ?_
              refine J_nil (K_seq ?_)
              refine C_seq ?_
              refine C_region ?_
              refine J_q 78 rfl rfl rfl rfl (Q_move rfl rfl) ?_
              refine J_q 79 rfl rfl rfl rfl (Q_move rfl rfl) ?_
              refine J_no rfl rfl rfl ?_
              refine J_no rfl rfl rfl ?_
              refine J_no rfl rfl rfl ?_
              refine J_no rfl rfl rfl ?_
              refine J_noU 84 rfl rfl rfl rfl ?_
              refine J_no rfl rfl rfl ?_
              refine J_no rfl rfl rfl ?_
              refine J_no rfl rfl rfl ?_
              refine J_no rfl rfl rfl ?_
              refine J_no rfl rfl rfl ?_
              refine J_no rfl rfl rfl ?_
              refine J_q 91 rfl rfl rfl rfl (Q_pickF rfl rfl rfl) ?_
              refine J_q 2 rfl rfl rfl rfl (Q_assign rfl rfl) ?_
              refine J_nil (K_seq ?_)
              refine C_ret (body_ret (res1 rfl rfl) ?_)
              exact ⟨congrArg Ending.returned (eqB (by first | rfl | (refine decide_eq_decide.2 ?_; grind) | (refine (decide_eq_true ?_).symm; grind) | (refine (decide_eq_false ?_).symm; grind))), hS14.kept (k := 0) rfl⟩
      · refine J_no rfl rfl rfl ?_
        refine J_no rfl rfl rfl ?_
        refine J_no rfl rfl rfl ?_
        refine J_no rfl rfl rfl ?_
        refine J_no rfl rfl rfl ?_
        refine J_no rfl rfl rfl ?_
        refine J_q 27 rfl rfl rfl rfl (Q_pickF rfl rfl rfl) ?_
        refine J_q 28 rfl rfl rfl rfl (Q_pickF rfl rfl rfl) ?_
        refine J_q 29 rfl rfl rfl rfl (Q_move rfl rfl) ?_
        refine J_q 30 rfl rfl rfl rfl (Q_fa0 rfl rfl fo55_3) ?_
        refine J_q 31 rfl rfl rfl rfl (Q_ldB1 (k := 1) hS3 rfl rfl rfl Try.isAgg3 rfl) ?_
        refine J_q 32 rfl rfl rfl rfl (Q_gtr rfl rfl rfl) ?_
        refine J_q 33 rfl rfl rfl rfl (Q_move rfl rfl) ?_
        refine J_split 33 rfl (fun h21 => ?_) (fun h21 => ?_)
        · refine J_q 34 rfl rfl rfl rfl (Q_fa0 rfl rfl fo55_4) ?_
          refine J_q 35 rfl rfl rfl rfl (Q_ldBK (k := 1) (stL c.node) hS3 rfl rfl rfl Try.isAgg23 Try.sizeOf23 rfl rfl) ?_
          refine J_q 36 rfl rfl rfl rfl (Q_ldBK' (k := 2) ([.int .i64 0, .int .i64 0]) hS3 rfl rfl rfl Try.isAgg23 Try.sizeOf23 rfl rfl) ?_
          refine J_q 37 rfl rfl rfl rfl (Q_neqP rfl rfl rfl pe23) ?_
          refine J_q 38 rfl rfl rfl rfl (Q_pickT rfl rfl rfl) ?_
          refine J_q 39 rfl rfl rfl rfl (Q_move rfl rfl) ?_
          refine J_splitN 39 rfl (fun h22 => ?_) (fun h22 => ?_)
          · refine J_q 40 rfl rfl rfl rfl (Q_fa0 rfl rfl fo55_4) ?_
            refine J_q 41 rfl rfl rfl rfl (Q_ldBK (k := 1) (stL c.node) hS3 rfl rfl rfl Try.isAgg23 Try.sizeOf23 rfl rfl) ?_
            refine J_q 42 rfl rfl rfl rfl (Q_fa0 rfl rfl fo55_0) ?_
            refine J_q 43 rfl rfl rfl rfl (Q_ldBK (k := 1) (stL c.at_) hS3 rfl rfl rfl Try.isAgg23 Try.sizeOf23 rfl rfl) ?_
            refine J_call 44 rfl rfl rfl rfl (T_call rfl rfl rfl Try.call131) (ahead_calls _ c.node c.at_) ?_
            rintro _ w23 ⟨rfl, hk23⟩
            have hS23 := hS3.kp0 hk23
            refine ⟨_, rfl, ?_⟩
            refine J_q 45 rfl rfl rfl rfl (Q_not rfl rfl) ?_
            refine J_q 46 rfl rfl rfl rfl (Q_pickT rfl rfl rfl) ?_
            refine J_q 47 rfl rfl rfl rfl (Q_pickF rfl rfl rfl) ?_
            refine J_nil (K_seq ?_)
            refine C_ifN rfl (fun h24 => ?_) (fun h24 => ?_)
            · refine C_seq ?_
              refine C_region ?_
              refine J_q 2 rfl rfl rfl rfl (Q_assign rfl rfl) ?_
              refine J_nil (K_seq ?_)
              refine C_ret (R_then (body_ret (res1 rfl rfl) ?_))
              exact ⟨congrArg Ending.returned (eqB (by first | rfl | (refine decide_eq_decide.2 ?_; grind) | (refine (decide_eq_true ?_).symm; grind) | (refine (decide_eq_false ?_).symm; grind))), hS23.kept (k := 0) rfl⟩
            · refine C_skip (K_seq ?_)
              refine C_seq ?_
              refine C_seq ?_
              refine C_region ?_
              refine J_q 48 rfl rfl rfl rfl (Q_fa0 rfl rfl fo55_3) ?_
              refine J_q 49 rfl rfl rfl rfl (Q_ldB1 (k := 1) hS23 rfl rfl rfl Try.isAgg3 rfl) ?_
              refine J_q 50 rfl rfl rfl rfl (Q_gtr rfl rfl rfl) ?_
              refine J_nil (K_seq ?_)
              refine C_ifT rfl h21 ?_
              refine C_seq ?_
              refine C_region ?_
              refine J_q 51 rfl rfl rfl rfl (Q_fa0 rfl rfl fo55_5) ?_
              refine J_q 52 rfl rfl rfl rfl (Q_ldBK (k := 1) (stL c.par) hS23 rfl rfl rfl Try.isAgg23 Try.sizeOf23 rfl rfl) ?_
              refine J_q 53 rfl rfl rfl rfl (Q_ldBK' (k := 2) ([.int .i64 0, .int .i64 0]) hS23 rfl rfl rfl Try.isAgg23 Try.sizeOf23 rfl rfl) ?_
              refine J_q 54 rfl rfl rfl rfl (Q_eqlP rfl rfl rfl pe23) ?_
              refine J_q 55 rfl rfl rfl rfl (Q_move rfl rfl) ?_
              refine J_split 55 rfl (fun h25 => ?_) (fun h25 => ?_)
              · refine J_q 56 rfl rfl rfl rfl (Q_fa0 rfl rfl fo55_6) ?_
                refine J_q 57 rfl rfl rfl rfl (Q_ldBK (k := 1) (stL c.aft) hS23 rfl rfl rfl Try.isAgg23 Try.sizeOf23 rfl rfl) ?_
                refine J_q 58 rfl rfl rfl rfl (Q_ldBK' (k := 2) ([.int .i64 0, .int .i64 0]) hS23 rfl rfl rfl Try.isAgg23 Try.sizeOf23 rfl rfl) ?_
                refine J_q 59 rfl rfl rfl rfl (Q_eqlP rfl rfl rfl pe23) ?_
                refine J_q 60 rfl rfl rfl rfl (Q_pickT rfl rfl rfl) ?_
                refine J_q 2 rfl rfl rfl rfl (Q_assign rfl rfl) ?_
                refine J_nil (K_seq ?_)
                refine C_ret (R_then (body_ret (res1 rfl rfl) ?_))
                exact ⟨congrArg Ending.returned (eqB (by first | rfl | (refine decide_eq_decide.2 ?_; grind) | (refine (decide_eq_true ?_).symm; grind) | (refine (decide_eq_false ?_).symm; grind))), hS23.kept (k := 0) rfl⟩
              · refine J_no rfl rfl rfl ?_
                refine J_no rfl rfl rfl ?_
                refine J_no rfl rfl rfl ?_
                refine J_no rfl rfl rfl ?_
                refine J_q 60 rfl rfl rfl rfl (Q_pickF rfl rfl rfl) ?_
                refine J_q 2 rfl rfl rfl rfl (Q_assign rfl rfl) ?_
                refine J_nil (K_seq ?_)
                refine C_ret (R_then (body_ret (res1 rfl rfl) ?_))
                exact ⟨congrArg Ending.returned (eqB (by first | rfl | (refine decide_eq_decide.2 ?_; grind) | (refine (decide_eq_true ?_).symm; grind) | (refine (decide_eq_false ?_).symm; grind))), hS23.kept (k := 0) rfl⟩
          · refine J_no rfl rfl rfl ?_
            refine J_no rfl rfl rfl ?_
            refine J_no rfl rfl rfl ?_
            refine J_no rfl rfl rfl ?_
            refine J_no rfl rfl rfl ?_
            refine J_no rfl rfl rfl ?_
            refine J_q 46 rfl rfl rfl rfl (Q_pickF rfl rfl rfl) ?_
            refine J_q 47 rfl rfl rfl rfl (Q_pickF rfl rfl rfl) ?_
            refine J_nil (K_seq ?_)
            refine C_false rfl ?_
            refine C_skip (K_seq ?_)
            refine C_seq ?_
            refine C_seq ?_
            refine C_region ?_
            refine J_q 48 rfl rfl rfl rfl (Q_fa0 rfl rfl fo55_3) ?_
            refine J_q 49 rfl rfl rfl rfl (Q_ldB1 (k := 1) hS3 rfl rfl rfl Try.isAgg3 rfl) ?_
            refine J_q 50 rfl rfl rfl rfl (Q_gtr rfl rfl rfl) ?_
            refine J_nil (K_seq ?_)
            refine C_ifT rfl h21 ?_
            refine C_seq ?_
            refine C_region ?_
            refine J_q 51 rfl rfl rfl rfl (Q_fa0 rfl rfl fo55_5) ?_
            refine J_q 52 rfl rfl rfl rfl (Q_ldBK (k := 1) (stL c.par) hS3 rfl rfl rfl Try.isAgg23 Try.sizeOf23 rfl rfl) ?_
            refine J_q 53 rfl rfl rfl rfl (Q_ldBK' (k := 2) ([.int .i64 0, .int .i64 0]) hS3 rfl rfl rfl Try.isAgg23 Try.sizeOf23 rfl rfl) ?_
            refine J_q 54 rfl rfl rfl rfl (Q_eqlP rfl rfl rfl pe23) ?_
            refine J_q 55 rfl rfl rfl rfl (Q_move rfl rfl) ?_
            refine J_split 55 rfl (fun h26 => ?_) (fun h26 => ?_)
            · refine J_q 56 rfl rfl rfl rfl (Q_fa0 rfl rfl fo55_6) ?_
              refine J_q 57 rfl rfl rfl rfl (Q_ldBK (k := 1) (stL c.aft) hS3 rfl rfl rfl Try.isAgg23 Try.sizeOf23 rfl rfl) ?_
              refine J_q 58 rfl rfl rfl rfl (Q_ldBK' (k := 2) ([.int .i64 0, .int .i64 0]) hS3 rfl rfl rfl Try.isAgg23 Try.sizeOf23 rfl rfl) ?_
              refine J_q 59 rfl rfl rfl rfl (Q_eqlP rfl rfl rfl pe23) ?_
              refine J_q 60 rfl rfl rfl rfl (Q_pickT rfl rfl rfl) ?_
              refine J_q 2 rfl rfl rfl rfl (Q_assign rfl rfl) ?_
              refine J_nil (K_seq ?_)
              refine C_ret (R_then (body_ret (res1 rfl rfl) ?_))
              exact ⟨congrArg Ending.returned (eqB (by first | rfl | (refine decide_eq_decide.2 ?_; grind) | (refine (decide_eq_true ?_).symm; grind) | (refine (decide_eq_false ?_).symm; grind))), hS3.kept (k := 0) rfl⟩
            · refine J_no rfl rfl rfl ?_
              refine J_no rfl rfl rfl ?_
              refine J_no rfl rfl rfl ?_
              refine J_no rfl rfl rfl ?_
              refine J_q 60 rfl rfl rfl rfl (Q_pickF rfl rfl rfl) ?_
              refine J_q 2 rfl rfl rfl rfl (Q_assign rfl rfl) ?_
              refine J_nil (K_seq ?_)
              refine C_ret (R_then (body_ret (res1 rfl rfl) ?_))
              exact ⟨congrArg Ending.returned (eqB (by first | rfl | (refine decide_eq_decide.2 ?_; grind) | (refine (decide_eq_true ?_).symm; grind) | (refine (decide_eq_false ?_).symm; grind))), hS3.kept (k := 0) rfl⟩
        · refine J_no rfl rfl rfl ?_
          refine J_no rfl rfl rfl ?_
          refine J_no rfl rfl rfl ?_
          refine J_no rfl rfl rfl ?_
          refine J_q 38 rfl rfl rfl rfl (Q_pickF rfl rfl rfl) ?_
          refine J_q 39 rfl rfl rfl rfl (Q_move rfl rfl) ?_
          refine J_no rfl rfl rfl ?_
          refine J_no rfl rfl rfl ?_
          refine J_no rfl rfl rfl ?_
          refine J_no rfl rfl rfl ?_
          refine J_no rfl rfl rfl ?_
          refine J_no rfl rfl rfl ?_
          refine J_q 46 rfl rfl rfl rfl (Q_pickF rfl rfl rfl) ?_
          refine J_q 47 rfl rfl rfl rfl (Q_pickF rfl rfl rfl) ?_
          refine J_nil (K_seq ?_)
          refine C_false rfl ?_
          refine C_skip (K_seq ?_)
          refine C_seq ?_
          refine C_seq ?_
          refine C_region ?_
          refine J_q 48 rfl rfl rfl rfl (Q_fa0 rfl rfl fo55_3) ?_
          refine J_q 49 rfl rfl rfl rfl (Q_ldB1 (k := 1) hS3 rfl rfl rfl Try.isAgg3 rfl) ?_
          refine J_q 50 rfl rfl rfl rfl (Q_gtr rfl rfl rfl) ?_
          refine J_nil (K_seq ?_)
          refine C_ifF rfl h21 ?_
          refine C_skip (K_seq ?_)
          refine C_seq ?_
          refine C_region ?_
          refine J_q 61 rfl rfl rfl rfl (Q_fa0 rfl rfl fo55_5) ?_
          refine J_q 62 rfl rfl rfl rfl (Q_ldBK (k := 1) (stL c.par) hS3 rfl rfl rfl Try.isAgg23 Try.sizeOf23 rfl rfl) ?_
          refine J_call 63 rfl rfl rfl rfl (T_call rfl rfl rfl Try.call132) (RNode_calls _ c.par) ?_
          rintro _ w27 ⟨rfl, hk27⟩
          have hS27 := hS3.kp0 hk27
          refine ⟨_, rfl, ?_⟩
          refine J_q 64 rfl rfl rfl rfl (Q_move rfl rfl) ?_
          refine J_split 64 rfl (fun h28 => ?_) (fun h28 => ?_)
          · refine J_q 65 rfl rfl rfl rfl (Q_fa0 rfl rfl fo55_5) ?_
            refine J_q 66 rfl rfl rfl rfl (Q_ldBK (k := 1) (stL c.par) hS27 rfl rfl rfl Try.isAgg23 Try.sizeOf23 rfl rfl) ?_
            refine J_q 67 rfl rfl rfl rfl (Q_fa0 rfl rfl fo55_0) ?_
            refine J_q 68 rfl rfl rfl rfl (Q_ldBK (k := 1) (stL c.at_) hS27 rfl rfl rfl Try.isAgg23 Try.sizeOf23 rfl rfl) ?_
            refine J_call 69 rfl rfl rfl rfl (T_call rfl rfl rfl Try.call37) (RLess_calls _ c.par c.at_) ?_
            rintro _ w29 ⟨rfl, hk29⟩
            have hS29 := hS27.kp0 hk29
            refine ⟨_, rfl, ?_⟩
            refine J_q 70 rfl rfl rfl rfl (Q_pickT rfl rfl rfl) ?_
            refine J_q 71 rfl rfl rfl rfl (Q_move rfl rfl) ?_
            refine J_split 71 rfl (fun h30 => ?_) (fun h30 => ?_)
            · refine J_q 72 rfl rfl rfl rfl (Q_fa0 rfl rfl fo55_5) ?_
              refine J_q 73 rfl rfl rfl rfl (Q_ldBK (k := 1) (stL c.par) hS29 rfl rfl rfl Try.isAgg23 Try.sizeOf23 rfl rfl) ?_
              refine J_q 74 rfl rfl rfl rfl (Q_fa0 rfl rfl fo55_4) ?_
              refine J_q 75 rfl rfl rfl rfl (Q_ldBK (k := 1) (stL c.node) hS29 rfl rfl rfl Try.isAgg23 Try.sizeOf23 rfl rfl) ?_
              refine J_q 76 rfl rfl rfl rfl (Q_neqP rfl rfl rfl pe23) ?_
              refine J_q 77 rfl rfl rfl rfl (Q_pickT rfl rfl rfl) ?_
              refine J_q 4 rfl rfl rfl rfl (Q_assign rfl rfl) ?_
              refine J_nil (K_seq ?_)
              refine C_seq ?_
              refine C_region ?_
              refine J_q 78 rfl rfl rfl rfl (Q_move rfl rfl) ?_
              refine J_q 79 rfl rfl rfl rfl (Q_move rfl rfl) ?_
              refine J_splitN 79 rfl (fun h31 => ?_) (fun h31 => ?_)
              · refine J_q 80 rfl rfl rfl rfl (Q_fa0 rfl rfl fo55_6) ?_
                refine J_q 81 rfl rfl rfl rfl (Q_ldBK (k := 1) (stL c.aft) hS29 rfl rfl rfl Try.isAgg23 Try.sizeOf23 rfl rfl) ?_
                refine J_q 82 rfl rfl rfl rfl (Q_ldBK' (k := 2) ([.int .i64 0, .int .i64 0]) hS29 rfl rfl rfl Try.isAgg23 Try.sizeOf23 rfl rfl) ?_
                refine J_q 83 rfl rfl rfl rfl (Q_eqlP rfl rfl rfl pe23) ?_
                refine J_q 84 rfl rfl rfl rfl (Q_move rfl rfl) ?_
                refine J_split 84 rfl (fun h32 => ?_) (fun h32 => ?_)
                · refine J_no rfl rfl rfl ?_
                  refine J_no rfl rfl rfl ?_
                  refine J_no rfl rfl rfl ?_
                  refine J_no rfl rfl rfl ?_
                  refine J_no rfl rfl rfl ?_
                  refine J_q 90 rfl rfl rfl rfl (Q_pickT rfl rfl rfl) ?_
                  refine J_q 91 rfl rfl rfl rfl (Q_pickT rfl rfl rfl) ?_
                  refine J_q 2 rfl rfl rfl rfl (Q_assign rfl rfl) ?_
                  refine J_nil (K_seq ?_)
                  refine C_ret (body_ret (res1 rfl rfl) ?_)
                  exact ⟨congrArg Ending.returned (eqB (by first | rfl | (refine decide_eq_decide.2 ?_; grind) | (refine (decide_eq_true ?_).symm; grind) | (refine (decide_eq_false ?_).symm; grind))), hS29.kept (k := 0) rfl⟩
                · refine J_q 85 rfl rfl rfl rfl (Q_fa0 rfl rfl fo55_6) ?_
                  refine J_q 86 rfl rfl rfl rfl (Q_ldBK (k := 1) (stL c.aft) hS29 rfl rfl rfl Try.isAgg23 Try.sizeOf23 rfl rfl) ?_
                  refine J_q 87 rfl rfl rfl rfl (Q_fa0 rfl rfl fo55_0) ?_
                  refine J_q 88 rfl rfl rfl rfl (Q_ldBK (k := 1) (stL c.at_) hS29 rfl rfl rfl Try.isAgg23 Try.sizeOf23 rfl rfl) ?_
                  refine J_call 89 rfl rfl rfl rfl (T_call rfl rfl rfl Try.call131) (ahead_calls _ c.aft c.at_) ?_
                  rintro _ w33 ⟨rfl, hk33⟩
                  have hS33 := hS29.kp0 hk33
                  refine ⟨_, rfl, ?_⟩
                  refine J_q 90 rfl rfl rfl rfl (Q_pickF rfl rfl rfl) ?_
                  refine J_q 91 rfl rfl rfl rfl (Q_pickT rfl rfl rfl) ?_
                  refine J_q 2 rfl rfl rfl rfl (Q_assign rfl rfl) ?_
                  refine J_nil (K_seq ?_)
                  refine C_ret (body_ret (res1 rfl rfl) ?_)
                  exact ⟨congrArg Ending.returned (eqB (by first | rfl | (refine decide_eq_decide.2 ?_; grind) | (refine (decide_eq_true ?_).symm; grind) | (refine (decide_eq_false ?_).symm; grind))), hS33.kept (k := 0) rfl⟩
              · refine J_no rfl rfl rfl ?_
                refine J_no rfl rfl rfl ?_
                refine J_no rfl rfl rfl ?_
                refine J_no rfl rfl rfl ?_
                refine J_noU 84 rfl rfl rfl rfl ?_
                refine J_no rfl rfl rfl ?_
                refine J_no rfl rfl rfl ?_
                refine J_no rfl rfl rfl ?_
                refine J_no rfl rfl rfl ?_
                refine J_no rfl rfl rfl ?_
                refine J_no rfl rfl rfl ?_
                refine J_q 91 rfl rfl rfl rfl (Q_pickF rfl rfl rfl) ?_
                refine J_q 2 rfl rfl rfl rfl (Q_assign rfl rfl) ?_
                refine J_nil (K_seq ?_)
                refine C_ret (body_ret (res1 rfl rfl) ?_)
                exact ⟨congrArg Ending.returned (eqB (by first | rfl | (refine decide_eq_decide.2 ?_; grind) | (refine (decide_eq_true ?_).symm; grind) | (refine (decide_eq_false ?_).symm; grind))), hS29.kept (k := 0) rfl⟩
            · refine J_no rfl rfl rfl ?_
              refine J_no rfl rfl rfl ?_
              refine J_no rfl rfl rfl ?_
              refine J_no rfl rfl rfl ?_
              refine J_no rfl rfl rfl ?_
              refine J_q 77 rfl rfl rfl rfl (Q_pickF rfl rfl rfl) ?_
              refine J_q 4 rfl rfl rfl rfl (Q_assign rfl rfl) ?_
              refine J_nil (K_seq ?_)
              refine C_seq ?_
              refine C_region ?_
              refine J_q 78 rfl rfl rfl rfl (Q_move rfl rfl) ?_
              refine J_q 79 rfl rfl rfl rfl (Q_move rfl rfl) ?_
              refine J_no rfl rfl rfl ?_
              refine J_no rfl rfl rfl ?_
              refine J_no rfl rfl rfl ?_
              refine J_no rfl rfl rfl ?_
              refine J_noU 84 rfl rfl rfl rfl ?_
              refine J_no rfl rfl rfl ?_
              refine J_no rfl rfl rfl ?_
              refine J_no rfl rfl rfl ?_
              refine J_no rfl rfl rfl ?_
              refine J_no rfl rfl rfl ?_
              refine J_no rfl rfl rfl ?_
              refine J_q 91 rfl rfl rfl rfl (Q_pickF rfl rfl rfl) ?_
              refine J_q 2 rfl rfl rfl rfl (Q_assign rfl rfl) ?_
              refine J_nil (K_seq ?_)
              refine C_ret (body_ret (res1 rfl rfl) ?_)
              exact ⟨congrArg Ending.returned (eqB (by first | rfl | (refine decide_eq_decide.2 ?_; grind) | (refine (decide_eq_true ?_).symm; grind) | (refine (decide_eq_false ?_).symm; grind))), hS29.kept (k := 0) rfl⟩
          · refine J_no rfl rfl rfl ?_
            refine J_no rfl rfl rfl ?_
            refine J_no rfl rfl rfl ?_
            refine J_no rfl rfl rfl ?_
            refine J_no rfl rfl rfl ?_
            refine J_q 70 rfl rfl rfl rfl (Q_pickF rfl rfl rfl) ?_
            refine J_q 71 rfl rfl rfl rfl (Q_move rfl rfl) ?_
            refine J_no rfl rfl rfl ?_
            refine J_no rfl rfl rfl ?_
            refine J_no rfl rfl rfl ?_
            refine J_no rfl rfl rfl ?_
            refine J_no rfl rfl rfl ?_
            refine J_q 77 rfl rfl rfl rfl (Q_pickF rfl rfl rfl) ?_
            refine J_q 4 rfl rfl rfl rfl (Q_assign rfl rfl) ?_
            refine J_nil (K_seq ?_)
            refine C_seq ?_
            refine C_region ?_
            refine J_q 78 rfl rfl rfl rfl (Q_move rfl rfl) ?_
            refine J_q 79 rfl rfl rfl rfl (Q_move rfl rfl) ?_
            refine J_no rfl rfl rfl ?_
            refine J_no rfl rfl rfl ?_
            refine J_no rfl rfl rfl ?_
            refine J_no rfl rfl rfl ?_
            refine J_noU 84 rfl rfl rfl rfl ?_
            refine J_no rfl rfl rfl ?_
            refine J_no rfl rfl rfl ?_
            refine J_no rfl rfl rfl ?_
            refine J_no rfl rfl rfl ?_
            refine J_no rfl rfl rfl ?_
            refine J_no rfl rfl rfl ?_
            refine J_q 91 rfl rfl rfl rfl (Q_pickF rfl rfl rfl) ?_
            refine J_q 2 rfl rfl rfl rfl (Q_assign rfl rfl) ?_
            refine J_nil (K_seq ?_)
            refine C_ret (body_ret (res1 rfl rfl) ?_)
            exact ⟨congrArg Ending.returned (eqB (by first | rfl | (refine decide_eq_decide.2 ?_; grind) | (refine (decide_eq_true ?_).symm; grind) | (refine (decide_eq_false ?_).symm; grind))), hS27.kept (k := 0) rfl⟩
  · refine J_no rfl rfl rfl ?_
    refine J_no rfl rfl rfl ?_
    refine J_no rfl rfl rfl ?_
    refine J_no rfl rfl rfl ?_
    refine J_no rfl rfl rfl ?_
    refine J_q 15 rfl rfl rfl rfl (Q_pickF rfl rfl rfl) ?_
    refine J_q 16 rfl rfl rfl rfl (Q_move rfl rfl) ?_
    refine J_q 17 rfl rfl rfl rfl (Q_fa0 rfl rfl fo55_3) ?_
    refine J_q 18 rfl rfl rfl rfl (Q_ldB1 (k := 1) hS3 rfl rfl rfl Try.isAgg3 rfl) ?_
    refine J_q 19 rfl rfl rfl rfl (Q_eql rfl rfl rfl) ?_
    refine J_q 20 rfl rfl rfl rfl (Q_move rfl rfl) ?_
    refine J_split 20 rfl (fun h34 => ?_) (fun h34 => ?_)
    · refine J_q 21 rfl rfl rfl rfl (Q_fa0 rfl rfl fo55_4) ?_
      refine J_q 22 rfl rfl rfl rfl (Q_ldBK (k := 1) (stL c.node) hS3 rfl rfl rfl Try.isAgg23 Try.sizeOf23 rfl rfl) ?_
      refine J_q 23 rfl rfl rfl rfl (Q_fa0 rfl rfl fo55_0) ?_
      refine J_q 24 rfl rfl rfl rfl (Q_ldBK (k := 1) (stL c.at_) hS3 rfl rfl rfl Try.isAgg23 Try.sizeOf23 rfl rfl) ?_
      refine J_call 25 rfl rfl rfl rfl (T_call rfl rfl rfl Try.call131) (ahead_calls _ c.node c.at_) ?_
      rintro _ w35 ⟨rfl, hk35⟩
      have hS35 := hS3.kp0 hk35
      refine ⟨_, rfl, ?_⟩
      refine J_q 26 rfl rfl rfl rfl (Q_not rfl rfl) ?_
      refine J_q 27 rfl rfl rfl rfl (Q_pickT rfl rfl rfl) ?_
      refine J_q 28 rfl rfl rfl rfl (Q_pickF rfl rfl rfl) ?_
      refine J_q 29 rfl rfl rfl rfl (Q_move rfl rfl) ?_
      refine J_splitN 29 rfl (fun h36 => ?_) (fun h36 => ?_)
      · refine J_no rfl rfl rfl ?_
        refine J_no rfl rfl rfl ?_
        refine J_no rfl rfl rfl ?_
        refine J_noU 33 rfl rfl rfl rfl ?_
        refine J_no rfl rfl rfl ?_
        refine J_no rfl rfl rfl ?_
        refine J_no rfl rfl rfl ?_
        refine J_no rfl rfl rfl ?_
        refine J_no rfl rfl rfl ?_
        refine J_noU 39 rfl rfl rfl rfl ?_
        refine J_no rfl rfl rfl ?_
        refine J_no rfl rfl rfl ?_
        refine J_no rfl rfl rfl ?_
        refine J_no rfl rfl rfl ?_
        refine J_no rfl rfl rfl ?_
        refine J_no rfl rfl rfl ?_
        refine J_no rfl rfl rfl ?_
        refine J_q 47 rfl rfl rfl rfl (Q_pickT rfl rfl rfl) ?_
        refine J_nil (K_seq ?_)
        refine C_true rfl ?_
        refine C_seq ?_
        refine C_region ?_
        refine J_q 2 rfl rfl rfl rfl (Q_assign rfl rfl) ?_
        refine J_nil (K_seq ?_)
        refine C_ret (R_then (body_ret (res1 rfl rfl) ?_))
        exact ⟨congrArg Ending.returned (eqB (by first | rfl | (refine decide_eq_decide.2 ?_; grind) | (refine (decide_eq_true ?_).symm; grind) | (refine (decide_eq_false ?_).symm; grind))), hS35.kept (k := 0) rfl⟩
      · refine J_q 30 rfl rfl rfl rfl (Q_fa0 rfl rfl fo55_3) ?_
        refine J_q 31 rfl rfl rfl rfl (Q_ldB1 (k := 1) hS35 rfl rfl rfl Try.isAgg3 rfl) ?_
        refine J_q 32 rfl rfl rfl rfl (Q_gtr rfl rfl rfl) ?_
        refine J_q 33 rfl rfl rfl rfl (Q_move rfl rfl) ?_
        refine J_split 33 rfl (fun h37 => ?_) (fun h37 => ?_)
        · refine J_q 34 rfl rfl rfl rfl (Q_fa0 rfl rfl fo55_4) ?_
          refine J_q 35 rfl rfl rfl rfl (Q_ldBK (k := 1) (stL c.node) hS35 rfl rfl rfl Try.isAgg23 Try.sizeOf23 rfl rfl) ?_
          refine J_q 36 rfl rfl rfl rfl (Q_ldBK' (k := 2) ([.int .i64 0, .int .i64 0]) hS35 rfl rfl rfl Try.isAgg23 Try.sizeOf23 rfl rfl) ?_
          refine J_q 37 rfl rfl rfl rfl (Q_neqP rfl rfl rfl pe23) ?_
          refine J_q 38 rfl rfl rfl rfl (Q_pickT rfl rfl rfl) ?_
          refine J_q 39 rfl rfl rfl rfl (Q_move rfl rfl) ?_
          refine J_splitN 39 rfl (fun h38 => ?_) (fun h38 => ?_)
          · refine J_q 40 rfl rfl rfl rfl (Q_fa0 rfl rfl fo55_4) ?_
            refine J_q 41 rfl rfl rfl rfl (Q_ldBK (k := 1) (stL c.node) hS35 rfl rfl rfl Try.isAgg23 Try.sizeOf23 rfl rfl) ?_
            refine J_q 42 rfl rfl rfl rfl (Q_fa0 rfl rfl fo55_0) ?_
            refine J_q 43 rfl rfl rfl rfl (Q_ldBK (k := 1) (stL c.at_) hS35 rfl rfl rfl Try.isAgg23 Try.sizeOf23 rfl rfl) ?_
            refine J_call 44 rfl rfl rfl rfl (T_call rfl rfl rfl Try.call131) (ahead_calls _ c.node c.at_) ?_
            rintro _ w39 ⟨rfl, hk39⟩
            have hS39 := hS35.kp0 hk39
            refine ⟨_, rfl, ?_⟩
            refine J_q 45 rfl rfl rfl rfl (Q_not rfl rfl) ?_
            refine J_q 46 rfl rfl rfl rfl (Q_pickT rfl rfl rfl) ?_
            refine J_q 47 rfl rfl rfl rfl (Q_pickF rfl rfl rfl) ?_
            refine J_nil (K_seq ?_)
            refine C_ifNF rfl h36 ?_
            refine C_skip (K_seq ?_)
            refine C_seq ?_
            refine C_seq ?_
            refine C_region ?_
            refine J_q 48 rfl rfl rfl rfl (Q_fa0 rfl rfl fo55_3) ?_
            refine J_q 49 rfl rfl rfl rfl (Q_ldB1 (k := 1) hS39 rfl rfl rfl Try.isAgg3 rfl) ?_
            refine J_q 50 rfl rfl rfl rfl (Q_gtr rfl rfl rfl) ?_
            refine J_nil (K_seq ?_)
            refine C_ifT rfl h37 ?_
            refine C_seq ?_
            refine C_region ?_
            refine J_q 51 rfl rfl rfl rfl (Q_fa0 rfl rfl fo55_5) ?_
            refine J_q 52 rfl rfl rfl rfl (Q_ldBK (k := 1) (stL c.par) hS39 rfl rfl rfl Try.isAgg23 Try.sizeOf23 rfl rfl) ?_
            refine J_q 53 rfl rfl rfl rfl (Q_ldBK' (k := 2) ([.int .i64 0, .int .i64 0]) hS39 rfl rfl rfl Try.isAgg23 Try.sizeOf23 rfl rfl) ?_
            refine J_q 54 rfl rfl rfl rfl (Q_eqlP rfl rfl rfl pe23) ?_
            refine J_q 55 rfl rfl rfl rfl (Q_move rfl rfl) ?_
            refine J_split 55 rfl (fun h40 => ?_) (fun h40 => ?_)
            · refine J_q 56 rfl rfl rfl rfl (Q_fa0 rfl rfl fo55_6) ?_
              refine J_q 57 rfl rfl rfl rfl (Q_ldBK (k := 1) (stL c.aft) hS39 rfl rfl rfl Try.isAgg23 Try.sizeOf23 rfl rfl) ?_
              refine J_q 58 rfl rfl rfl rfl (Q_ldBK' (k := 2) ([.int .i64 0, .int .i64 0]) hS39 rfl rfl rfl Try.isAgg23 Try.sizeOf23 rfl rfl) ?_
              refine J_q 59 rfl rfl rfl rfl (Q_eqlP rfl rfl rfl pe23) ?_
              refine J_q 60 rfl rfl rfl rfl (Q_pickT rfl rfl rfl) ?_
              refine J_q 2 rfl rfl rfl rfl (Q_assign rfl rfl) ?_
              refine J_nil (K_seq ?_)
              refine C_ret (R_then (body_ret (res1 rfl rfl) ?_))
              exact ⟨congrArg Ending.returned (eqB (by first | rfl | (refine decide_eq_decide.2 ?_; grind) | (refine (decide_eq_true ?_).symm; grind) | (refine (decide_eq_false ?_).symm; grind))), hS39.kept (k := 0) rfl⟩
            · refine J_no rfl rfl rfl ?_
              refine J_no rfl rfl rfl ?_
              refine J_no rfl rfl rfl ?_
              refine J_no rfl rfl rfl ?_
              refine J_q 60 rfl rfl rfl rfl (Q_pickF rfl rfl rfl) ?_
              refine J_q 2 rfl rfl rfl rfl (Q_assign rfl rfl) ?_
              refine J_nil (K_seq ?_)
              refine C_ret (R_then (body_ret (res1 rfl rfl) ?_))
              exact ⟨congrArg Ending.returned (eqB (by first | rfl | (refine decide_eq_decide.2 ?_; grind) | (refine (decide_eq_true ?_).symm; grind) | (refine (decide_eq_false ?_).symm; grind))), hS39.kept (k := 0) rfl⟩
          · refine J_no rfl rfl rfl ?_
            refine J_no rfl rfl rfl ?_
            refine J_no rfl rfl rfl ?_
            refine J_no rfl rfl rfl ?_
            refine J_no rfl rfl rfl ?_
            refine J_no rfl rfl rfl ?_
            refine J_q 46 rfl rfl rfl rfl (Q_pickF rfl rfl rfl) ?_
            refine J_q 47 rfl rfl rfl rfl (Q_pickF rfl rfl rfl) ?_
            refine J_nil (K_seq ?_)
            refine C_false rfl ?_
            refine C_skip (K_seq ?_)
            refine C_seq ?_
            refine C_seq ?_
            refine C_region ?_
            refine J_q 48 rfl rfl rfl rfl (Q_fa0 rfl rfl fo55_3) ?_
            refine J_q 49 rfl rfl rfl rfl (Q_ldB1 (k := 1) hS35 rfl rfl rfl Try.isAgg3 rfl) ?_
            refine J_q 50 rfl rfl rfl rfl (Q_gtr rfl rfl rfl) ?_
            refine J_nil (K_seq ?_)
            refine C_ifT rfl h37 ?_
            refine C_seq ?_
            refine C_region ?_
            refine J_q 51 rfl rfl rfl rfl (Q_fa0 rfl rfl fo55_5) ?_
            refine J_q 52 rfl rfl rfl rfl (Q_ldBK (k := 1) (stL c.par) hS35 rfl rfl rfl Try.isAgg23 Try.sizeOf23 rfl rfl) ?_
            refine J_q 53 rfl rfl rfl rfl (Q_ldBK' (k := 2) ([.int .i64 0, .int .i64 0]) hS35 rfl rfl rfl Try.isAgg23 Try.sizeOf23 rfl rfl) ?_
            refine J_q 54 rfl rfl rfl rfl (Q_eqlP rfl rfl rfl pe23) ?_
            refine J_q 55 rfl rfl rfl rfl (Q_move rfl rfl) ?_
            refine J_split 55 rfl (fun h41 => ?_) (fun h41 => ?_)
            · refine J_q 56 rfl rfl rfl rfl (Q_fa0 rfl rfl fo55_6) ?_
              refine J_q 57 rfl rfl rfl rfl (Q_ldBK (k := 1) (stL c.aft) hS35 rfl rfl rfl Try.isAgg23 Try.sizeOf23 rfl rfl) ?_
              refine J_q 58 rfl rfl rfl rfl (Q_ldBK' (k := 2) ([.int .i64 0, .int .i64 0]) hS35 rfl rfl rfl Try.isAgg23 Try.sizeOf23 rfl rfl) ?_
              refine J_q 59 rfl rfl rfl rfl (Q_eqlP rfl rfl rfl pe23) ?_
              refine J_q 60 rfl rfl rfl rfl (Q_pickT rfl rfl rfl) ?_
              refine J_q 2 rfl rfl rfl rfl (Q_assign rfl rfl) ?_
              refine J_nil (K_seq ?_)
              refine C_ret (R_then (body_ret (res1 rfl rfl) ?_))
              exact ⟨congrArg Ending.returned (eqB (by first | rfl | (refine decide_eq_decide.2 ?_; grind) | (refine (decide_eq_true ?_).symm; grind) | (refine (decide_eq_false ?_).symm; grind))), hS35.kept (k := 0) rfl⟩
            · refine J_no rfl rfl rfl ?_
              refine J_no rfl rfl rfl ?_
              refine J_no rfl rfl rfl ?_
              refine J_no rfl rfl rfl ?_
              refine J_q 60 rfl rfl rfl rfl (Q_pickF rfl rfl rfl) ?_
              refine J_q 2 rfl rfl rfl rfl (Q_assign rfl rfl) ?_
              refine J_nil (K_seq ?_)
              refine C_ret (R_then (body_ret (res1 rfl rfl) ?_))
              exact ⟨congrArg Ending.returned (eqB (by first | rfl | (refine decide_eq_decide.2 ?_; grind) | (refine (decide_eq_true ?_).symm; grind) | (refine (decide_eq_false ?_).symm; grind))), hS35.kept (k := 0) rfl⟩
        · refine J_no rfl rfl rfl ?_
          refine J_no rfl rfl rfl ?_
          refine J_no rfl rfl rfl ?_
          refine J_no rfl rfl rfl ?_
          refine J_q 38 rfl rfl rfl rfl (Q_pickF rfl rfl rfl) ?_
          refine J_q 39 rfl rfl rfl rfl (Q_move rfl rfl) ?_
          refine J_no rfl rfl rfl ?_
          refine J_no rfl rfl rfl ?_
          refine J_no rfl rfl rfl ?_
          refine J_no rfl rfl rfl ?_
          refine J_no rfl rfl rfl ?_
          refine J_no rfl rfl rfl ?_
          refine J_q 46 rfl rfl rfl rfl (Q_pickF rfl rfl rfl) ?_
          refine J_q 47 rfl rfl rfl rfl (Q_pickF rfl rfl rfl) ?_
          refine J_nil (K_seq ?_)
          refine C_false rfl ?_
          refine C_skip (K_seq ?_)
          refine C_seq ?_
          refine C_seq ?_
          refine C_region ?_
          refine J_q 48 rfl rfl rfl rfl (Q_fa0 rfl rfl fo55_3) ?_
          refine J_q 49 rfl rfl rfl rfl (Q_ldB1 (k := 1) hS35 rfl rfl rfl Try.isAgg3 rfl) ?_
          refine J_q 50 rfl rfl rfl rfl (Q_gtr rfl rfl rfl) ?_
          refine J_nil (K_seq ?_)
          refine C_ifF rfl h37 ?_
          refine C_skip (K_seq ?_)
          refine C_seq ?_
          refine C_region ?_
          refine J_q 61 rfl rfl rfl rfl (Q_fa0 rfl rfl fo55_5) ?_
          refine J_q 62 rfl rfl rfl rfl (Q_ldBK (k := 1) (stL c.par) hS35 rfl rfl rfl Try.isAgg23 Try.sizeOf23 rfl rfl) ?_
          refine J_call 63 rfl rfl rfl rfl (T_call rfl rfl rfl Try.call132) (RNode_calls _ c.par) ?_
          rintro _ w42 ⟨rfl, hk42⟩
          have hS42 := hS35.kp0 hk42
          refine ⟨_, rfl, ?_⟩
          refine J_q 64 rfl rfl rfl rfl (Q_move rfl rfl) ?_
          refine J_split 64 rfl (fun h43 => ?_) (fun h43 => ?_)
          · refine J_q 65 rfl rfl rfl rfl (Q_fa0 rfl rfl fo55_5) ?_
            refine J_q 66 rfl rfl rfl rfl (Q_ldBK (k := 1) (stL c.par) hS42 rfl rfl rfl Try.isAgg23 Try.sizeOf23 rfl rfl) ?_
            refine J_q 67 rfl rfl rfl rfl (Q_fa0 rfl rfl fo55_0) ?_
            refine J_q 68 rfl rfl rfl rfl (Q_ldBK (k := 1) (stL c.at_) hS42 rfl rfl rfl Try.isAgg23 Try.sizeOf23 rfl rfl) ?_
            refine J_call 69 rfl rfl rfl rfl (T_call rfl rfl rfl Try.call37) (RLess_calls _ c.par c.at_) ?_
            rintro _ w44 ⟨rfl, hk44⟩
            have hS44 := hS42.kp0 hk44
            refine ⟨_, rfl, ?_⟩
            refine J_q 70 rfl rfl rfl rfl (Q_pickT rfl rfl rfl) ?_
            refine J_q 71 rfl rfl rfl rfl (Q_move rfl rfl) ?_
            refine J_split 71 rfl (fun h45 => ?_) (fun h45 => ?_)
            · refine J_q 72 rfl rfl rfl rfl (Q_fa0 rfl rfl fo55_5) ?_
              refine J_q 73 rfl rfl rfl rfl (Q_ldBK (k := 1) (stL c.par) hS44 rfl rfl rfl Try.isAgg23 Try.sizeOf23 rfl rfl) ?_
              refine J_q 74 rfl rfl rfl rfl (Q_fa0 rfl rfl fo55_4) ?_
              refine J_q 75 rfl rfl rfl rfl (Q_ldBK (k := 1) (stL c.node) hS44 rfl rfl rfl Try.isAgg23 Try.sizeOf23 rfl rfl) ?_
              refine J_q 76 rfl rfl rfl rfl (Q_neqP rfl rfl rfl pe23) ?_
              refine J_q 77 rfl rfl rfl rfl (Q_pickT rfl rfl rfl) ?_
              refine J_q 4 rfl rfl rfl rfl (Q_assign rfl rfl) ?_
              refine J_nil (K_seq ?_)
              refine C_seq ?_
              refine C_region ?_
              refine J_q 78 rfl rfl rfl rfl (Q_move rfl rfl) ?_
              refine J_q 79 rfl rfl rfl rfl (Q_move rfl rfl) ?_
              refine J_splitN 79 rfl (fun h46 => ?_) (fun h46 => ?_)
              · refine J_q 80 rfl rfl rfl rfl (Q_fa0 rfl rfl fo55_6) ?_
                refine J_q 81 rfl rfl rfl rfl (Q_ldBK (k := 1) (stL c.aft) hS44 rfl rfl rfl Try.isAgg23 Try.sizeOf23 rfl rfl) ?_
                refine J_q 82 rfl rfl rfl rfl (Q_ldBK' (k := 2) ([.int .i64 0, .int .i64 0]) hS44 rfl rfl rfl Try.isAgg23 Try.sizeOf23 rfl rfl) ?_
                refine J_q 83 rfl rfl rfl rfl (Q_eqlP rfl rfl rfl pe23) ?_
                refine J_q 84 rfl rfl rfl rfl (Q_move rfl rfl) ?_
                refine J_split 84 rfl (fun h47 => ?_) (fun h47 => ?_)
                · refine J_no rfl rfl rfl ?_
                  refine J_no rfl rfl rfl ?_
                  refine J_no rfl rfl rfl ?_
                  refine J_no rfl rfl rfl ?_
                  refine J_no rfl rfl rfl ?_
                  refine J_q 90 rfl rfl rfl rfl (Q_pickT rfl rfl rfl) ?_
                  refine J_q 91 rfl rfl rfl rfl (Q_pickT rfl rfl rfl) ?_
                  refine J_q 2 rfl rfl rfl rfl (Q_assign rfl rfl) ?_
                  refine J_nil (K_seq ?_)
                  refine C_ret (body_ret (res1 rfl rfl) ?_)
                  exact ⟨congrArg Ending.returned (eqB (by first | rfl | (refine decide_eq_decide.2 ?_; grind) | (refine (decide_eq_true ?_).symm; grind) | (refine (decide_eq_false ?_).symm; grind))), hS44.kept (k := 0) rfl⟩
                · refine J_q 85 rfl rfl rfl rfl (Q_fa0 rfl rfl fo55_6) ?_
                  refine J_q 86 rfl rfl rfl rfl (Q_ldBK (k := 1) (stL c.aft) hS44 rfl rfl rfl Try.isAgg23 Try.sizeOf23 rfl rfl) ?_
                  refine J_q 87 rfl rfl rfl rfl (Q_fa0 rfl rfl fo55_0) ?_
                  refine J_q 88 rfl rfl rfl rfl (Q_ldBK (k := 1) (stL c.at_) hS44 rfl rfl rfl Try.isAgg23 Try.sizeOf23 rfl rfl) ?_
                  refine J_call 89 rfl rfl rfl rfl (T_call rfl rfl rfl Try.call131) (ahead_calls _ c.aft c.at_) ?_
                  rintro _ w48 ⟨rfl, hk48⟩
                  have hS48 := hS44.kp0 hk48
                  refine ⟨_, rfl, ?_⟩
                  refine J_q 90 rfl rfl rfl rfl (Q_pickF rfl rfl rfl) ?_
                  refine J_q 91 rfl rfl rfl rfl (Q_pickT rfl rfl rfl) ?_
                  refine J_q 2 rfl rfl rfl rfl (Q_assign rfl rfl) ?_
                  refine J_nil (K_seq ?_)
                  refine C_ret (body_ret (res1 rfl rfl) ?_)
                  exact ⟨congrArg Ending.returned (eqB (by first | rfl | (refine decide_eq_decide.2 ?_; grind) | (refine (decide_eq_true ?_).symm; grind) | (refine (decide_eq_false ?_).symm; grind))), hS48.kept (k := 0) rfl⟩
              · refine J_no rfl rfl rfl ?_
                refine J_no rfl rfl rfl ?_
                refine J_no rfl rfl rfl ?_
                refine J_no rfl rfl rfl ?_
                refine J_noU 84 rfl rfl rfl rfl ?_
                refine J_no rfl rfl rfl ?_
                refine J_no rfl rfl rfl ?_
                refine J_no rfl rfl rfl ?_
                refine J_no rfl rfl rfl ?_
                refine J_no rfl rfl rfl ?_
                refine J_no rfl rfl rfl ?_
                refine J_q 91 rfl rfl rfl rfl (Q_pickF rfl rfl rfl) ?_
                refine J_q 2 rfl rfl rfl rfl (Q_assign rfl rfl) ?_
                refine J_nil (K_seq ?_)
                refine C_ret (body_ret (res1 rfl rfl) ?_)
                exact ⟨congrArg Ending.returned (eqB (by first | rfl | (refine decide_eq_decide.2 ?_; grind) | (refine (decide_eq_true ?_).symm; grind) | (refine (decide_eq_false ?_).symm; grind))), hS44.kept (k := 0) rfl⟩
            · refine J_no rfl rfl rfl ?_
              refine J_no rfl rfl rfl ?_
              refine J_no rfl rfl rfl ?_
              refine J_no rfl rfl rfl ?_
              refine J_no rfl rfl rfl ?_
              refine J_q 77 rfl rfl rfl rfl (Q_pickF rfl rfl rfl) ?_
              refine J_q 4 rfl rfl rfl rfl (Q_assign rfl rfl) ?_
              refine J_nil (K_seq ?_)
              refine C_seq ?_
              refine C_region ?_
              refine J_q 78 rfl rfl rfl rfl (Q_move rfl rfl) ?_
              refine J_q 79 rfl rfl rfl rfl (Q_move rfl rfl) ?_
              refine J_no rfl rfl rfl ?_
              refine J_no rfl rfl rfl ?_
              refine J_no rfl rfl rfl ?_
              refine J_no rfl rfl rfl ?_
              refine J_noU 84 rfl rfl rfl rfl ?_
              refine J_no rfl rfl rfl ?_
              refine J_no rfl rfl rfl ?_
              refine J_no rfl rfl rfl ?_
              refine J_no rfl rfl rfl ?_
              refine J_no rfl rfl rfl ?_
              refine J_no rfl rfl rfl ?_
              refine J_q 91 rfl rfl rfl rfl (Q_pickF rfl rfl rfl) ?_
              refine J_q 2 rfl rfl rfl rfl (Q_assign rfl rfl) ?_
              refine J_nil (K_seq ?_)
              refine C_ret (body_ret (res1 rfl rfl) ?_)
              exact ⟨congrArg Ending.returned (eqB (by first | rfl | (refine decide_eq_decide.2 ?_; grind) | (refine (decide_eq_true ?_).symm; grind) | (refine (decide_eq_false ?_).symm; grind))), hS44.kept (k := 0) rfl⟩
          · refine J_no rfl rfl rfl ?_
            refine J_no rfl rfl rfl ?_
            refine J_no rfl rfl rfl ?_
            refine J_no rfl rfl rfl ?_
            refine J_no rfl rfl rfl ?_
            refine J_q 70 rfl rfl rfl rfl (Q_pickF rfl rfl rfl) ?_
            refine J_q 71 rfl rfl rfl rfl (Q_move rfl rfl) ?_
            refine J_no rfl rfl rfl ?_
            refine J_no rfl rfl rfl ?_
            refine J_no rfl rfl rfl ?_
            refine J_no rfl rfl rfl ?_
            refine J_no rfl rfl rfl ?_
            refine J_q 77 rfl rfl rfl rfl (Q_pickF rfl rfl rfl) ?_
            refine J_q 4 rfl rfl rfl rfl (Q_assign rfl rfl) ?_
            refine J_nil (K_seq ?_)
            refine C_seq ?_
            refine C_region ?_
            refine J_q 78 rfl rfl rfl rfl (Q_move rfl rfl) ?_
            refine J_q 79 rfl rfl rfl rfl (Q_move rfl rfl) ?_
            refine J_no rfl rfl rfl ?_
            refine J_no rfl rfl rfl ?_
            refine J_no rfl rfl rfl ?_
            refine J_no rfl rfl rfl ?_
            refine J_noU 84 rfl rfl rfl rfl ?_
            refine J_no rfl rfl rfl ?_
            refine J_no rfl rfl rfl ?_
            refine J_no rfl rfl rfl ?_
            refine J_no rfl rfl rfl ?_
            refine J_no rfl rfl rfl ?_
            refine J_no rfl rfl rfl ?_
            refine J_q 91 rfl rfl rfl rfl (Q_pickF rfl rfl rfl) ?_
            refine J_q 2 rfl rfl rfl rfl (Q_assign rfl rfl) ?_
            refine J_nil (K_seq ?_)
            refine C_ret (body_ret (res1 rfl rfl) ?_)
            exact ⟨congrArg Ending.returned (eqB (by first | rfl | (refine decide_eq_decide.2 ?_; grind) | (refine (decide_eq_true ?_).symm; grind) | (refine (decide_eq_false ?_).symm; grind))), hS42.kept (k := 0) rfl⟩
    · refine J_no rfl rfl rfl ?_
      refine J_no rfl rfl rfl ?_
      refine J_no rfl rfl rfl ?_
      refine J_no rfl rfl rfl ?_
      refine J_no rfl rfl rfl ?_
      refine J_no rfl rfl rfl ?_
      refine J_q 27 rfl rfl rfl rfl (Q_pickF rfl rfl rfl) ?_
      refine J_q 28 rfl rfl rfl rfl (Q_pickF rfl rfl rfl) ?_
      refine J_q 29 rfl rfl rfl rfl (Q_move rfl rfl) ?_
      refine J_q 30 rfl rfl rfl rfl (Q_fa0 rfl rfl fo55_3) ?_
      refine J_q 31 rfl rfl rfl rfl (Q_ldB1 (k := 1) hS3 rfl rfl rfl Try.isAgg3 rfl) ?_
      refine J_q 32 rfl rfl rfl rfl (Q_gtr rfl rfl rfl) ?_
      refine J_q 33 rfl rfl rfl rfl (Q_move rfl rfl) ?_
      refine J_split 33 rfl (fun h49 => ?_) (fun h49 => ?_)
      · refine J_q 34 rfl rfl rfl rfl (Q_fa0 rfl rfl fo55_4) ?_
        refine J_q 35 rfl rfl rfl rfl (Q_ldBK (k := 1) (stL c.node) hS3 rfl rfl rfl Try.isAgg23 Try.sizeOf23 rfl rfl) ?_
        refine J_q 36 rfl rfl rfl rfl (Q_ldBK' (k := 2) ([.int .i64 0, .int .i64 0]) hS3 rfl rfl rfl Try.isAgg23 Try.sizeOf23 rfl rfl) ?_
        refine J_q 37 rfl rfl rfl rfl (Q_neqP rfl rfl rfl pe23) ?_
        refine J_q 38 rfl rfl rfl rfl (Q_pickT rfl rfl rfl) ?_
        refine J_q 39 rfl rfl rfl rfl (Q_move rfl rfl) ?_
        refine J_splitN 39 rfl (fun h50 => ?_) (fun h50 => ?_)
        · refine J_q 40 rfl rfl rfl rfl (Q_fa0 rfl rfl fo55_4) ?_
          refine J_q 41 rfl rfl rfl rfl (Q_ldBK (k := 1) (stL c.node) hS3 rfl rfl rfl Try.isAgg23 Try.sizeOf23 rfl rfl) ?_
          refine J_q 42 rfl rfl rfl rfl (Q_fa0 rfl rfl fo55_0) ?_
          refine J_q 43 rfl rfl rfl rfl (Q_ldBK (k := 1) (stL c.at_) hS3 rfl rfl rfl Try.isAgg23 Try.sizeOf23 rfl rfl) ?_
          refine J_call 44 rfl rfl rfl rfl (T_call rfl rfl rfl Try.call131) (ahead_calls _ c.node c.at_) ?_
          rintro _ w51 ⟨rfl, hk51⟩
          have hS51 := hS3.kp0 hk51
          refine ⟨_, rfl, ?_⟩
          refine J_q 45 rfl rfl rfl rfl (Q_not rfl rfl) ?_
          refine J_q 46 rfl rfl rfl rfl (Q_pickT rfl rfl rfl) ?_
          refine J_q 47 rfl rfl rfl rfl (Q_pickF rfl rfl rfl) ?_
          refine J_nil (K_seq ?_)
          refine C_ifN rfl (fun h52 => ?_) (fun h52 => ?_)
          · refine C_seq ?_
            refine C_region ?_
            refine J_q 2 rfl rfl rfl rfl (Q_assign rfl rfl) ?_
            refine J_nil (K_seq ?_)
            refine C_ret (R_then (body_ret (res1 rfl rfl) ?_))
            exact ⟨congrArg Ending.returned (eqB (by first | rfl | (refine decide_eq_decide.2 ?_; grind) | (refine (decide_eq_true ?_).symm; grind) | (refine (decide_eq_false ?_).symm; grind))), hS51.kept (k := 0) rfl⟩
          · refine C_skip (K_seq ?_)
            refine C_seq ?_
            refine C_seq ?_
            refine C_region ?_
            refine J_q 48 rfl rfl rfl rfl (Q_fa0 rfl rfl fo55_3) ?_
            refine J_q 49 rfl rfl rfl rfl (Q_ldB1 (k := 1) hS51 rfl rfl rfl Try.isAgg3 rfl) ?_
            refine J_q 50 rfl rfl rfl rfl (Q_gtr rfl rfl rfl) ?_
            refine J_nil (K_seq ?_)
            refine C_ifT rfl h49 ?_
            refine C_seq ?_
            refine C_region ?_
            refine J_q 51 rfl rfl rfl rfl (Q_fa0 rfl rfl fo55_5) ?_
            refine J_q 52 rfl rfl rfl rfl (Q_ldBK (k := 1) (stL c.par) hS51 rfl rfl rfl Try.isAgg23 Try.sizeOf23 rfl rfl) ?_
            refine J_q 53 rfl rfl rfl rfl (Q_ldBK' (k := 2) ([.int .i64 0, .int .i64 0]) hS51 rfl rfl rfl Try.isAgg23 Try.sizeOf23 rfl rfl) ?_
            refine J_q 54 rfl rfl rfl rfl (Q_eqlP rfl rfl rfl pe23) ?_
            refine J_q 55 rfl rfl rfl rfl (Q_move rfl rfl) ?_
            refine J_split 55 rfl (fun h53 => ?_) (fun h53 => ?_)
            · refine J_q 56 rfl rfl rfl rfl (Q_fa0 rfl rfl fo55_6) ?_
              refine J_q 57 rfl rfl rfl rfl (Q_ldBK (k := 1) (stL c.aft) hS51 rfl rfl rfl Try.isAgg23 Try.sizeOf23 rfl rfl) ?_
              refine J_q 58 rfl rfl rfl rfl (Q_ldBK' (k := 2) ([.int .i64 0, .int .i64 0]) hS51 rfl rfl rfl Try.isAgg23 Try.sizeOf23 rfl rfl) ?_
              refine J_q 59 rfl rfl rfl rfl (Q_eqlP rfl rfl rfl pe23) ?_
              refine J_q 60 rfl rfl rfl rfl (Q_pickT rfl rfl rfl) ?_
              refine J_q 2 rfl rfl rfl rfl (Q_assign rfl rfl) ?_
              refine J_nil (K_seq ?_)
              refine C_ret (R_then (body_ret (res1 rfl rfl) ?_))
              exact ⟨congrArg Ending.returned (eqB (by first | rfl | (refine decide_eq_decide.2 ?_; grind) | (refine (decide_eq_true ?_).symm; grind) | (refine (decide_eq_false ?_).symm; grind))), hS51.kept (k := 0) rfl⟩
            · refine J_no rfl rfl rfl ?_
              refine J_no rfl rfl rfl ?_
              refine J_no rfl rfl rfl ?_
              refine J_no rfl rfl rfl ?_
              refine J_q 60 rfl rfl rfl rfl (Q_pickF rfl rfl rfl) ?_
              refine J_q 2 rfl rfl rfl rfl (Q_assign rfl rfl) ?_
              refine J_nil (K_seq ?_)
              refine C_ret (R_then (body_ret (res1 rfl rfl) ?_))
              exact ⟨congrArg Ending.returned (eqB (by first | rfl | (refine decide_eq_decide.2 ?_; grind) | (refine (decide_eq_true ?_).symm; grind) | (refine (decide_eq_false ?_).symm; grind))), hS51.kept (k := 0) rfl⟩
        · refine J_no rfl rfl rfl ?_
          refine J_no rfl rfl rfl ?_
          refine J_no rfl rfl rfl ?_
          refine J_no rfl rfl rfl ?_
          refine J_no rfl rfl rfl ?_
          refine J_no rfl rfl rfl ?_
          refine J_q 46 rfl rfl rfl rfl (Q_pickF rfl rfl rfl) ?_
          refine J_q 47 rfl rfl rfl rfl (Q_pickF rfl rfl rfl) ?_
          refine J_nil (K_seq ?_)
          refine C_false rfl ?_
          refine C_skip (K_seq ?_)
          refine C_seq ?_
          refine C_seq ?_
          refine C_region ?_
          refine J_q 48 rfl rfl rfl rfl (Q_fa0 rfl rfl fo55_3) ?_
          refine J_q 49 rfl rfl rfl rfl (Q_ldB1 (k := 1) hS3 rfl rfl rfl Try.isAgg3 rfl) ?_
          refine J_q 50 rfl rfl rfl rfl (Q_gtr rfl rfl rfl) ?_
          refine J_nil (K_seq ?_)
          refine C_ifT rfl h49 ?_
          refine C_seq ?_
          refine C_region ?_
          refine J_q 51 rfl rfl rfl rfl (Q_fa0 rfl rfl fo55_5) ?_
          refine J_q 52 rfl rfl rfl rfl (Q_ldBK (k := 1) (stL c.par) hS3 rfl rfl rfl Try.isAgg23 Try.sizeOf23 rfl rfl) ?_
          refine J_q 53 rfl rfl rfl rfl (Q_ldBK' (k := 2) ([.int .i64 0, .int .i64 0]) hS3 rfl rfl rfl Try.isAgg23 Try.sizeOf23 rfl rfl) ?_
          refine J_q 54 rfl rfl rfl rfl (Q_eqlP rfl rfl rfl pe23) ?_
          refine J_q 55 rfl rfl rfl rfl (Q_move rfl rfl) ?_
          refine J_split 55 rfl (fun h54 => ?_) (fun h54 => ?_)
          · refine J_q 56 rfl rfl rfl rfl (Q_fa0 rfl rfl fo55_6) ?_
            refine J_q 57 rfl rfl rfl rfl (Q_ldBK (k := 1) (stL c.aft) hS3 rfl rfl rfl Try.isAgg23 Try.sizeOf23 rfl rfl) ?_
            refine J_q 58 rfl rfl rfl rfl (Q_ldBK' (k := 2) ([.int .i64 0, .int .i64 0]) hS3 rfl rfl rfl Try.isAgg23 Try.sizeOf23 rfl rfl) ?_
            refine J_q 59 rfl rfl rfl rfl (Q_eqlP rfl rfl rfl pe23) ?_
            refine J_q 60 rfl rfl rfl rfl (Q_pickT rfl rfl rfl) ?_
            refine J_q 2 rfl rfl rfl rfl (Q_assign rfl rfl) ?_
            refine J_nil (K_seq ?_)
            refine C_ret (R_then (body_ret (res1 rfl rfl) ?_))
            exact ⟨congrArg Ending.returned (eqB (by first | rfl | (refine decide_eq_decide.2 ?_; grind) | (refine (decide_eq_true ?_).symm; grind) | (refine (decide_eq_false ?_).symm; grind))), hS3.kept (k := 0) rfl⟩
          · refine J_no rfl rfl rfl ?_
            refine J_no rfl rfl rfl ?_
            refine J_no rfl rfl rfl ?_
            refine J_no rfl rfl rfl ?_
            refine J_q 60 rfl rfl rfl rfl (Q_pickF rfl rfl rfl) ?_
            refine J_q 2 rfl rfl rfl rfl (Q_assign rfl rfl) ?_
            refine J_nil (K_seq ?_)
            refine C_ret (R_then (body_ret (res1 rfl rfl) ?_))
            exact ⟨congrArg Ending.returned (eqB (by first | rfl | (refine decide_eq_decide.2 ?_; grind) | (refine (decide_eq_true ?_).symm; grind) | (refine (decide_eq_false ?_).symm; grind))), hS3.kept (k := 0) rfl⟩
      · refine J_no rfl rfl rfl ?_
        refine J_no rfl rfl rfl ?_
        refine J_no rfl rfl rfl ?_
        refine J_no rfl rfl rfl ?_
        refine J_q 38 rfl rfl rfl rfl (Q_pickF rfl rfl rfl) ?_
        refine J_q 39 rfl rfl rfl rfl (Q_move rfl rfl) ?_
        refine J_no rfl rfl rfl ?_
        refine J_no rfl rfl rfl ?_
        refine J_no rfl rfl rfl ?_
        refine J_no rfl rfl rfl ?_
        refine J_no rfl rfl rfl ?_
        refine J_no rfl rfl rfl ?_
        refine J_q 46 rfl rfl rfl rfl (Q_pickF rfl rfl rfl) ?_
        refine J_q 47 rfl rfl rfl rfl (Q_pickF rfl rfl rfl) ?_
        refine J_nil (K_seq ?_)
        refine C_false rfl ?_
        refine C_skip (K_seq ?_)
        refine C_seq ?_
        refine C_seq ?_
        refine C_region ?_
        refine J_q 48 rfl rfl rfl rfl (Q_fa0 rfl rfl fo55_3) ?_
        refine J_q 49 rfl rfl rfl rfl (Q_ldB1 (k := 1) hS3 rfl rfl rfl Try.isAgg3 rfl) ?_
        refine J_q 50 rfl rfl rfl rfl (Q_gtr rfl rfl rfl) ?_
        refine J_nil (K_seq ?_)
        refine C_ifF rfl h49 ?_
        refine C_skip (K_seq ?_)
        refine C_seq ?_
        refine C_region ?_
        refine J_q 61 rfl rfl rfl rfl (Q_fa0 rfl rfl fo55_5) ?_
        refine J_q 62 rfl rfl rfl rfl (Q_ldBK (k := 1) (stL c.par) hS3 rfl rfl rfl Try.isAgg23 Try.sizeOf23 rfl rfl) ?_
        refine J_call 63 rfl rfl rfl rfl (T_call rfl rfl rfl Try.call132) (RNode_calls _ c.par) ?_
        rintro _ w55 ⟨rfl, hk55⟩
        have hS55 := hS3.kp0 hk55
        refine ⟨_, rfl, ?_⟩
        refine J_q 64 rfl rfl rfl rfl (Q_move rfl rfl) ?_
        refine J_split 64 rfl (fun h56 => ?_) (fun h56 => ?_)
        · refine J_q 65 rfl rfl rfl rfl (Q_fa0 rfl rfl fo55_5) ?_
          refine J_q 66 rfl rfl rfl rfl (Q_ldBK (k := 1) (stL c.par) hS55 rfl rfl rfl Try.isAgg23 Try.sizeOf23 rfl rfl) ?_
          refine J_q 67 rfl rfl rfl rfl (Q_fa0 rfl rfl fo55_0) ?_
          refine J_q 68 rfl rfl rfl rfl (Q_ldBK (k := 1) (stL c.at_) hS55 rfl rfl rfl Try.isAgg23 Try.sizeOf23 rfl rfl) ?_
          refine J_call 69 rfl rfl rfl rfl (T_call rfl rfl rfl Try.call37) (RLess_calls _ c.par c.at_) ?_
          rintro _ w57 ⟨rfl, hk57⟩
          have hS57 := hS55.kp0 hk57
          refine ⟨_, rfl, ?_⟩
          refine J_q 70 rfl rfl rfl rfl (Q_pickT rfl rfl rfl) ?_
          refine J_q 71 rfl rfl rfl rfl (Q_move rfl rfl) ?_
          refine J_split 71 rfl (fun h58 => ?_) (fun h58 => ?_)
          · refine J_q 72 rfl rfl rfl rfl (Q_fa0 rfl rfl fo55_5) ?_
            refine J_q 73 rfl rfl rfl rfl (Q_ldBK (k := 1) (stL c.par) hS57 rfl rfl rfl Try.isAgg23 Try.sizeOf23 rfl rfl) ?_
            refine J_q 74 rfl rfl rfl rfl (Q_fa0 rfl rfl fo55_4) ?_
            refine J_q 75 rfl rfl rfl rfl (Q_ldBK (k := 1) (stL c.node) hS57 rfl rfl rfl Try.isAgg23 Try.sizeOf23 rfl rfl) ?_
            refine J_q 76 rfl rfl rfl rfl (Q_neqP rfl rfl rfl pe23) ?_
            refine J_q 77 rfl rfl rfl rfl (Q_pickT rfl rfl rfl) ?_
            refine J_q 4 rfl rfl rfl rfl (Q_assign rfl rfl) ?_
            refine J_nil (K_seq ?_)
            refine C_seq ?_
            refine C_region ?_
            refine J_q 78 rfl rfl rfl rfl (Q_move rfl rfl) ?_
            refine J_q 79 rfl rfl rfl rfl (Q_move rfl rfl) ?_
            refine J_splitN 79 rfl (fun h59 => ?_) (fun h59 => ?_)
            · refine J_q 80 rfl rfl rfl rfl (Q_fa0 rfl rfl fo55_6) ?_
              refine J_q 81 rfl rfl rfl rfl (Q_ldBK (k := 1) (stL c.aft) hS57 rfl rfl rfl Try.isAgg23 Try.sizeOf23 rfl rfl) ?_
              refine J_q 82 rfl rfl rfl rfl (Q_ldBK' (k := 2) ([.int .i64 0, .int .i64 0]) hS57 rfl rfl rfl Try.isAgg23 Try.sizeOf23 rfl rfl) ?_
              refine J_q 83 rfl rfl rfl rfl (Q_eqlP rfl rfl rfl pe23) ?_
              refine J_q 84 rfl rfl rfl rfl (Q_move rfl rfl) ?_
              refine J_split 84 rfl (fun h60 => ?_) (fun h60 => ?_)
              · refine J_no rfl rfl rfl ?_
                refine J_no rfl rfl rfl ?_
                refine J_no rfl rfl rfl ?_
                refine J_no rfl rfl rfl ?_
                refine J_no rfl rfl rfl ?_
                refine J_q 90 rfl rfl rfl rfl (Q_pickT rfl rfl rfl) ?_
                refine J_q 91 rfl rfl rfl rfl (Q_pickT rfl rfl rfl) ?_
                refine J_q 2 rfl rfl rfl rfl (Q_assign rfl rfl) ?_
                refine J_nil (K_seq ?_)
                refine C_ret (body_ret (res1 rfl rfl) ?_)
                exact ⟨congrArg Ending.returned (eqB (by first | rfl | (refine decide_eq_decide.2 ?_; grind) | (refine (decide_eq_true ?_).symm; grind) | (refine (decide_eq_false ?_).symm; grind))), hS57.kept (k := 0) rfl⟩
              · refine J_q 85 rfl rfl rfl rfl (Q_fa0 rfl rfl fo55_6) ?_
                refine J_q 86 rfl rfl rfl rfl (Q_ldBK (k := 1) (stL c.aft) hS57 rfl rfl rfl Try.isAgg23 Try.sizeOf23 rfl rfl) ?_
                refine J_q 87 rfl rfl rfl rfl (Q_fa0 rfl rfl fo55_0) ?_
                refine J_q 88 rfl rfl rfl rfl (Q_ldBK (k := 1) (stL c.at_) hS57 rfl rfl rfl Try.isAgg23 Try.sizeOf23 rfl rfl) ?_
                refine J_call 89 rfl rfl rfl rfl (T_call rfl rfl rfl Try.call131) (ahead_calls _ c.aft c.at_) ?_
                rintro _ w61 ⟨rfl, hk61⟩
                have hS61 := hS57.kp0 hk61
                refine ⟨_, rfl, ?_⟩
                refine J_q 90 rfl rfl rfl rfl (Q_pickF rfl rfl rfl) ?_
                refine J_q 91 rfl rfl rfl rfl (Q_pickT rfl rfl rfl) ?_
                refine J_q 2 rfl rfl rfl rfl (Q_assign rfl rfl) ?_
                refine J_nil (K_seq ?_)
                refine C_ret (body_ret (res1 rfl rfl) ?_)
                exact ⟨congrArg Ending.returned (eqB (by first | rfl | (refine decide_eq_decide.2 ?_; grind) | (refine (decide_eq_true ?_).symm; grind) | (refine (decide_eq_false ?_).symm; grind))), hS61.kept (k := 0) rfl⟩
            · refine J_no rfl rfl rfl ?_
              refine J_no rfl rfl rfl ?_
              refine J_no rfl rfl rfl ?_
              refine J_no rfl rfl rfl ?_
              refine J_noU 84 rfl rfl rfl rfl ?_
              refine J_no rfl rfl rfl ?_
              refine J_no rfl rfl rfl ?_
              refine J_no rfl rfl rfl ?_
              refine J_no rfl rfl rfl ?_
              refine J_no rfl rfl rfl ?_
              refine J_no rfl rfl rfl ?_
              refine J_q 91 rfl rfl rfl rfl (Q_pickF rfl rfl rfl) ?_
              refine J_q 2 rfl rfl rfl rfl (Q_assign rfl rfl) ?_
              refine J_nil (K_seq ?_)
              refine C_ret (body_ret (res1 rfl rfl) ?_)
              exact ⟨congrArg Ending.returned (eqB (by first | rfl | (refine decide_eq_decide.2 ?_; grind) | (refine (decide_eq_true ?_).symm; grind) | (refine (decide_eq_false ?_).symm; grind))), hS57.kept (k := 0) rfl⟩
          · refine J_no rfl rfl rfl ?_
            refine J_no rfl rfl rfl ?_
            refine J_no rfl rfl rfl ?_
            refine J_no rfl rfl rfl ?_
            refine J_no rfl rfl rfl ?_
            refine J_q 77 rfl rfl rfl rfl (Q_pickF rfl rfl rfl) ?_
            refine J_q 4 rfl rfl rfl rfl (Q_assign rfl rfl) ?_
            refine J_nil (K_seq ?_)
            refine C_seq ?_
            refine C_region ?_
            refine J_q 78 rfl rfl rfl rfl (Q_move rfl rfl) ?_
            refine J_q 79 rfl rfl rfl rfl (Q_move rfl rfl) ?_
            refine J_no rfl rfl rfl ?_
            refine J_no rfl rfl rfl ?_
            refine J_no rfl rfl rfl ?_
            refine J_no rfl rfl rfl ?_
            refine J_noU 84 rfl rfl rfl rfl ?_
            refine J_no rfl rfl rfl ?_
            refine J_no rfl rfl rfl ?_
            refine J_no rfl rfl rfl ?_
            refine J_no rfl rfl rfl ?_
            refine J_no rfl rfl rfl ?_
            refine J_no rfl rfl rfl ?_
            refine J_q 91 rfl rfl rfl rfl (Q_pickF rfl rfl rfl) ?_
            refine J_q 2 rfl rfl rfl rfl (Q_assign rfl rfl) ?_
            refine J_nil (K_seq ?_)
            refine C_ret (body_ret (res1 rfl rfl) ?_)
            exact ⟨congrArg Ending.returned (eqB (by first | rfl | (refine decide_eq_decide.2 ?_; grind) | (refine (decide_eq_true ?_).symm; grind) | (refine (decide_eq_false ?_).symm; grind))), hS57.kept (k := 0) rfl⟩
        · refine J_no rfl rfl rfl ?_
          refine J_no rfl rfl rfl ?_
          refine J_no rfl rfl rfl ?_
          refine J_no rfl rfl rfl ?_
          refine J_no rfl rfl rfl ?_
          refine J_q 70 rfl rfl rfl rfl (Q_pickF rfl rfl rfl) ?_
          refine J_q 71 rfl rfl rfl rfl (Q_move rfl rfl) ?_
          refine J_no rfl rfl rfl ?_
          refine J_no rfl rfl rfl ?_
          refine J_no rfl rfl rfl ?_
          refine J_no rfl rfl rfl ?_
          refine J_no rfl rfl rfl ?_
          refine J_q 77 rfl rfl rfl rfl (Q_pickF rfl rfl rfl) ?_
          refine J_q 4 rfl rfl rfl rfl (Q_assign rfl rfl) ?_
          refine J_nil (K_seq ?_)
          refine C_seq ?_
          refine C_region ?_
          refine J_q 78 rfl rfl rfl rfl (Q_move rfl rfl) ?_
          refine J_q 79 rfl rfl rfl rfl (Q_move rfl rfl) ?_
          refine J_no rfl rfl rfl ?_
          refine J_no rfl rfl rfl ?_
          refine J_no rfl rfl rfl ?_
          refine J_no rfl rfl rfl ?_
          refine J_noU 84 rfl rfl rfl rfl ?_
          refine J_no rfl rfl rfl ?_
          refine J_no rfl rfl rfl ?_
          refine J_no rfl rfl rfl ?_
          refine J_no rfl rfl rfl ?_
          refine J_no rfl rfl rfl ?_
          refine J_no rfl rfl rfl ?_
          refine J_q 91 rfl rfl rfl rfl (Q_pickF rfl rfl rfl) ?_
          refine J_q 2 rfl rfl rfl rfl (Q_assign rfl rfl) ?_
          refine J_nil (K_seq ?_)
          refine C_ret (body_ret (res1 rfl rfl) ?_)
          exact ⟨congrArg Ending.returned (eqB (by first | rfl | (refine decide_eq_decide.2 ?_; grind) | (refine (decide_eq_true ?_).symm; grind) | (refine (decide_eq_false ?_).symm; grind))), hS55.kept (k := 0) rfl⟩

theorem CSame_calls (w : World) (l_a : List Value) (a : Change) (h_a : tCh.rd w l_a a) (l_b : List Value) (b : Change) (h_b : tCh.rd w l_b b) :
    Calls Try.prog 100 #[.agg l_a.toArray, .agg l_b.toArray] w fun e w' => e = .returned (.bool (decide (a = b))) ∧ Kp no w w' := by
  have hS0 := St.start w
  have hF_a := RdF.of_rd h_a
  obtain ⟨A_a, cap_a, rfl, hd_a, ho_a⟩ := openCh hF_a
  have hln_a := RdF.lens hd_a
  have hsq_a := ho_a.seq
  have hF_b := RdF.of_rd h_b
  obtain ⟨A_b, cap_b, rfl, hd_b, ho_b⟩ := openCh hF_b
  have hln_b := RdF.lens hd_b
  have hsq_b := ho_b.seq
  refine fn_calls' 66 (args := [_, _]) Try.func100 rfl rfl rfl ?_
  refine C_seq ?_
  refine C_region ?_
  refine J_do 2 rfl rfl rfl rfl (D_box 1 hS0 rfl rfl (fun g1 w1 hS1 => ?_))
  refine J_do 3 rfl rfl rfl rfl (D_box 2 hS1 rfl rfl (fun g2 w2 hS2 => ?_))
  refine J_q 4 rfl rfl rfl rfl (Q_assign rfl rfl) ?_
  refine J_nil (K_seq ?_)
  refine C_seq ?_
  refine C_region ?_
  refine J_q 5 rfl rfl rfl rfl (Q_fa0 rfl rfl fo55_0) ?_
  refine J_q 6 rfl rfl rfl rfl (Q_ldBK (k := 1) (stL a.at_) hS2 rfl rfl rfl Try.isAgg23 Try.sizeOf23 rfl rfl) ?_
  refine J_q 7 rfl rfl rfl rfl (Q_fa0 rfl rfl fo55_0) ?_
  refine J_q 8 rfl rfl rfl rfl (Q_ldBK (k := 2) (stL b.at_) hS2 rfl rfl rfl Try.isAgg23 Try.sizeOf23 rfl rfl) ?_
  refine J_q 9 rfl rfl rfl rfl (Q_eqlP rfl rfl rfl pe23) ?_
  refine J_q 10 rfl rfl rfl rfl (Q_move rfl rfl) ?_
  refine J_split 10 rfl (fun h3 => ?_) (fun h3 => ?_)
  · refine J_q 11 rfl rfl rfl rfl (Q_fa0 rfl rfl fo55_1) ?_
    refine J_q 12 rfl rfl rfl rfl (Q_ldB1 (k := 1) hS2 rfl rfl rfl Try.isAgg3 rfl) ?_
    refine J_q 13 rfl rfl rfl rfl (Q_fa0 rfl rfl fo55_1) ?_
    refine J_q 14 rfl rfl rfl rfl (Q_ldB1 (k := 2) hS2 rfl rfl rfl Try.isAgg3 rfl) ?_
    refine J_q 15 rfl rfl rfl rfl (Q_eql rfl rfl rfl) ?_
    refine J_q 16 rfl rfl rfl rfl (Q_pickT rfl rfl rfl) ?_
    refine J_q 17 rfl rfl rfl rfl (Q_move rfl rfl) ?_
    refine J_split 17 rfl (fun h4 => ?_) (fun h4 => ?_)
    · refine J_q 18 rfl rfl rfl rfl (Q_fa0 rfl rfl fo55_2) ?_
      refine J_q 19 rfl rfl rfl rfl (Q_ldB1 (k := 1) hS2 rfl rfl rfl Try.isAgg44 rfl) ?_
      refine J_q 20 rfl rfl rfl rfl (Q_fa0 rfl rfl fo55_2) ?_
      refine J_q 21 rfl rfl rfl rfl (Q_ldB1 (k := 2) hS2 rfl rfl rfl Try.isAgg44 rfl) ?_
      refine J_call 22 rfl rfl rfl rfl (T_call rfl rfl rfl Try.call124) (Equal_calls _ _ a.deps (hS2.rd 0 rfl hd_a) _ b.deps (hS2.rd 0 rfl hd_b)) ?_
      rintro _ w5 ⟨rfl, hk5⟩
      have hS5 := hS2.kp0 hk5
      refine ⟨_, rfl, ?_⟩
      refine J_q 23 rfl rfl rfl rfl (Q_pickT rfl rfl rfl) ?_
      refine J_q 24 rfl rfl rfl rfl (Q_move rfl rfl) ?_
      refine J_split 24 rfl (fun h6 => ?_) (fun h6 => ?_)
      · refine J_q 25 rfl rfl rfl rfl (Q_fa0 rfl rfl fo55_3) ?_
        refine J_q 26 rfl rfl rfl rfl (Q_ldB1 (k := 1) hS5 rfl rfl rfl Try.isAgg3 rfl) ?_
        refine J_q 27 rfl rfl rfl rfl (Q_fa0 rfl rfl fo55_3) ?_
        refine J_q 28 rfl rfl rfl rfl (Q_ldB1 (k := 2) hS5 rfl rfl rfl Try.isAgg3 rfl) ?_
        refine J_q 29 rfl rfl rfl rfl (Q_eql rfl rfl rfl) ?_
        refine J_q 30 rfl rfl rfl rfl (Q_pickT rfl rfl rfl) ?_
        refine J_q 31 rfl rfl rfl rfl (Q_move rfl rfl) ?_
        refine J_split 31 rfl (fun h7 => ?_) (fun h7 => ?_)
        · refine J_q 32 rfl rfl rfl rfl (Q_fa0 rfl rfl fo55_4) ?_
          refine J_q 33 rfl rfl rfl rfl (Q_ldBK (k := 1) (stL a.node) hS5 rfl rfl rfl Try.isAgg23 Try.sizeOf23 rfl rfl) ?_
          refine J_q 34 rfl rfl rfl rfl (Q_fa0 rfl rfl fo55_4) ?_
          refine J_q 35 rfl rfl rfl rfl (Q_ldBK (k := 2) (stL b.node) hS5 rfl rfl rfl Try.isAgg23 Try.sizeOf23 rfl rfl) ?_
          refine J_q 36 rfl rfl rfl rfl (Q_eqlP rfl rfl rfl pe23) ?_
          refine J_q 37 rfl rfl rfl rfl (Q_pickT rfl rfl rfl) ?_
          refine J_q 38 rfl rfl rfl rfl (Q_move rfl rfl) ?_
          refine J_split 38 rfl (fun h8 => ?_) (fun h8 => ?_)
          · refine J_q 39 rfl rfl rfl rfl (Q_fa0 rfl rfl fo55_5) ?_
            refine J_q 40 rfl rfl rfl rfl (Q_ldBK (k := 1) (stL a.par) hS5 rfl rfl rfl Try.isAgg23 Try.sizeOf23 rfl rfl) ?_
            refine J_q 41 rfl rfl rfl rfl (Q_fa0 rfl rfl fo55_5) ?_
            refine J_q 42 rfl rfl rfl rfl (Q_ldBK (k := 2) (stL b.par) hS5 rfl rfl rfl Try.isAgg23 Try.sizeOf23 rfl rfl) ?_
            refine J_q 43 rfl rfl rfl rfl (Q_eqlP rfl rfl rfl pe23) ?_
            refine J_q 44 rfl rfl rfl rfl (Q_pickT rfl rfl rfl) ?_
            refine J_q 45 rfl rfl rfl rfl (Q_move rfl rfl) ?_
            refine J_split 45 rfl (fun h9 => ?_) (fun h9 => ?_)
            · refine J_q 46 rfl rfl rfl rfl (Q_fa0 rfl rfl fo55_6) ?_
              refine J_q 47 rfl rfl rfl rfl (Q_ldBK (k := 1) (stL a.aft) hS5 rfl rfl rfl Try.isAgg23 Try.sizeOf23 rfl rfl) ?_
              refine J_q 48 rfl rfl rfl rfl (Q_fa0 rfl rfl fo55_6) ?_
              refine J_q 49 rfl rfl rfl rfl (Q_ldBK (k := 2) (stL b.aft) hS5 rfl rfl rfl Try.isAgg23 Try.sizeOf23 rfl rfl) ?_
              refine J_q 50 rfl rfl rfl rfl (Q_eqlP rfl rfl rfl pe23) ?_
              refine J_q 51 rfl rfl rfl rfl (Q_pickT rfl rfl rfl) ?_
              refine J_q 52 rfl rfl rfl rfl (Q_move rfl rfl) ?_
              refine J_split 52 rfl (fun h10 => ?_) (fun h10 => ?_)
              · refine J_q 53 rfl rfl rfl rfl (Q_fa0 rfl rfl fo55_7) ?_
                refine J_q 54 rfl rfl rfl rfl (Q_ldB1 (k := 1) hS5 rfl rfl rfl Try.isAgg9 rfl) ?_
                refine J_q 55 rfl rfl rfl rfl (Q_fa0 rfl rfl fo55_7) ?_
                refine J_q 56 rfl rfl rfl rfl (Q_ldB1 (k := 2) hS5 rfl rfl rfl Try.isAgg9 rfl) ?_
                refine J_q 57 rfl rfl rfl rfl (Q_eqlS rfl rfl rfl) ?_
                refine J_q 58 rfl rfl rfl rfl (Q_pickT rfl rfl rfl) ?_
                refine J_q 59 rfl rfl rfl rfl (Q_move rfl rfl) ?_
                refine J_split 59 rfl (fun h11 => ?_) (fun h11 => ?_)
                · refine J_q 60 rfl rfl rfl rfl (Q_fa0 rfl rfl fo55_8) ?_
                  refine J_q 61 rfl rfl rfl rfl (Q_ldB1 (k := 1) hS5 rfl rfl rfl Try.isAgg9 rfl) ?_
                  refine J_q 62 rfl rfl rfl rfl (Q_fa0 rfl rfl fo55_8) ?_
                  refine J_q 63 rfl rfl rfl rfl (Q_ldB1 (k := 2) hS5 rfl rfl rfl Try.isAgg9 rfl) ?_
                  refine J_q 64 rfl rfl rfl rfl (Q_eqlS rfl rfl rfl) ?_
                  refine J_q 65 rfl rfl rfl rfl (Q_pickT rfl rfl rfl) ?_
                  refine J_q 4 rfl rfl rfl rfl (Q_assign rfl rfl) ?_
                  refine J_nil (K_seq ?_)
                  refine C_ret (body_ret (res1 rfl rfl) ?_)
                  exact ⟨congrArg Ending.returned (eqB (by first | (refine decide_eq_decide.2 ?_; rw [Change.eq_iff]; grind) | (refine (decide_eq_false ?_).symm; rw [Change.eq_iff]; grind))), hS5.kept (k := 0) rfl⟩
                · refine J_no rfl rfl rfl ?_
                  refine J_no rfl rfl rfl ?_
                  refine J_no rfl rfl rfl ?_
                  refine J_no rfl rfl rfl ?_
                  refine J_no rfl rfl rfl ?_
                  refine J_q 65 rfl rfl rfl rfl (Q_pickF rfl rfl rfl) ?_
                  refine J_q 4 rfl rfl rfl rfl (Q_assign rfl rfl) ?_
                  refine J_nil (K_seq ?_)
                  refine C_ret (body_ret (res1 rfl rfl) ?_)
                  exact ⟨congrArg Ending.returned (eqB (by first | (refine decide_eq_decide.2 ?_; rw [Change.eq_iff]; grind) | (refine (decide_eq_false ?_).symm; rw [Change.eq_iff]; grind))), hS5.kept (k := 0) rfl⟩
              · refine J_no rfl rfl rfl ?_
                refine J_no rfl rfl rfl ?_
                refine J_no rfl rfl rfl ?_
                refine J_no rfl rfl rfl ?_
                refine J_no rfl rfl rfl ?_
                refine J_q 58 rfl rfl rfl rfl (Q_pickF rfl rfl rfl) ?_
                refine J_q 59 rfl rfl rfl rfl (Q_move rfl rfl) ?_
                refine J_no rfl rfl rfl ?_
                refine J_no rfl rfl rfl ?_
                refine J_no rfl rfl rfl ?_
                refine J_no rfl rfl rfl ?_
                refine J_no rfl rfl rfl ?_
                refine J_q 65 rfl rfl rfl rfl (Q_pickF rfl rfl rfl) ?_
                refine J_q 4 rfl rfl rfl rfl (Q_assign rfl rfl) ?_
                refine J_nil (K_seq ?_)
                refine C_ret (body_ret (res1 rfl rfl) ?_)
                exact ⟨congrArg Ending.returned (eqB (by first | (refine decide_eq_decide.2 ?_; rw [Change.eq_iff]; grind) | (refine (decide_eq_false ?_).symm; rw [Change.eq_iff]; grind))), hS5.kept (k := 0) rfl⟩
            · refine J_no rfl rfl rfl ?_
              refine J_no rfl rfl rfl ?_
              refine J_no rfl rfl rfl ?_
              refine J_no rfl rfl rfl ?_
              refine J_no rfl rfl rfl ?_
              refine J_q 51 rfl rfl rfl rfl (Q_pickF rfl rfl rfl) ?_
              refine J_q 52 rfl rfl rfl rfl (Q_move rfl rfl) ?_
              refine J_no rfl rfl rfl ?_
              refine J_no rfl rfl rfl ?_
              refine J_no rfl rfl rfl ?_
              refine J_no rfl rfl rfl ?_
              refine J_no rfl rfl rfl ?_
              refine J_q 58 rfl rfl rfl rfl (Q_pickF rfl rfl rfl) ?_
              refine J_q 59 rfl rfl rfl rfl (Q_move rfl rfl) ?_
              refine J_no rfl rfl rfl ?_
              refine J_no rfl rfl rfl ?_
              refine J_no rfl rfl rfl ?_
              refine J_no rfl rfl rfl ?_
              refine J_no rfl rfl rfl ?_
              refine J_q 65 rfl rfl rfl rfl (Q_pickF rfl rfl rfl) ?_
              refine J_q 4 rfl rfl rfl rfl (Q_assign rfl rfl) ?_
              refine J_nil (K_seq ?_)
              refine C_ret (body_ret (res1 rfl rfl) ?_)
              exact ⟨congrArg Ending.returned (eqB (by first | (refine decide_eq_decide.2 ?_; rw [Change.eq_iff]; grind) | (refine (decide_eq_false ?_).symm; rw [Change.eq_iff]; grind))), hS5.kept (k := 0) rfl⟩
          · refine J_no rfl rfl rfl ?_
            refine J_no rfl rfl rfl ?_
            refine J_no rfl rfl rfl ?_
            refine J_no rfl rfl rfl ?_
            refine J_no rfl rfl rfl ?_
            refine J_q 44 rfl rfl rfl rfl (Q_pickF rfl rfl rfl) ?_
            refine J_q 45 rfl rfl rfl rfl (Q_move rfl rfl) ?_
            refine J_no rfl rfl rfl ?_
            refine J_no rfl rfl rfl ?_
            refine J_no rfl rfl rfl ?_
            refine J_no rfl rfl rfl ?_
            refine J_no rfl rfl rfl ?_
            refine J_q 51 rfl rfl rfl rfl (Q_pickF rfl rfl rfl) ?_
            refine J_q 52 rfl rfl rfl rfl (Q_move rfl rfl) ?_
            refine J_no rfl rfl rfl ?_
            refine J_no rfl rfl rfl ?_
            refine J_no rfl rfl rfl ?_
            refine J_no rfl rfl rfl ?_
            refine J_no rfl rfl rfl ?_
            refine J_q 58 rfl rfl rfl rfl (Q_pickF rfl rfl rfl) ?_
            refine J_q 59 rfl rfl rfl rfl (Q_move rfl rfl) ?_
            refine J_no rfl rfl rfl ?_
            refine J_no rfl rfl rfl ?_
            refine J_no rfl rfl rfl ?_
            refine J_no rfl rfl rfl ?_
            refine J_no rfl rfl rfl ?_
            refine J_q 65 rfl rfl rfl rfl (Q_pickF rfl rfl rfl) ?_
            refine J_q 4 rfl rfl rfl rfl (Q_assign rfl rfl) ?_
            refine J_nil (K_seq ?_)
            refine C_ret (body_ret (res1 rfl rfl) ?_)
            exact ⟨congrArg Ending.returned (eqB (by first | (refine decide_eq_decide.2 ?_; rw [Change.eq_iff]; grind) | (refine (decide_eq_false ?_).symm; rw [Change.eq_iff]; grind))), hS5.kept (k := 0) rfl⟩
        · refine J_no rfl rfl rfl ?_
          refine J_no rfl rfl rfl ?_
          refine J_no rfl rfl rfl ?_
          refine J_no rfl rfl rfl ?_
          refine J_no rfl rfl rfl ?_
          refine J_q 37 rfl rfl rfl rfl (Q_pickF rfl rfl rfl) ?_
          refine J_q 38 rfl rfl rfl rfl (Q_move rfl rfl) ?_
          refine J_no rfl rfl rfl ?_
          refine J_no rfl rfl rfl ?_
          refine J_no rfl rfl rfl ?_
          refine J_no rfl rfl rfl ?_
          refine J_no rfl rfl rfl ?_
          refine J_q 44 rfl rfl rfl rfl (Q_pickF rfl rfl rfl) ?_
          refine J_q 45 rfl rfl rfl rfl (Q_move rfl rfl) ?_
          refine J_no rfl rfl rfl ?_
          refine J_no rfl rfl rfl ?_
          refine J_no rfl rfl rfl ?_
          refine J_no rfl rfl rfl ?_
          refine J_no rfl rfl rfl ?_
          refine J_q 51 rfl rfl rfl rfl (Q_pickF rfl rfl rfl) ?_
          refine J_q 52 rfl rfl rfl rfl (Q_move rfl rfl) ?_
          refine J_no rfl rfl rfl ?_
          refine J_no rfl rfl rfl ?_
          refine J_no rfl rfl rfl ?_
          refine J_no rfl rfl rfl ?_
          refine J_no rfl rfl rfl ?_
          refine J_q 58 rfl rfl rfl rfl (Q_pickF rfl rfl rfl) ?_
          refine J_q 59 rfl rfl rfl rfl (Q_move rfl rfl) ?_
          refine J_no rfl rfl rfl ?_
          refine J_no rfl rfl rfl ?_
          refine J_no rfl rfl rfl ?_
          refine J_no rfl rfl rfl ?_
          refine J_no rfl rfl rfl ?_
          refine J_q 65 rfl rfl rfl rfl (Q_pickF rfl rfl rfl) ?_
          refine J_q 4 rfl rfl rfl rfl (Q_assign rfl rfl) ?_
          refine J_nil (K_seq ?_)
          refine C_ret (body_ret (res1 rfl rfl) ?_)
          exact ⟨congrArg Ending.returned (eqB (by first | (refine decide_eq_decide.2 ?_; rw [Change.eq_iff]; grind) | (refine (decide_eq_false ?_).symm; rw [Change.eq_iff]; grind))), hS5.kept (k := 0) rfl⟩
      · refine J_no rfl rfl rfl ?_
        refine J_no rfl rfl rfl ?_
        refine J_no rfl rfl rfl ?_
        refine J_no rfl rfl rfl ?_
        refine J_no rfl rfl rfl ?_
        refine J_q 30 rfl rfl rfl rfl (Q_pickF rfl rfl rfl) ?_
        refine J_q 31 rfl rfl rfl rfl (Q_move rfl rfl) ?_
        refine J_no rfl rfl rfl ?_
        refine J_no rfl rfl rfl ?_
        refine J_no rfl rfl rfl ?_
        refine J_no rfl rfl rfl ?_
        refine J_no rfl rfl rfl ?_
        refine J_q 37 rfl rfl rfl rfl (Q_pickF rfl rfl rfl) ?_
        refine J_q 38 rfl rfl rfl rfl (Q_move rfl rfl) ?_
        refine J_no rfl rfl rfl ?_
        refine J_no rfl rfl rfl ?_
        refine J_no rfl rfl rfl ?_
        refine J_no rfl rfl rfl ?_
        refine J_no rfl rfl rfl ?_
        refine J_q 44 rfl rfl rfl rfl (Q_pickF rfl rfl rfl) ?_
        refine J_q 45 rfl rfl rfl rfl (Q_move rfl rfl) ?_
        refine J_no rfl rfl rfl ?_
        refine J_no rfl rfl rfl ?_
        refine J_no rfl rfl rfl ?_
        refine J_no rfl rfl rfl ?_
        refine J_no rfl rfl rfl ?_
        refine J_q 51 rfl rfl rfl rfl (Q_pickF rfl rfl rfl) ?_
        refine J_q 52 rfl rfl rfl rfl (Q_move rfl rfl) ?_
        refine J_no rfl rfl rfl ?_
        refine J_no rfl rfl rfl ?_
        refine J_no rfl rfl rfl ?_
        refine J_no rfl rfl rfl ?_
        refine J_no rfl rfl rfl ?_
        refine J_q 58 rfl rfl rfl rfl (Q_pickF rfl rfl rfl) ?_
        refine J_q 59 rfl rfl rfl rfl (Q_move rfl rfl) ?_
        refine J_no rfl rfl rfl ?_
        refine J_no rfl rfl rfl ?_
        refine J_no rfl rfl rfl ?_
        refine J_no rfl rfl rfl ?_
        refine J_no rfl rfl rfl ?_
        refine J_q 65 rfl rfl rfl rfl (Q_pickF rfl rfl rfl) ?_
        refine J_q 4 rfl rfl rfl rfl (Q_assign rfl rfl) ?_
        refine J_nil (K_seq ?_)
        refine C_ret (body_ret (res1 rfl rfl) ?_)
        exact ⟨congrArg Ending.returned (eqB (by first | (refine decide_eq_decide.2 ?_; rw [Change.eq_iff]; grind) | (refine (decide_eq_false ?_).symm; rw [Change.eq_iff]; grind))), hS5.kept (k := 0) rfl⟩
    · refine J_no rfl rfl rfl ?_
      refine J_no rfl rfl rfl ?_
      refine J_no rfl rfl rfl ?_
      refine J_no rfl rfl rfl ?_
      refine J_no rfl rfl rfl ?_
      refine J_q 23 rfl rfl rfl rfl (Q_pickF rfl rfl rfl) ?_
      refine J_q 24 rfl rfl rfl rfl (Q_move rfl rfl) ?_
      refine J_no rfl rfl rfl ?_
      refine J_no rfl rfl rfl ?_
      refine J_no rfl rfl rfl ?_
      refine J_no rfl rfl rfl ?_
      refine J_no rfl rfl rfl ?_
      refine J_q 30 rfl rfl rfl rfl (Q_pickF rfl rfl rfl) ?_
      refine J_q 31 rfl rfl rfl rfl (Q_move rfl rfl) ?_
      refine J_no rfl rfl rfl ?_
      refine J_no rfl rfl rfl ?_
      refine J_no rfl rfl rfl ?_
      refine J_no rfl rfl rfl ?_
      refine J_no rfl rfl rfl ?_
      refine J_q 37 rfl rfl rfl rfl (Q_pickF rfl rfl rfl) ?_
      refine J_q 38 rfl rfl rfl rfl (Q_move rfl rfl) ?_
      refine J_no rfl rfl rfl ?_
      refine J_no rfl rfl rfl ?_
      refine J_no rfl rfl rfl ?_
      refine J_no rfl rfl rfl ?_
      refine J_no rfl rfl rfl ?_
      refine J_q 44 rfl rfl rfl rfl (Q_pickF rfl rfl rfl) ?_
      refine J_q 45 rfl rfl rfl rfl (Q_move rfl rfl) ?_
      refine J_no rfl rfl rfl ?_
      refine J_no rfl rfl rfl ?_
      refine J_no rfl rfl rfl ?_
      refine J_no rfl rfl rfl ?_
      refine J_no rfl rfl rfl ?_
      refine J_q 51 rfl rfl rfl rfl (Q_pickF rfl rfl rfl) ?_
      refine J_q 52 rfl rfl rfl rfl (Q_move rfl rfl) ?_
      refine J_no rfl rfl rfl ?_
      refine J_no rfl rfl rfl ?_
      refine J_no rfl rfl rfl ?_
      refine J_no rfl rfl rfl ?_
      refine J_no rfl rfl rfl ?_
      refine J_q 58 rfl rfl rfl rfl (Q_pickF rfl rfl rfl) ?_
      refine J_q 59 rfl rfl rfl rfl (Q_move rfl rfl) ?_
      refine J_no rfl rfl rfl ?_
      refine J_no rfl rfl rfl ?_
      refine J_no rfl rfl rfl ?_
      refine J_no rfl rfl rfl ?_
      refine J_no rfl rfl rfl ?_
      refine J_q 65 rfl rfl rfl rfl (Q_pickF rfl rfl rfl) ?_
      refine J_q 4 rfl rfl rfl rfl (Q_assign rfl rfl) ?_
      refine J_nil (K_seq ?_)
      refine C_ret (body_ret (res1 rfl rfl) ?_)
      exact ⟨congrArg Ending.returned (eqB (by first | (refine decide_eq_decide.2 ?_; rw [Change.eq_iff]; grind) | (refine (decide_eq_false ?_).symm; rw [Change.eq_iff]; grind))), hS2.kept (k := 0) rfl⟩
  · refine J_no rfl rfl rfl ?_
    refine J_no rfl rfl rfl ?_
    refine J_no rfl rfl rfl ?_
    refine J_no rfl rfl rfl ?_
    refine J_no rfl rfl rfl ?_
    refine J_q 16 rfl rfl rfl rfl (Q_pickF rfl rfl rfl) ?_
    refine J_q 17 rfl rfl rfl rfl (Q_move rfl rfl) ?_
    refine J_no rfl rfl rfl ?_
    refine J_no rfl rfl rfl ?_
    refine J_no rfl rfl rfl ?_
    refine J_no rfl rfl rfl ?_
    refine J_no rfl rfl rfl ?_
    refine J_q 23 rfl rfl rfl rfl (Q_pickF rfl rfl rfl) ?_
    refine J_q 24 rfl rfl rfl rfl (Q_move rfl rfl) ?_
    refine J_no rfl rfl rfl ?_
    refine J_no rfl rfl rfl ?_
    refine J_no rfl rfl rfl ?_
    refine J_no rfl rfl rfl ?_
    refine J_no rfl rfl rfl ?_
    refine J_q 30 rfl rfl rfl rfl (Q_pickF rfl rfl rfl) ?_
    refine J_q 31 rfl rfl rfl rfl (Q_move rfl rfl) ?_
    refine J_no rfl rfl rfl ?_
    refine J_no rfl rfl rfl ?_
    refine J_no rfl rfl rfl ?_
    refine J_no rfl rfl rfl ?_
    refine J_no rfl rfl rfl ?_
    refine J_q 37 rfl rfl rfl rfl (Q_pickF rfl rfl rfl) ?_
    refine J_q 38 rfl rfl rfl rfl (Q_move rfl rfl) ?_
    refine J_no rfl rfl rfl ?_
    refine J_no rfl rfl rfl ?_
    refine J_no rfl rfl rfl ?_
    refine J_no rfl rfl rfl ?_
    refine J_no rfl rfl rfl ?_
    refine J_q 44 rfl rfl rfl rfl (Q_pickF rfl rfl rfl) ?_
    refine J_q 45 rfl rfl rfl rfl (Q_move rfl rfl) ?_
    refine J_no rfl rfl rfl ?_
    refine J_no rfl rfl rfl ?_
    refine J_no rfl rfl rfl ?_
    refine J_no rfl rfl rfl ?_
    refine J_no rfl rfl rfl ?_
    refine J_q 51 rfl rfl rfl rfl (Q_pickF rfl rfl rfl) ?_
    refine J_q 52 rfl rfl rfl rfl (Q_move rfl rfl) ?_
    refine J_no rfl rfl rfl ?_
    refine J_no rfl rfl rfl ?_
    refine J_no rfl rfl rfl ?_
    refine J_no rfl rfl rfl ?_
    refine J_no rfl rfl rfl ?_
    refine J_q 58 rfl rfl rfl rfl (Q_pickF rfl rfl rfl) ?_
    refine J_q 59 rfl rfl rfl rfl (Q_move rfl rfl) ?_
    refine J_no rfl rfl rfl ?_
    refine J_no rfl rfl rfl ?_
    refine J_no rfl rfl rfl ?_
    refine J_no rfl rfl rfl ?_
    refine J_no rfl rfl rfl ?_
    refine J_q 65 rfl rfl rfl rfl (Q_pickF rfl rfl rfl) ?_
    refine J_q 4 rfl rfl rfl rfl (Q_assign rfl rfl) ?_
    refine J_nil (K_seq ?_)
    refine C_ret (body_ret (res1 rfl rfl) ?_)
    exact ⟨congrArg Ending.returned (eqB (by first | (refine decide_eq_decide.2 ?_; rw [Change.eq_iff]; grind) | (refine (decide_eq_false ?_).symm; rw [Change.eq_iff]; grind))), hS2.kept (k := 0) rfl⟩

theorem RSame5_calls (w : World) (l_a : List Value) (a : Change) (h_a : tCh.rd w l_a a) (l_b : List Value) (b : Change) (h_b : tCh.rd w l_b b) :
    Calls Try.prog 29 #[.agg l_a.toArray, .agg l_b.toArray] w fun e w' => e = .returned (.bool (decide (a = b))) ∧ Kp no w w' := by
  have hS0 := St.start w
  have hF_a := RdF.of_rd h_a
  obtain ⟨A_a, cap_a, rfl, hd_a, ho_a⟩ := openCh hF_a
  have hln_a := RdF.lens hd_a
  have hsq_a := ho_a.seq
  have hF_b := RdF.of_rd h_b
  obtain ⟨A_b, cap_b, rfl, hd_b, ho_b⟩ := openCh hF_b
  have hln_b := RdF.lens hd_b
  have hsq_b := ho_b.seq
  refine fn_calls' 66 (args := [_, _]) Try.func29 rfl rfl rfl ?_
  refine C_seq ?_
  refine C_region ?_
  refine J_do 2 rfl rfl rfl rfl (D_box 1 hS0 rfl rfl (fun g1 w1 hS1 => ?_))
  refine J_do 3 rfl rfl rfl rfl (D_box 2 hS1 rfl rfl (fun g2 w2 hS2 => ?_))
  refine J_q 4 rfl rfl rfl rfl (Q_assign rfl rfl) ?_
  refine J_nil (K_seq ?_)
  refine C_seq ?_
  refine C_region ?_
  refine J_q 5 rfl rfl rfl rfl (Q_fa0 rfl rfl fo55_0) ?_
  refine J_q 6 rfl rfl rfl rfl (Q_ldBK (k := 1) (stL a.at_) hS2 rfl rfl rfl Try.isAgg23 Try.sizeOf23 rfl rfl) ?_
  refine J_q 7 rfl rfl rfl rfl (Q_fa0 rfl rfl fo55_0) ?_
  refine J_q 8 rfl rfl rfl rfl (Q_ldBK (k := 2) (stL b.at_) hS2 rfl rfl rfl Try.isAgg23 Try.sizeOf23 rfl rfl) ?_
  refine J_q 9 rfl rfl rfl rfl (Q_eqlP rfl rfl rfl pe23) ?_
  refine J_q 10 rfl rfl rfl rfl (Q_move rfl rfl) ?_
  refine J_split 10 rfl (fun h3 => ?_) (fun h3 => ?_)
  · refine J_q 11 rfl rfl rfl rfl (Q_fa0 rfl rfl fo55_1) ?_
    refine J_q 12 rfl rfl rfl rfl (Q_ldB1 (k := 1) hS2 rfl rfl rfl Try.isAgg3 rfl) ?_
    refine J_q 13 rfl rfl rfl rfl (Q_fa0 rfl rfl fo55_1) ?_
    refine J_q 14 rfl rfl rfl rfl (Q_ldB1 (k := 2) hS2 rfl rfl rfl Try.isAgg3 rfl) ?_
    refine J_q 15 rfl rfl rfl rfl (Q_eql rfl rfl rfl) ?_
    refine J_q 16 rfl rfl rfl rfl (Q_pickT rfl rfl rfl) ?_
    refine J_q 17 rfl rfl rfl rfl (Q_move rfl rfl) ?_
    refine J_split 17 rfl (fun h4 => ?_) (fun h4 => ?_)
    · refine J_q 18 rfl rfl rfl rfl (Q_fa0 rfl rfl fo55_2) ?_
      refine J_q 19 rfl rfl rfl rfl (Q_ldB1 (k := 1) hS2 rfl rfl rfl Try.isAgg44 rfl) ?_
      refine J_q 20 rfl rfl rfl rfl (Q_fa0 rfl rfl fo55_2) ?_
      refine J_q 21 rfl rfl rfl rfl (Q_ldB1 (k := 2) hS2 rfl rfl rfl Try.isAgg44 rfl) ?_
      refine J_call 22 rfl rfl rfl rfl (T_call rfl rfl rfl Try.call51) (RSame_calls _ _ a.deps (hS2.rd 0 rfl hd_a) _ b.deps (hS2.rd 0 rfl hd_b)) ?_
      rintro _ w5 ⟨rfl, hk5⟩
      have hS5 := hS2.kp0 hk5
      refine ⟨_, rfl, ?_⟩
      refine J_q 23 rfl rfl rfl rfl (Q_pickT rfl rfl rfl) ?_
      refine J_q 24 rfl rfl rfl rfl (Q_move rfl rfl) ?_
      refine J_split 24 rfl (fun h6 => ?_) (fun h6 => ?_)
      · refine J_q 25 rfl rfl rfl rfl (Q_fa0 rfl rfl fo55_3) ?_
        refine J_q 26 rfl rfl rfl rfl (Q_ldB1 (k := 1) hS5 rfl rfl rfl Try.isAgg3 rfl) ?_
        refine J_q 27 rfl rfl rfl rfl (Q_fa0 rfl rfl fo55_3) ?_
        refine J_q 28 rfl rfl rfl rfl (Q_ldB1 (k := 2) hS5 rfl rfl rfl Try.isAgg3 rfl) ?_
        refine J_q 29 rfl rfl rfl rfl (Q_eql rfl rfl rfl) ?_
        refine J_q 30 rfl rfl rfl rfl (Q_pickT rfl rfl rfl) ?_
        refine J_q 31 rfl rfl rfl rfl (Q_move rfl rfl) ?_
        refine J_split 31 rfl (fun h7 => ?_) (fun h7 => ?_)
        · refine J_q 32 rfl rfl rfl rfl (Q_fa0 rfl rfl fo55_4) ?_
          refine J_q 33 rfl rfl rfl rfl (Q_ldBK (k := 1) (stL a.node) hS5 rfl rfl rfl Try.isAgg23 Try.sizeOf23 rfl rfl) ?_
          refine J_q 34 rfl rfl rfl rfl (Q_fa0 rfl rfl fo55_4) ?_
          refine J_q 35 rfl rfl rfl rfl (Q_ldBK (k := 2) (stL b.node) hS5 rfl rfl rfl Try.isAgg23 Try.sizeOf23 rfl rfl) ?_
          refine J_q 36 rfl rfl rfl rfl (Q_eqlP rfl rfl rfl pe23) ?_
          refine J_q 37 rfl rfl rfl rfl (Q_pickT rfl rfl rfl) ?_
          refine J_q 38 rfl rfl rfl rfl (Q_move rfl rfl) ?_
          refine J_split 38 rfl (fun h8 => ?_) (fun h8 => ?_)
          · refine J_q 39 rfl rfl rfl rfl (Q_fa0 rfl rfl fo55_5) ?_
            refine J_q 40 rfl rfl rfl rfl (Q_ldBK (k := 1) (stL a.par) hS5 rfl rfl rfl Try.isAgg23 Try.sizeOf23 rfl rfl) ?_
            refine J_q 41 rfl rfl rfl rfl (Q_fa0 rfl rfl fo55_5) ?_
            refine J_q 42 rfl rfl rfl rfl (Q_ldBK (k := 2) (stL b.par) hS5 rfl rfl rfl Try.isAgg23 Try.sizeOf23 rfl rfl) ?_
            refine J_q 43 rfl rfl rfl rfl (Q_eqlP rfl rfl rfl pe23) ?_
            refine J_q 44 rfl rfl rfl rfl (Q_pickT rfl rfl rfl) ?_
            refine J_q 45 rfl rfl rfl rfl (Q_move rfl rfl) ?_
            refine J_split 45 rfl (fun h9 => ?_) (fun h9 => ?_)
            · refine J_q 46 rfl rfl rfl rfl (Q_fa0 rfl rfl fo55_6) ?_
              refine J_q 47 rfl rfl rfl rfl (Q_ldBK (k := 1) (stL a.aft) hS5 rfl rfl rfl Try.isAgg23 Try.sizeOf23 rfl rfl) ?_
              refine J_q 48 rfl rfl rfl rfl (Q_fa0 rfl rfl fo55_6) ?_
              refine J_q 49 rfl rfl rfl rfl (Q_ldBK (k := 2) (stL b.aft) hS5 rfl rfl rfl Try.isAgg23 Try.sizeOf23 rfl rfl) ?_
              refine J_q 50 rfl rfl rfl rfl (Q_eqlP rfl rfl rfl pe23) ?_
              refine J_q 51 rfl rfl rfl rfl (Q_pickT rfl rfl rfl) ?_
              refine J_q 52 rfl rfl rfl rfl (Q_move rfl rfl) ?_
              refine J_split 52 rfl (fun h10 => ?_) (fun h10 => ?_)
              · refine J_q 53 rfl rfl rfl rfl (Q_fa0 rfl rfl fo55_7) ?_
                refine J_q 54 rfl rfl rfl rfl (Q_ldB1 (k := 1) hS5 rfl rfl rfl Try.isAgg9 rfl) ?_
                refine J_q 55 rfl rfl rfl rfl (Q_fa0 rfl rfl fo55_7) ?_
                refine J_q 56 rfl rfl rfl rfl (Q_ldB1 (k := 2) hS5 rfl rfl rfl Try.isAgg9 rfl) ?_
                refine J_q 57 rfl rfl rfl rfl (Q_eqlS rfl rfl rfl) ?_
                refine J_q 58 rfl rfl rfl rfl (Q_pickT rfl rfl rfl) ?_
                refine J_q 59 rfl rfl rfl rfl (Q_move rfl rfl) ?_
                refine J_split 59 rfl (fun h11 => ?_) (fun h11 => ?_)
                · refine J_q 60 rfl rfl rfl rfl (Q_fa0 rfl rfl fo55_8) ?_
                  refine J_q 61 rfl rfl rfl rfl (Q_ldB1 (k := 1) hS5 rfl rfl rfl Try.isAgg9 rfl) ?_
                  refine J_q 62 rfl rfl rfl rfl (Q_fa0 rfl rfl fo55_8) ?_
                  refine J_q 63 rfl rfl rfl rfl (Q_ldB1 (k := 2) hS5 rfl rfl rfl Try.isAgg9 rfl) ?_
                  refine J_q 64 rfl rfl rfl rfl (Q_eqlS rfl rfl rfl) ?_
                  refine J_q 65 rfl rfl rfl rfl (Q_pickT rfl rfl rfl) ?_
                  refine J_q 4 rfl rfl rfl rfl (Q_assign rfl rfl) ?_
                  refine J_nil (K_seq ?_)
                  refine C_ret (body_ret (res1 rfl rfl) ?_)
                  exact ⟨congrArg Ending.returned (eqB (by first | (refine decide_eq_decide.2 ?_; rw [Change.eq_iff]; grind) | (refine (decide_eq_false ?_).symm; rw [Change.eq_iff]; grind))), hS5.kept (k := 0) rfl⟩
                · refine J_no rfl rfl rfl ?_
                  refine J_no rfl rfl rfl ?_
                  refine J_no rfl rfl rfl ?_
                  refine J_no rfl rfl rfl ?_
                  refine J_no rfl rfl rfl ?_
                  refine J_q 65 rfl rfl rfl rfl (Q_pickF rfl rfl rfl) ?_
                  refine J_q 4 rfl rfl rfl rfl (Q_assign rfl rfl) ?_
                  refine J_nil (K_seq ?_)
                  refine C_ret (body_ret (res1 rfl rfl) ?_)
                  exact ⟨congrArg Ending.returned (eqB (by first | (refine decide_eq_decide.2 ?_; rw [Change.eq_iff]; grind) | (refine (decide_eq_false ?_).symm; rw [Change.eq_iff]; grind))), hS5.kept (k := 0) rfl⟩
              · refine J_no rfl rfl rfl ?_
                refine J_no rfl rfl rfl ?_
                refine J_no rfl rfl rfl ?_
                refine J_no rfl rfl rfl ?_
                refine J_no rfl rfl rfl ?_
                refine J_q 58 rfl rfl rfl rfl (Q_pickF rfl rfl rfl) ?_
                refine J_q 59 rfl rfl rfl rfl (Q_move rfl rfl) ?_
                refine J_no rfl rfl rfl ?_
                refine J_no rfl rfl rfl ?_
                refine J_no rfl rfl rfl ?_
                refine J_no rfl rfl rfl ?_
                refine J_no rfl rfl rfl ?_
                refine J_q 65 rfl rfl rfl rfl (Q_pickF rfl rfl rfl) ?_
                refine J_q 4 rfl rfl rfl rfl (Q_assign rfl rfl) ?_
                refine J_nil (K_seq ?_)
                refine C_ret (body_ret (res1 rfl rfl) ?_)
                exact ⟨congrArg Ending.returned (eqB (by first | (refine decide_eq_decide.2 ?_; rw [Change.eq_iff]; grind) | (refine (decide_eq_false ?_).symm; rw [Change.eq_iff]; grind))), hS5.kept (k := 0) rfl⟩
            · refine J_no rfl rfl rfl ?_
              refine J_no rfl rfl rfl ?_
              refine J_no rfl rfl rfl ?_
              refine J_no rfl rfl rfl ?_
              refine J_no rfl rfl rfl ?_
              refine J_q 51 rfl rfl rfl rfl (Q_pickF rfl rfl rfl) ?_
              refine J_q 52 rfl rfl rfl rfl (Q_move rfl rfl) ?_
              refine J_no rfl rfl rfl ?_
              refine J_no rfl rfl rfl ?_
              refine J_no rfl rfl rfl ?_
              refine J_no rfl rfl rfl ?_
              refine J_no rfl rfl rfl ?_
              refine J_q 58 rfl rfl rfl rfl (Q_pickF rfl rfl rfl) ?_
              refine J_q 59 rfl rfl rfl rfl (Q_move rfl rfl) ?_
              refine J_no rfl rfl rfl ?_
              refine J_no rfl rfl rfl ?_
              refine J_no rfl rfl rfl ?_
              refine J_no rfl rfl rfl ?_
              refine J_no rfl rfl rfl ?_
              refine J_q 65 rfl rfl rfl rfl (Q_pickF rfl rfl rfl) ?_
              refine J_q 4 rfl rfl rfl rfl (Q_assign rfl rfl) ?_
              refine J_nil (K_seq ?_)
              refine C_ret (body_ret (res1 rfl rfl) ?_)
              exact ⟨congrArg Ending.returned (eqB (by first | (refine decide_eq_decide.2 ?_; rw [Change.eq_iff]; grind) | (refine (decide_eq_false ?_).symm; rw [Change.eq_iff]; grind))), hS5.kept (k := 0) rfl⟩
          · refine J_no rfl rfl rfl ?_
            refine J_no rfl rfl rfl ?_
            refine J_no rfl rfl rfl ?_
            refine J_no rfl rfl rfl ?_
            refine J_no rfl rfl rfl ?_
            refine J_q 44 rfl rfl rfl rfl (Q_pickF rfl rfl rfl) ?_
            refine J_q 45 rfl rfl rfl rfl (Q_move rfl rfl) ?_
            refine J_no rfl rfl rfl ?_
            refine J_no rfl rfl rfl ?_
            refine J_no rfl rfl rfl ?_
            refine J_no rfl rfl rfl ?_
            refine J_no rfl rfl rfl ?_
            refine J_q 51 rfl rfl rfl rfl (Q_pickF rfl rfl rfl) ?_
            refine J_q 52 rfl rfl rfl rfl (Q_move rfl rfl) ?_
            refine J_no rfl rfl rfl ?_
            refine J_no rfl rfl rfl ?_
            refine J_no rfl rfl rfl ?_
            refine J_no rfl rfl rfl ?_
            refine J_no rfl rfl rfl ?_
            refine J_q 58 rfl rfl rfl rfl (Q_pickF rfl rfl rfl) ?_
            refine J_q 59 rfl rfl rfl rfl (Q_move rfl rfl) ?_
            refine J_no rfl rfl rfl ?_
            refine J_no rfl rfl rfl ?_
            refine J_no rfl rfl rfl ?_
            refine J_no rfl rfl rfl ?_
            refine J_no rfl rfl rfl ?_
            refine J_q 65 rfl rfl rfl rfl (Q_pickF rfl rfl rfl) ?_
            refine J_q 4 rfl rfl rfl rfl (Q_assign rfl rfl) ?_
            refine J_nil (K_seq ?_)
            refine C_ret (body_ret (res1 rfl rfl) ?_)
            exact ⟨congrArg Ending.returned (eqB (by first | (refine decide_eq_decide.2 ?_; rw [Change.eq_iff]; grind) | (refine (decide_eq_false ?_).symm; rw [Change.eq_iff]; grind))), hS5.kept (k := 0) rfl⟩
        · refine J_no rfl rfl rfl ?_
          refine J_no rfl rfl rfl ?_
          refine J_no rfl rfl rfl ?_
          refine J_no rfl rfl rfl ?_
          refine J_no rfl rfl rfl ?_
          refine J_q 37 rfl rfl rfl rfl (Q_pickF rfl rfl rfl) ?_
          refine J_q 38 rfl rfl rfl rfl (Q_move rfl rfl) ?_
          refine J_no rfl rfl rfl ?_
          refine J_no rfl rfl rfl ?_
          refine J_no rfl rfl rfl ?_
          refine J_no rfl rfl rfl ?_
          refine J_no rfl rfl rfl ?_
          refine J_q 44 rfl rfl rfl rfl (Q_pickF rfl rfl rfl) ?_
          refine J_q 45 rfl rfl rfl rfl (Q_move rfl rfl) ?_
          refine J_no rfl rfl rfl ?_
          refine J_no rfl rfl rfl ?_
          refine J_no rfl rfl rfl ?_
          refine J_no rfl rfl rfl ?_
          refine J_no rfl rfl rfl ?_
          refine J_q 51 rfl rfl rfl rfl (Q_pickF rfl rfl rfl) ?_
          refine J_q 52 rfl rfl rfl rfl (Q_move rfl rfl) ?_
          refine J_no rfl rfl rfl ?_
          refine J_no rfl rfl rfl ?_
          refine J_no rfl rfl rfl ?_
          refine J_no rfl rfl rfl ?_
          refine J_no rfl rfl rfl ?_
          refine J_q 58 rfl rfl rfl rfl (Q_pickF rfl rfl rfl) ?_
          refine J_q 59 rfl rfl rfl rfl (Q_move rfl rfl) ?_
          refine J_no rfl rfl rfl ?_
          refine J_no rfl rfl rfl ?_
          refine J_no rfl rfl rfl ?_
          refine J_no rfl rfl rfl ?_
          refine J_no rfl rfl rfl ?_
          refine J_q 65 rfl rfl rfl rfl (Q_pickF rfl rfl rfl) ?_
          refine J_q 4 rfl rfl rfl rfl (Q_assign rfl rfl) ?_
          refine J_nil (K_seq ?_)
          refine C_ret (body_ret (res1 rfl rfl) ?_)
          exact ⟨congrArg Ending.returned (eqB (by first | (refine decide_eq_decide.2 ?_; rw [Change.eq_iff]; grind) | (refine (decide_eq_false ?_).symm; rw [Change.eq_iff]; grind))), hS5.kept (k := 0) rfl⟩
      · refine J_no rfl rfl rfl ?_
        refine J_no rfl rfl rfl ?_
        refine J_no rfl rfl rfl ?_
        refine J_no rfl rfl rfl ?_
        refine J_no rfl rfl rfl ?_
        refine J_q 30 rfl rfl rfl rfl (Q_pickF rfl rfl rfl) ?_
        refine J_q 31 rfl rfl rfl rfl (Q_move rfl rfl) ?_
        refine J_no rfl rfl rfl ?_
        refine J_no rfl rfl rfl ?_
        refine J_no rfl rfl rfl ?_
        refine J_no rfl rfl rfl ?_
        refine J_no rfl rfl rfl ?_
        refine J_q 37 rfl rfl rfl rfl (Q_pickF rfl rfl rfl) ?_
        refine J_q 38 rfl rfl rfl rfl (Q_move rfl rfl) ?_
        refine J_no rfl rfl rfl ?_
        refine J_no rfl rfl rfl ?_
        refine J_no rfl rfl rfl ?_
        refine J_no rfl rfl rfl ?_
        refine J_no rfl rfl rfl ?_
        refine J_q 44 rfl rfl rfl rfl (Q_pickF rfl rfl rfl) ?_
        refine J_q 45 rfl rfl rfl rfl (Q_move rfl rfl) ?_
        refine J_no rfl rfl rfl ?_
        refine J_no rfl rfl rfl ?_
        refine J_no rfl rfl rfl ?_
        refine J_no rfl rfl rfl ?_
        refine J_no rfl rfl rfl ?_
        refine J_q 51 rfl rfl rfl rfl (Q_pickF rfl rfl rfl) ?_
        refine J_q 52 rfl rfl rfl rfl (Q_move rfl rfl) ?_
        refine J_no rfl rfl rfl ?_
        refine J_no rfl rfl rfl ?_
        refine J_no rfl rfl rfl ?_
        refine J_no rfl rfl rfl ?_
        refine J_no rfl rfl rfl ?_
        refine J_q 58 rfl rfl rfl rfl (Q_pickF rfl rfl rfl) ?_
        refine J_q 59 rfl rfl rfl rfl (Q_move rfl rfl) ?_
        refine J_no rfl rfl rfl ?_
        refine J_no rfl rfl rfl ?_
        refine J_no rfl rfl rfl ?_
        refine J_no rfl rfl rfl ?_
        refine J_no rfl rfl rfl ?_
        refine J_q 65 rfl rfl rfl rfl (Q_pickF rfl rfl rfl) ?_
        refine J_q 4 rfl rfl rfl rfl (Q_assign rfl rfl) ?_
        refine J_nil (K_seq ?_)
        refine C_ret (body_ret (res1 rfl rfl) ?_)
        exact ⟨congrArg Ending.returned (eqB (by first | (refine decide_eq_decide.2 ?_; rw [Change.eq_iff]; grind) | (refine (decide_eq_false ?_).symm; rw [Change.eq_iff]; grind))), hS5.kept (k := 0) rfl⟩
    · refine J_no rfl rfl rfl ?_
      refine J_no rfl rfl rfl ?_
      refine J_no rfl rfl rfl ?_
      refine J_no rfl rfl rfl ?_
      refine J_no rfl rfl rfl ?_
      refine J_q 23 rfl rfl rfl rfl (Q_pickF rfl rfl rfl) ?_
      refine J_q 24 rfl rfl rfl rfl (Q_move rfl rfl) ?_
      refine J_no rfl rfl rfl ?_
      refine J_no rfl rfl rfl ?_
      refine J_no rfl rfl rfl ?_
      refine J_no rfl rfl rfl ?_
      refine J_no rfl rfl rfl ?_
      refine J_q 30 rfl rfl rfl rfl (Q_pickF rfl rfl rfl) ?_
      refine J_q 31 rfl rfl rfl rfl (Q_move rfl rfl) ?_
      refine J_no rfl rfl rfl ?_
      refine J_no rfl rfl rfl ?_
      refine J_no rfl rfl rfl ?_
      refine J_no rfl rfl rfl ?_
      refine J_no rfl rfl rfl ?_
      refine J_q 37 rfl rfl rfl rfl (Q_pickF rfl rfl rfl) ?_
      refine J_q 38 rfl rfl rfl rfl (Q_move rfl rfl) ?_
      refine J_no rfl rfl rfl ?_
      refine J_no rfl rfl rfl ?_
      refine J_no rfl rfl rfl ?_
      refine J_no rfl rfl rfl ?_
      refine J_no rfl rfl rfl ?_
      refine J_q 44 rfl rfl rfl rfl (Q_pickF rfl rfl rfl) ?_
      refine J_q 45 rfl rfl rfl rfl (Q_move rfl rfl) ?_
      refine J_no rfl rfl rfl ?_
      refine J_no rfl rfl rfl ?_
      refine J_no rfl rfl rfl ?_
      refine J_no rfl rfl rfl ?_
      refine J_no rfl rfl rfl ?_
      refine J_q 51 rfl rfl rfl rfl (Q_pickF rfl rfl rfl) ?_
      refine J_q 52 rfl rfl rfl rfl (Q_move rfl rfl) ?_
      refine J_no rfl rfl rfl ?_
      refine J_no rfl rfl rfl ?_
      refine J_no rfl rfl rfl ?_
      refine J_no rfl rfl rfl ?_
      refine J_no rfl rfl rfl ?_
      refine J_q 58 rfl rfl rfl rfl (Q_pickF rfl rfl rfl) ?_
      refine J_q 59 rfl rfl rfl rfl (Q_move rfl rfl) ?_
      refine J_no rfl rfl rfl ?_
      refine J_no rfl rfl rfl ?_
      refine J_no rfl rfl rfl ?_
      refine J_no rfl rfl rfl ?_
      refine J_no rfl rfl rfl ?_
      refine J_q 65 rfl rfl rfl rfl (Q_pickF rfl rfl rfl) ?_
      refine J_q 4 rfl rfl rfl rfl (Q_assign rfl rfl) ?_
      refine J_nil (K_seq ?_)
      refine C_ret (body_ret (res1 rfl rfl) ?_)
      exact ⟨congrArg Ending.returned (eqB (by first | (refine decide_eq_decide.2 ?_; rw [Change.eq_iff]; grind) | (refine (decide_eq_false ?_).symm; rw [Change.eq_iff]; grind))), hS2.kept (k := 0) rfl⟩
  · refine J_no rfl rfl rfl ?_
    refine J_no rfl rfl rfl ?_
    refine J_no rfl rfl rfl ?_
    refine J_no rfl rfl rfl ?_
    refine J_no rfl rfl rfl ?_
    refine J_q 16 rfl rfl rfl rfl (Q_pickF rfl rfl rfl) ?_
    refine J_q 17 rfl rfl rfl rfl (Q_move rfl rfl) ?_
    refine J_no rfl rfl rfl ?_
    refine J_no rfl rfl rfl ?_
    refine J_no rfl rfl rfl ?_
    refine J_no rfl rfl rfl ?_
    refine J_no rfl rfl rfl ?_
    refine J_q 23 rfl rfl rfl rfl (Q_pickF rfl rfl rfl) ?_
    refine J_q 24 rfl rfl rfl rfl (Q_move rfl rfl) ?_
    refine J_no rfl rfl rfl ?_
    refine J_no rfl rfl rfl ?_
    refine J_no rfl rfl rfl ?_
    refine J_no rfl rfl rfl ?_
    refine J_no rfl rfl rfl ?_
    refine J_q 30 rfl rfl rfl rfl (Q_pickF rfl rfl rfl) ?_
    refine J_q 31 rfl rfl rfl rfl (Q_move rfl rfl) ?_
    refine J_no rfl rfl rfl ?_
    refine J_no rfl rfl rfl ?_
    refine J_no rfl rfl rfl ?_
    refine J_no rfl rfl rfl ?_
    refine J_no rfl rfl rfl ?_
    refine J_q 37 rfl rfl rfl rfl (Q_pickF rfl rfl rfl) ?_
    refine J_q 38 rfl rfl rfl rfl (Q_move rfl rfl) ?_
    refine J_no rfl rfl rfl ?_
    refine J_no rfl rfl rfl ?_
    refine J_no rfl rfl rfl ?_
    refine J_no rfl rfl rfl ?_
    refine J_no rfl rfl rfl ?_
    refine J_q 44 rfl rfl rfl rfl (Q_pickF rfl rfl rfl) ?_
    refine J_q 45 rfl rfl rfl rfl (Q_move rfl rfl) ?_
    refine J_no rfl rfl rfl ?_
    refine J_no rfl rfl rfl ?_
    refine J_no rfl rfl rfl ?_
    refine J_no rfl rfl rfl ?_
    refine J_no rfl rfl rfl ?_
    refine J_q 51 rfl rfl rfl rfl (Q_pickF rfl rfl rfl) ?_
    refine J_q 52 rfl rfl rfl rfl (Q_move rfl rfl) ?_
    refine J_no rfl rfl rfl ?_
    refine J_no rfl rfl rfl ?_
    refine J_no rfl rfl rfl ?_
    refine J_no rfl rfl rfl ?_
    refine J_no rfl rfl rfl ?_
    refine J_q 58 rfl rfl rfl rfl (Q_pickF rfl rfl rfl) ?_
    refine J_q 59 rfl rfl rfl rfl (Q_move rfl rfl) ?_
    refine J_no rfl rfl rfl ?_
    refine J_no rfl rfl rfl ?_
    refine J_no rfl rfl rfl ?_
    refine J_no rfl rfl rfl ?_
    refine J_no rfl rfl rfl ?_
    refine J_q 65 rfl rfl rfl rfl (Q_pickF rfl rfl rfl) ?_
    refine J_q 4 rfl rfl rfl rfl (Q_assign rfl rfl) ?_
    refine J_nil (K_seq ?_)
    refine C_ret (body_ret (res1 rfl rfl) ?_)
    exact ⟨congrArg Ending.returned (eqB (by first | (refine decide_eq_decide.2 ?_; rw [Change.eq_iff]; grind) | (refine (decide_eq_false ?_).symm; rw [Change.eq_iff]; grind))), hS2.kept (k := 0) rfl⟩
end Go.Proofs.Ytceeellnjckmiaa

/- Printed by a program of mine (gen.py). -/
set_option maxRecDepth 100000
namespace Go.Proofs.Ytceeellnjckmiaa
open Go Go.Sl
theorem app44 : AppOk Try.prog 44 3 1 8 := ⟨Try.underlying44, ⟨_, _, Try.type3, rfl, rfl, rfl, rfl⟩, by decide⟩
theorem CTrim_calls (w : World) (v_c : Value) (c : List Int) (h_c : (tSl tI).rd w [v_c] c) :
    Calls Try.prog 85 #[v_c] w fun e w' => ∃ v0, e = .returned (v0) ∧ Kp no w w' ∧ RdF (tSl tI) w' (nw w w') [v0] (trim c) := by
  have hS0 := St.start w
  have hF_c := RdF.of_rd h_c
  obtain ⟨A_c, cap_c, rfl, hc_c, hm_c⟩ := hF_c.slice
  refine fn_calls' 23 (args := [_]) Try.func85 rfl rfl rfl ?_
  refine C_seq ?_
  refine C_region ?_
  refine J_q 2 rfl rfl rfl rfl (Q_assign rfl rfl) ?_
  refine J_nil (K_seq ?_)
  refine C_seq ?_
  refine C_region ?_
  refine J_q 4 rfl rfl rfl rfl (Q_move rfl rfl) ?_
  refine J_q 5 rfl rfl rfl rfl (Q_len rfl rfl Try.underlying44) ?_
  refine J_q 3 rfl rfl rfl rfl (Q_assign rfl rfl) ?_
  refine J_nil (K_seq ?_)
  refine C_seq ?_
  refine C_block ?_
  refine C_loop1 (fun (n : Int) => n.toNat) (fun (n : Int) => [(0, .slice A_c c.length cap_c), (2, .slice none 0 0), (4, .slice A_c c.length cap_c), (5, .int .i64 (c.length : Int)), (3, .int .i64 n)]) (fun (n : Int) w' => (0 ≤ n) ∧ (n ≤ c.length) ∧ (∀ j : Int, n ≤ j → j < c.length → nth c j = 0) ∧ St w w' [(0, fz w (lt_ w))]) (c.length : Int) ⟨(by first | omega | (intro j hj0 hj1; omega)), (by first | omega | (intro j hj0 hj1; omega)), (by first | omega | (intro j hj0 hj1; omega)), hS0⟩ ⟨rfl, rfl, rfl, rfl, rfl, trivial⟩ ?_
  rintro n w1 ⟨h0, h1, hz, hS1⟩
  refine C_seq ?_
  refine C_seq ?_
  refine C_region ?_
  refine J_q 6 rfl rfl rfl rfl (Q_move rfl rfl) ?_
  refine J_q 7 rfl rfl rfl rfl (Q_gtr rfl rfl rfl) ?_
  refine J_q 8 rfl rfl rfl rfl (Q_move rfl rfl) ?_
  refine J_split 8 rfl (fun h2 => ?_) (fun h2 => ?_)
  · refine J_q 9 rfl rfl rfl rfl (Q_move rfl rfl) ?_
    refine J_q 10 rfl rfl rfl rfl (Q_move rfl rfl) ?_
    refine J_q 11 rfl rfl rfl rfl (Q_sub rfl rfl rfl (by omega) (by omega)) ?_
    obtain ⟨ad3, es3, hA3, hr3, hc3⟩ := RdF.nth hF_c (n - 1) (by omega) (by omega)
    obtain ⟨rfl, ho3⟩ := openI hr3
    refine J_q 12 rfl rfl rfl rfl (Q_iaE hA3 rfl rfl rfl Try.underlying44 Try.sizeOf3 (by omega) (by omega)) ?_
    refine J_q 13 rfl rfl rfl rfl (Q_ldC1' (hc3 _ (hS1.get (k := 0) rfl)) rfl rfl Try.isAgg3 rfl) ?_
    refine J_q 14 rfl rfl rfl rfl (Q_eql rfl rfl rfl) ?_
    refine J_q 15 rfl rfl rfl rfl (Q_pickT rfl rfl rfl) ?_
    refine J_nil (K_seq ?_)
    refine C_if rfl (fun h4 => ?_) (fun h4 => ?_)
    · refine C_skip (K_seq ?_)
      refine C_block ?_
      refine C_region ?_
      refine J_q 16 rfl rfl rfl rfl (Q_move rfl rfl) ?_
      refine J_q 17 rfl rfl rfl rfl (Q_sub rfl rfl rfl (by omega) (by omega)) ?_
      refine J_q 3 rfl rfl rfl rfl (Q_assign rfl rfl) ?_
      exact J_nil (N_blk (K_round1 (x0 := n) (n - 1) ⟨(by first | omega | (exact zs_snoc hz (by omega))), (by first | omega | (exact zs_snoc hz (by omega))), (by first | omega | (exact zs_snoc hz (by omega))), hS1⟩ (by omega) ⟨rfl, rfl, rfl, rfl, rfl, trivial⟩))
    · refine C_exit (X_then (X_then (X_hit (K_seq ?_))))
      refine C_seq ?_
      refine C_region ?_
      refine J_do 18 rfl rfl rfl rfl (D_bs (e := 3) (ps := []) 1 ([]) hS1 rfl rfl (fun _ => by kernel_rfl) (fun g5 w5 hS5 => ?_))
      refine J_q 19 rfl rfl rfl rfl (Q_move rfl rfl) ?_
      refine J_q 20 rfl rfl rfl rfl (Q_move rfl rfl) ?_
      have hr6 := RdF.sub (l := 0) (h := n) hF_c (by omega) (by omega) (by omega)
      have hl6 := sub_len (xs := c) (l := 0) (h := n) (by omega) (by omega) (by omega)
      have hc6 := hF_c.cap_le
      refine J_q 21 rfl rfl rfl rfl (Q_sliceR tI c 0 n rfl rfl rfl rfl (.inl ⟨rfl, rfl⟩) (.inr rfl) Try.underlying44 Try.sizeOf3 (by omega) (by omega) (by omega) hc6) ?_
      have hS7 := hS5.lit0 (sz := 1) 1 rfl
      refine J_do 22 rfl rfl rfl rfl (D_appSL ([]) (sub c 0 n) app44 hS7 1 rfl 0 rfl rfl rfl rfl hr6 (by first | omega | (simp only [List.length_nil, List.length_append, List.length_cons]; omega)) (by first | omega | (simp only [List.length_nil, List.length_append, List.length_cons]; omega)) (fun A8 cap8 gl8 w8 hR8 hc8 hS8 => ?_))
      have hR8 := Reps.int (W' := w) hR8
      refine J_q 2 rfl rfl rfl rfl (Q_assign rfl rfl) ?_
      refine J_nil (K_seq ?_)
      refine C_ret (body_ret (res1 rfl rfl) ?_)
      exact ⟨_, rfl, hS8.kept (k := 0) rfl, own_eq (by first | (exact (trim_eq (by omega) (by omega) (by assumption) (by omega)).symm)) (hS8.give (d := tI) rfl 1 rfl rfl rfl (Reps.append (Reps.nil _ _ _) hR8) (show _ ≤ 68719476736 by first | omega | (simp only [List.length_nil, List.length_append, List.length_cons]; omega)))⟩
  · refine J_no rfl rfl rfl ?_
    refine J_no rfl rfl rfl ?_
    refine J_no rfl rfl rfl ?_
    refine J_no rfl rfl rfl ?_
    refine J_no rfl rfl rfl ?_
    refine J_no rfl rfl rfl ?_
    refine J_q 15 rfl rfl rfl rfl (Q_pickF rfl rfl rfl) ?_
    refine J_nil (K_seq ?_)
    refine C_false rfl ?_
    refine C_exit (X_then (X_then (X_hit (K_seq ?_))))
    refine C_seq ?_
    refine C_region ?_
    refine J_do 18 rfl rfl rfl rfl (D_bs (e := 3) (ps := []) 2 ([]) hS1 rfl rfl (fun _ => by kernel_rfl) (fun g9 w9 hS9 => ?_))
    refine J_q 19 rfl rfl rfl rfl (Q_move rfl rfl) ?_
    refine J_q 20 rfl rfl rfl rfl (Q_move rfl rfl) ?_
    have hr10 := RdF.sub (l := 0) (h := n) hF_c (by omega) (by omega) (by omega)
    have hl10 := sub_len (xs := c) (l := 0) (h := n) (by omega) (by omega) (by omega)
    have hc10 := hF_c.cap_le
    refine J_q 21 rfl rfl rfl rfl (Q_sliceR tI c 0 n rfl rfl rfl rfl (.inl ⟨rfl, rfl⟩) (.inr rfl) Try.underlying44 Try.sizeOf3 (by omega) (by omega) (by omega) hc10) ?_
    have hS11 := hS9.lit0 (sz := 1) 2 rfl
    refine J_do 22 rfl rfl rfl rfl (D_appSL ([]) (sub c 0 n) app44 hS11 2 rfl 0 rfl rfl rfl rfl hr10 (by first | omega | (simp only [List.length_nil, List.length_append, List.length_cons]; omega)) (by first | omega | (simp only [List.length_nil, List.length_append, List.length_cons]; omega)) (fun A12 cap12 gl12 w12 hR12 hc12 hS12 => ?_))
    have hR12 := Reps.int (W' := w) hR12
    refine J_q 2 rfl rfl rfl rfl (Q_assign rfl rfl) ?_
    refine J_nil (K_seq ?_)
    refine C_ret (body_ret (res1 rfl rfl) ?_)
    exact ⟨_, rfl, hS12.kept (k := 0) rfl, own_eq (by first | (exact (trim_eq (by omega) (by omega) (by assumption) (by omega)).symm)) (hS12.give (d := tI) rfl 2 rfl rfl rfl (Reps.append (Reps.nil _ _ _) hR12) (show _ ≤ 68719476736 by first | omega | (simp only [List.length_nil, List.length_append, List.length_cons]; omega)))⟩

theorem RTrim_calls (w : World) (v_c : Value) (c : List Int) (h_c : (tSl tI).rd w [v_c] c) :
    Calls Try.prog 78 #[v_c] w fun e w' => ∃ v0, e = .returned (v0) ∧ Kp no w w' ∧ RdF (tSl tI) w' (nw w w') [v0] (trim c) := by
  have hS0 := St.start w
  have hF_c := RdF.of_rd h_c
  obtain ⟨A_c, cap_c, rfl, hc_c, hm_c⟩ := hF_c.slice
  refine fn_calls' 35 (args := [_]) Try.func78 rfl rfl rfl ?_
  refine C_seq ?_
  refine C_region ?_
  refine J_q 2 rfl rfl rfl rfl (Q_assign rfl rfl) ?_
  refine J_nil (K_seq ?_)
  refine C_seq ?_
  refine C_region ?_
  refine J_do 6 rfl rfl rfl rfl (D_bs (e := 3) (ps := []) 1 ([]) hS0 rfl rfl (fun _ => by kernel_rfl) (fun g1 w1 hS1 => ?_))
  refine J_q 3 rfl rfl rfl rfl (Q_assign rfl rfl) ?_
  refine J_nil (K_seq ?_)
  refine C_seq ?_
  refine C_region ?_
  refine J_q 4 rfl rfl rfl rfl (Q_assign rfl rfl) ?_
  refine J_nil (K_seq ?_)
  refine C_seq ?_
  refine C_seq ?_
  refine C_region ?_
  refine J_q 5 rfl rfl rfl rfl (Q_assign rfl rfl) ?_
  refine J_nil (K_seq ?_)
  refine C_block ?_
  have hS2 := hS1.lit0 (sz := 1) 1 rfl
  refine C_loop3 (fun (i : Int) (z : Int) (out : Row Int) => (c.length - i).toNat) (fun (i : Int) (z : Int) (out : Row Int) => [(0, .slice A_c c.length cap_c), (2, .slice none 0 0), (6, .slice (some ⟨g1, 0, none⟩) 0 0), (5, .int .i64 i), (4, .int .i64 z), (3, .slice out.A out.l.length out.c)]) (fun (i : Int) (z : Int) (out : Row Int) w' => (0 ≤ i) ∧ (i ≤ c.length) ∧ (0 ≤ z) ∧ (z ≤ i) ∧ (out.l ++ List.replicate z.toNat 0 = tk c i) ∧ (out.l = trim (tk c i)) ∧ (Reps tI w no out.l out.f) ∧ St w w' [(1, own 3 1 (.slice out.A out.l.length out.c) out.l.length out.f), (0, fz w (lt_ w))]) 0 0 (⟨some ⟨g1, 0, none⟩, 0, [], []⟩) ⟨(by first | omega | (simp [tk]; done) | rfl), (by first | omega | (simp [tk]; done) | rfl), (by first | omega | (simp [tk]; done) | rfl), (by first | omega | (simp [tk]; done) | rfl), (by first | omega | (simp [tk]; done) | rfl), (by first | omega | (simp [tk]; done) | rfl), (Reps.nil _ _ _), hS2⟩ ⟨rfl, rfl, rfl, rfl, rfl, rfl, trivial⟩ ?_
  rintro i z out w3 ⟨h0, h1, hz, hzi, ha, hn, hR_out, hS3⟩
  refine C_seq ?_
  refine C_seq ?_
  refine C_region ?_
  refine J_q 7 rfl rfl rfl rfl (Q_move rfl rfl) ?_
  refine J_q 8 rfl rfl rfl rfl (Q_move rfl rfl) ?_
  refine J_q 9 rfl rfl rfl rfl (Q_len rfl rfl Try.underlying44) ?_
  refine J_q 10 rfl rfl rfl rfl (Q_lss rfl rfl rfl) ?_
  refine J_nil (K_seq ?_)
  refine C_if rfl (fun h4 => ?_) (fun h4 => ?_)
  · refine C_skip (K_seq ?_)
    refine C_seq ?_
    refine C_block ?_
    refine C_seq ?_
    refine C_seq ?_
    refine C_region ?_
    refine J_q 13 rfl rfl rfl rfl (Q_move rfl rfl) ?_
    refine J_q 14 rfl rfl rfl rfl (Q_move rfl rfl) ?_
    obtain ⟨ad5, es5, hA5, hr5, hc5⟩ := RdF.nth hF_c i (by omega) (by omega)
    obtain ⟨rfl, ho5⟩ := openI hr5
    refine J_q 15 rfl rfl rfl rfl (Q_iaE hA5 rfl rfl rfl Try.underlying44 Try.sizeOf3 (by omega) (by omega)) ?_
    refine J_q 16 rfl rfl rfl rfl (Q_ldC1' (hc5 _ (hS3.get (k := 0) rfl)) rfl rfl Try.isAgg3 rfl) ?_
    refine J_q 17 rfl rfl rfl rfl (Q_eql rfl rfl rfl) ?_
    refine J_nil (K_seq ?_)
    refine C_if rfl (fun h6 => ?_) (fun h6 => ?_)
    · refine C_seq ?_
      refine C_region ?_
      refine J_q 18 rfl rfl rfl rfl (Q_move rfl rfl) ?_
      refine J_q 19 rfl rfl rfl rfl (Q_add rfl rfl rfl (by omega) (by omega)) ?_
      refine J_q 4 rfl rfl rfl rfl (Q_assign rfl rfl) ?_
      refine J_nil (K_seq ?_)
      refine C_exit (X_then (X_hit (K_seq ?_)))
      refine C_region ?_
      refine J_q 11 rfl rfl rfl rfl (Q_move rfl rfl) ?_
      refine J_q 12 rfl rfl rfl rfl (Q_add rfl rfl rfl (by omega) (by omega)) ?_
      refine J_q 5 rfl rfl rfl rfl (Q_assign rfl rfl) ?_
      exact J_nil (K_round3 (x0 := i) (x1 := z) (x2 := out) (i + 1) (z + 1) ⟨out.A, out.c, out.f, out.l⟩ ⟨(by first | omega | (exact held_zero h0 (by omega) hz ha (by assumption)) | (rw [hn, tk_snoc h0 (by omega), (by assumption : nth c i = 0), trim_zero]) | (rw [held_none (by assumption) ha2, tk_snoc h0 (by omega), trim_last _ (by assumption)]) | (rw [held_none (by assumption) ha2, tk_snoc h0 (by omega), show z2 = 0 by omega]; simp)), (by first | omega | (exact held_zero h0 (by omega) hz ha (by assumption)) | (rw [hn, tk_snoc h0 (by omega), (by assumption : nth c i = 0), trim_zero]) | (rw [held_none (by assumption) ha2, tk_snoc h0 (by omega), trim_last _ (by assumption)]) | (rw [held_none (by assumption) ha2, tk_snoc h0 (by omega), show z2 = 0 by omega]; simp)), (by first | omega | (exact held_zero h0 (by omega) hz ha (by assumption)) | (rw [hn, tk_snoc h0 (by omega), (by assumption : nth c i = 0), trim_zero]) | (rw [held_none (by assumption) ha2, tk_snoc h0 (by omega), trim_last _ (by assumption)]) | (rw [held_none (by assumption) ha2, tk_snoc h0 (by omega), show z2 = 0 by omega]; simp)), (by first | omega | (exact held_zero h0 (by omega) hz ha (by assumption)) | (rw [hn, tk_snoc h0 (by omega), (by assumption : nth c i = 0), trim_zero]) | (rw [held_none (by assumption) ha2, tk_snoc h0 (by omega), trim_last _ (by assumption)]) | (rw [held_none (by assumption) ha2, tk_snoc h0 (by omega), show z2 = 0 by omega]; simp)), (by first | omega | (exact held_zero h0 (by omega) hz ha (by assumption)) | (rw [hn, tk_snoc h0 (by omega), (by assumption : nth c i = 0), trim_zero]) | (rw [held_none (by assumption) ha2, tk_snoc h0 (by omega), trim_last _ (by assumption)]) | (rw [held_none (by assumption) ha2, tk_snoc h0 (by omega), show z2 = 0 by omega]; simp)), (by first | omega | (exact held_zero h0 (by omega) hz ha (by assumption)) | (rw [hn, tk_snoc h0 (by omega), (by assumption : nth c i = 0), trim_zero]) | (rw [held_none (by assumption) ha2, tk_snoc h0 (by omega), trim_last _ (by assumption)]) | (rw [held_none (by assumption) ha2, tk_snoc h0 (by omega), show z2 = 0 by omega]; simp)), hR_out, hS3⟩ (by omega) ⟨rfl, rfl, rfl, rfl, rfl, rfl, trivial⟩)
    · refine C_skip (K_seq ?_)
      refine C_seq ?_
      refine C_block ?_
      refine C_loop2 (fun (z2 : Int) (out2 : Row Int) => z2.toNat) (fun (z2 : Int) (out2 : Row Int) => [(0, .slice A_c c.length cap_c), (2, .slice none 0 0), (6, .slice (some ⟨g1, 0, none⟩) 0 0), (5, .int .i64 i), (7, .int .i64 i), (8, .slice A_c c.length cap_c), (9, .int .i64 (c.length : Int)), (10, .bool (decide (i < (c.length : Int)))), (13, .slice A_c c.length cap_c), (14, .int .i64 i), (15, .pointer (some (ad5.add (i.toNat * 1)))), (16, .int .i64 (nth c i)), (17, .bool (decide ((nth c i) = 0))), (4, .int .i64 z2), (3, .slice out2.A out2.l.length out2.c)]) (fun (z2 : Int) (out2 : Row Int) w' => (0 ≤ z2) ∧ (z2 ≤ i) ∧ (out2.l ++ List.replicate z2.toNat 0 = tk c i) ∧ (Reps tI w no out2.l out2.f) ∧ St w w' [(1, own 3 1 (.slice out2.A out2.l.length out2.c) out2.l.length out2.f), (0, fz w (lt_ w))]) z (⟨out.A, out.c, out.f, out.l⟩) ⟨(by first | omega | assumption), (by first | omega | assumption), (by first | omega | assumption), hR_out, hS3⟩ ⟨rfl, rfl, rfl, rfl, rfl, rfl, rfl, rfl, rfl, rfl, rfl, rfl, rfl, rfl, rfl, trivial⟩ ?_
      rintro z2 out2 w7 ⟨hz2, hzi2, ha2, hR_out2, hS7⟩
      refine C_seq ?_
      refine C_seq ?_
      refine C_region ?_
      refine J_q 20 rfl rfl rfl rfl (Q_move rfl rfl) ?_
      refine J_q 21 rfl rfl rfl rfl (Q_gtr rfl rfl rfl) ?_
      refine J_nil (K_seq ?_)
      refine C_if rfl (fun h8 => ?_) (fun h8 => ?_)
      · refine C_skip (K_seq ?_)
        refine C_block ?_
        refine C_seq ?_
        refine C_region ?_
        refine J_q 22 rfl rfl rfl rfl (Q_move rfl rfl) ?_
        refine J_do 23 rfl rfl rfl rfl (D_bs (e := 3) (ps := [(0, .const (.int .i64 0))]) 2 ([.int .i64 0]) hS7 rfl rfl (fun _ => by kernel_rfl) (fun g9 w9 hS9 => ?_))
        refine J_do 24 rfl rfl rfl rfl (D_app1L 0 out2.l app44 hS9 1 rfl 2 rfl rfl rfl rfl rfl rfl (by first | (have hq := congrArg List.length ha2; simp [tk] at hq; (try simp only [List.length_nil, List.length_append, List.length_cons]); omega) | (have hq := congrArg List.length ha; simp [tk] at hq; (try simp only [List.length_nil, List.length_append, List.length_cons]); omega)) (by first | (have hq := congrArg List.length ha2; simp [tk] at hq; (try simp only [List.length_nil, List.length_append, List.length_cons]); omega) | (have hq := congrArg List.length ha; simp [tk] at hq; (try simp only [List.length_nil, List.length_append, List.length_cons]); omega)) (fun g10 cap10 w10 hS10 => ?_))
        refine J_q 3 rfl rfl rfl rfl (Q_assign rfl rfl) ?_
        refine J_nil (K_seq ?_)
        refine C_region ?_
        refine J_q 25 rfl rfl rfl rfl (Q_move rfl rfl) ?_
        refine J_q 26 rfl rfl rfl rfl (Q_sub rfl rfl rfl (by omega) (by omega)) ?_
        refine J_q 4 rfl rfl rfl rfl (Q_assign rfl rfl) ?_
        exact J_nil (N_blk (K_round2 (x0 := z2) (x1 := out2) (z2 - 1) ⟨some ⟨g10, 0, none⟩, cap10, out2.f ++ [.int .i64 0], out2.l ++ [0]⟩ ⟨(by first | omega | (exact held_give (by assumption) ha2)), (by first | omega | (exact held_give (by assumption) ha2)), (by first | omega | (exact held_give (by assumption) ha2)), (Reps.snoc hR_out2 (mkI (by omega))), (hS10.pick [1, 0] ⟨rfl, rfl, rfl, rfl, trivial⟩)⟩ (by omega) ⟨rfl, rfl, rfl, rfl, rfl, rfl, rfl, rfl, rfl, rfl, rfl, rfl, rfl, rfl, rfl, trivial⟩))
      · refine C_exit (X_then (X_then (X_hit (K_seq ?_))))
        refine C_region ?_
        refine J_q 27 rfl rfl rfl rfl (Q_move rfl rfl) ?_
        refine J_q 28 rfl rfl rfl rfl (Q_move rfl rfl) ?_
        refine J_q 29 rfl rfl rfl rfl (Q_move rfl rfl) ?_
        refine J_q 30 rfl rfl rfl rfl (Q_iaE hA5 rfl rfl rfl Try.underlying44 Try.sizeOf3 (by omega) (by omega)) ?_
        refine J_q 31 rfl rfl rfl rfl (Q_ldC1' (hc5 _ (hS7.get (k := 0) rfl)) rfl rfl Try.isAgg3 rfl) ?_
        refine J_do 32 rfl rfl rfl rfl (D_bs (e := 3) (ps := [(0, .tmp 31)]) 3 ([.int .i64 (nth c i)]) hS7 rfl rfl (fun _ => by kernel_rfl) (fun g11 w11 hS11 => ?_))
        refine J_do 33 rfl rfl rfl rfl (D_app1L (nth c i) out2.l app44 hS11 1 rfl 3 rfl rfl rfl rfl rfl rfl (by first | (have hq := congrArg List.length ha2; simp [tk] at hq; (try simp only [List.length_nil, List.length_append, List.length_cons]); omega) | (have hq := congrArg List.length ha; simp [tk] at hq; (try simp only [List.length_nil, List.length_append, List.length_cons]); omega)) (by first | (have hq := congrArg List.length ha2; simp [tk] at hq; (try simp only [List.length_nil, List.length_append, List.length_cons]); omega) | (have hq := congrArg List.length ha; simp [tk] at hq; (try simp only [List.length_nil, List.length_append, List.length_cons]); omega)) (fun g12 cap12 w12 hS12 => ?_))
        refine J_q 3 rfl rfl rfl rfl (Q_assign rfl rfl) ?_
        refine J_nil (N_blk (K_seq ?_))
        refine C_region ?_
        refine J_q 11 rfl rfl rfl rfl (Q_move rfl rfl) ?_
        refine J_q 12 rfl rfl rfl rfl (Q_add rfl rfl rfl (by omega) (by omega)) ?_
        refine J_q 5 rfl rfl rfl rfl (Q_assign rfl rfl) ?_
        exact J_nil (K_round3 (x0 := i) (x1 := z) (x2 := out) (i + 1) z2 ⟨some ⟨g12, 0, none⟩, cap12, out2.f ++ [.int .i64 (nth c i)], out2.l ++ [(nth c i)]⟩ ⟨(by first | omega | (exact held_zero h0 (by omega) hz ha (by assumption)) | (rw [hn, tk_snoc h0 (by omega), (by assumption : nth c i = 0), trim_zero]) | (rw [held_none (by assumption) ha2, tk_snoc h0 (by omega), trim_last _ (by assumption)]) | (rw [held_none (by assumption) ha2, tk_snoc h0 (by omega), show z2 = 0 by omega]; simp)), (by first | omega | (exact held_zero h0 (by omega) hz ha (by assumption)) | (rw [hn, tk_snoc h0 (by omega), (by assumption : nth c i = 0), trim_zero]) | (rw [held_none (by assumption) ha2, tk_snoc h0 (by omega), trim_last _ (by assumption)]) | (rw [held_none (by assumption) ha2, tk_snoc h0 (by omega), show z2 = 0 by omega]; simp)), (by first | omega | (exact held_zero h0 (by omega) hz ha (by assumption)) | (rw [hn, tk_snoc h0 (by omega), (by assumption : nth c i = 0), trim_zero]) | (rw [held_none (by assumption) ha2, tk_snoc h0 (by omega), trim_last _ (by assumption)]) | (rw [held_none (by assumption) ha2, tk_snoc h0 (by omega), show z2 = 0 by omega]; simp)), (by first | omega | (exact held_zero h0 (by omega) hz ha (by assumption)) | (rw [hn, tk_snoc h0 (by omega), (by assumption : nth c i = 0), trim_zero]) | (rw [held_none (by assumption) ha2, tk_snoc h0 (by omega), trim_last _ (by assumption)]) | (rw [held_none (by assumption) ha2, tk_snoc h0 (by omega), show z2 = 0 by omega]; simp)), (by first | omega | (exact held_zero h0 (by omega) hz ha (by assumption)) | (rw [hn, tk_snoc h0 (by omega), (by assumption : nth c i = 0), trim_zero]) | (rw [held_none (by assumption) ha2, tk_snoc h0 (by omega), trim_last _ (by assumption)]) | (rw [held_none (by assumption) ha2, tk_snoc h0 (by omega), show z2 = 0 by omega]; simp)), (by first | omega | (exact held_zero h0 (by omega) hz ha (by assumption)) | (rw [hn, tk_snoc h0 (by omega), (by assumption : nth c i = 0), trim_zero]) | (rw [held_none (by assumption) ha2, tk_snoc h0 (by omega), trim_last _ (by assumption)]) | (rw [held_none (by assumption) ha2, tk_snoc h0 (by omega), show z2 = 0 by omega]; simp)), (Reps.snoc hR_out2 (mkI (by omega))), (hS12.pick [1, 0] ⟨rfl, rfl, rfl, rfl, trivial⟩)⟩ (by omega) ⟨rfl, rfl, rfl, rfl, rfl, rfl, trivial⟩)
  · refine C_exit (X_then (X_then (X_hit (K_seq ?_))))
    refine C_seq ?_
    refine C_region ?_
    refine J_q 34 rfl rfl rfl rfl (Q_move rfl rfl) ?_
    refine J_q 2 rfl rfl rfl rfl (Q_assign rfl rfl) ?_
    refine J_nil (K_seq ?_)
    refine C_ret (body_ret (res1 rfl rfl) ?_)
    exact ⟨_, rfl, hS3.kept (k := 0) rfl, own_eq (by rw [hn, tk_full (by omega)]) (hS3.give (d := tI) rfl 1 rfl rfl rfl hR_out (show _ ≤ 68719476736 by first | (have hq := congrArg List.length ha2; simp [tk] at hq; (try simp only [List.length_nil, List.length_append, List.length_cons]); omega) | (have hq := congrArg List.length ha; simp [tk] at hq; (try simp only [List.length_nil, List.length_append, List.length_cons]); omega)))⟩
end Go.Proofs.Ytceeellnjckmiaa

