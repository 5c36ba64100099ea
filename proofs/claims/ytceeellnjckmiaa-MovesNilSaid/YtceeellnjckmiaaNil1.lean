import Derived.Test.YtceeellnjckmiaaSl11
import Derived.Test.YtceeellnjckmiaaProg
set_option linter.unusedVariables false
set_option maxRecDepth 100000
namespace Go.Proofs.Ytceeellnjckmiaa
open Go Go.Sl
theorem mixedOrders : Try.prog.follows .mixedOrders = true := by kernel_rfl
theorem fo25_2 : FieldOk Try.prog 25 2 3 := fieldOk Try.underlying25 rfl rfl Try.sizeOf23
theorem fo25_1 : FieldOk Try.prog 25 1 1 := fieldOk Try.underlying25 rfl rfl Try.sizeOf23
theorem fo25_3 : FieldOk Try.prog 25 3 5 := fieldOk Try.underlying25 rfl rfl Try.sizeOf23
theorem fo23_0 : FieldOk Try.prog 23 0 0 := fieldOk Try.underlying23 rfl rfl Try.sizeOf3
theorem fo23_1 : FieldOk Try.prog 23 1 1 := fieldOk Try.underlying23 rfl rfl Try.sizeOf3
theorem fo103_0 : FieldOk Try.prog 103 0 0 := fieldOk Try.underlying103 rfl rfl Try.sizeOf100
theorem app100 : AppOk Try.prog 100 109 14 112 := ⟨Try.underlying100, ⟨_, _, Try.type109, rfl, rfl, rfl, rfl⟩, by decide⟩
theorem fo103_1 : FieldOk Try.prog 103 1 1 := fieldOk Try.underlying103 rfl rfl Try.sizeOf101
theorem fo109_1 : FieldOk Try.prog 109 1 2 := fieldOk Try.underlying109 rfl rfl Try.sizeOf23
theorem pe23 : PairEq Try.prog 23 := pairEq_of Try.underlying23 (by kernel_rfl) rfl rfl Try.underlying3 Try.underlying3 (fun _ _ _ => by kernel_rfl) (fun _ _ _ => by kernel_rfl) (by kernel_rfl)
theorem stkey23 : StKey Try.prog 23 := stKey_of Try.underlying23 pe23 fun _ _ _ => by kernel_rfl
theorem fo109_4 : FieldOk Try.prog 109 4 7 := fieldOk Try.underlying109 rfl rfl Try.sizeOf28
theorem fo109_5 : FieldOk Try.prog 109 5 13 := fieldOk Try.underlying109 rfl rfl Try.sizeOf4
theorem fo109_2 : FieldOk Try.prog 109 2 4 := fieldOk Try.underlying109 rfl rfl Try.sizeOf23
theorem fo109_3 : FieldOk Try.prog 109 3 6 := fieldOk Try.underlying109 rfl rfl Try.sizeOf4
theorem fo109_0 : FieldOk Try.prog 109 0 0 := fieldOk Try.underlying109 rfl rfl Try.sizeOf23
theorem MovesNil_calls (w : World) (a0 a1 a2 a3 a4 a5 a6 : Int) :
    Calls Try.prog 3 #[.agg #[.int .i64 a0, .int .i64 a1, .int .i64 a2, .int .i64 a3, .int .i64 a4, .int .i64 a5, .int .i64 a6]] w fun e w' => e = .returned (.bool true) ∧ Kp no w w' := by
  have hS0 := St.start w
  refine fn_calls' 80 (args := [_]) Try.func3 rfl rfl rfl ?_
  refine C_seq ?_
  refine C_region ?_
  refine J_do 1 rfl rfl rfl rfl (D_box 1 hS0 rfl rfl (fun g1 w1 hS1 => ?_))
  refine J_q 2 rfl rfl rfl rfl (Q_assign rfl rfl) ?_
  refine J_nil (K_seq ?_)
  refine C_seq ?_
  refine C_region ?_
  refine J_q 3 rfl rfl rfl rfl (Q_assign rfl rfl) ?_
  refine J_nil (K_seq ?_)
  refine C_seq ?_
  refine C_region ?_
  refine J_q 7 rfl rfl rfl rfl (Q_move rfl rfl) ?_
  refine J_q 8 rfl rfl rfl rfl (Q_fa0 rfl rfl fo25_2) ?_
  refine J_q 9 rfl rfl rfl rfl (Q_ldBK (k := 1) ([.int .i64 a3, .int .i64 a4]) hS1 rfl rfl rfl Try.isAgg23 Try.sizeOf23 rfl rfl) ?_
  refine J_in 10 rfl rfl rfl rfl (T_call rfl rfl rfl Try.call13) ?_
  refine fn_calls' 22 (args := [_, _]) Try.func13 rfl rfl rfl ?_
  refine C_seq ?_
  refine C_region ?_
  refine J_do 3 rfl rfl rfl rfl (D_box 2 hS1 rfl rfl (fun g2 w2 hS2 => ?_))
  refine J_do 4 rfl rfl rfl rfl (D_alloc 3 hS2 rfl Try.zeroValue28 (fun g3 w3 hS3 => ?_))
  refine J_q 5 rfl rfl rfl rfl (Q_assign rfl rfl) ?_
  refine J_nil (K_seq ?_)
  refine C_seq ?_
  refine C_seq ?_
  refine C_region ?_
  refine J_q 8 rfl rfl rfl rfl (Q_move rfl rfl) ?_
  refine J_q 9 rfl rfl rfl rfl (Q_eqNilT rfl rfl rfl Try.underlying26) ?_
  refine J_nil (K_seq ?_)
  refine C_true rfl ?_
  refine C_seq ?_
  refine C_region ?_
  refine J_q 10 rfl rfl rfl rfl (Q_bld (v := .agg ([.int .i64 0, .int .i64 0, .int .i64 0, .int .i64 0, .int .i64 0, .int .i64 0]).toArray) (ps := []) rfl rfl (fun _ => by kernel_rfl)) ?_
  refine J_do0 rfl rfl rfl rfl (D_store' (k := 3) hS3 rfl rfl rfl rfl Try.sizeOf28 rfl rfl rfl (fun w4 hS4 => ?_))
  refine J_q 5 rfl rfl rfl rfl (Q_assign rfl rfl) ?_
  refine J_nil (K_seq ?_)
  refine C_ret (R_then (body_ret (resG (vs := [.agg ([.int .i64 0, .int .i64 0, .int .i64 0, .int .i64 0, .int .i64 0, .int .i64 0]).toArray, .bool false]) rfl ⟨rCK ([.int .i64 0, .int .i64 0, .int .i64 0, .int .i64 0, .int .i64 0, .int .i64 0]) (blk_cells (k := 3) hS4 rfl) rfl Try.isAgg28 Try.sizeOf28 rfl rfl, rT rfl, trivial⟩) ?_))
  refine ⟨_, rfl, ?_⟩
  have hS5 : St w w4 [(1, blkL g1 ([.int .i64 a0, .int .i64 a1, .int .i64 a2, .int .i64 a3, .int .i64 a4, .int .i64 a5, .int .i64 a6]) 25), (0, fz w (lt_ w))] := hS4.pick [1, 0] ⟨rfl, rfl, rfl, rfl, trivial⟩
  refine J_q 6 rfl rfl rfl rfl (Q_move rfl rfl) ?_
  refine J_q 11 rfl rfl rfl rfl (Q_extract rfl rfl rfl) ?_
  refine J_q 12 rfl rfl rfl rfl (Q_extract rfl rfl rfl) ?_
  refine J_do 4 rfl rfl rfl rfl (D_alloc 5 hS5 rfl Try.zeroValue28 (fun g6 w6 hS6 => ?_))
  refine J_do0 rfl rfl rfl rfl (D_store' (k := 5) hS6 rfl rfl rfl rfl Try.sizeOf28 rfl rfl rfl (fun w7 hS7 => ?_))
  refine J_q 5 rfl rfl rfl rfl (Q_assign rfl rfl) ?_
  refine J_nil (K_seq ?_)
  refine C_seq ?_
  refine C_region ?_
  refine J_q 13 rfl rfl rfl rfl (Q_move rfl rfl) ?_
  refine J_q 14 rfl rfl rfl rfl (Q_fa0 rfl rfl fo25_1) ?_
  refine J_q 15 rfl rfl rfl rfl (Q_ldBK (k := 1) ([.int .i64 a1, .int .i64 a2]) hS7 rfl rfl rfl Try.isAgg23 Try.sizeOf23 rfl rfl) ?_
  refine J_q 16 rfl rfl rfl rfl (Q_fa0 rfl rfl fo25_2) ?_
  refine J_q 17 rfl rfl rfl rfl (Q_ldBK (k := 1) ([.int .i64 a3, .int .i64 a4]) hS7 rfl rfl rfl Try.isAgg23 Try.sizeOf23 rfl rfl) ?_
  refine J_q 18 rfl rfl rfl rfl (Q_fa0 rfl rfl fo25_3) ?_
  refine J_q 19 rfl rfl rfl rfl (Q_ldBK (k := 1) ([.int .i64 a5, .int .i64 a6]) hS7 rfl rfl rfl Try.isAgg23 Try.sizeOf23 rfl rfl) ?_
  refine J_in 20 rfl rfl rfl rfl (T_call rfl rfl rfl Try.call14) ?_
  refine fn_calls' 62 (args := [_, _, _, _]) Try.func14 rfl rfl rfl ?_
  refine C_seq ?_
  refine C_region ?_
  refine J_do 5 rfl rfl rfl rfl (D_box 7 hS7 rfl rfl (fun g8 w8 hS8 => ?_))
  refine J_do 6 rfl rfl rfl rfl (D_box 8 hS8 rfl rfl (fun g9 w9 hS9 => ?_))
  refine J_do 7 rfl rfl rfl rfl (D_box 9 hS9 rfl rfl (fun g10 w10 hS10 => ?_))
  refine J_q 8 rfl rfl rfl rfl (Q_assign rfl rfl) ?_
  refine J_nil (K_seq ?_)
  refine C_seq ?_
  refine C_seq ?_
  refine C_region ?_
  refine J_q 11 rfl rfl rfl rfl (Q_move rfl rfl) ?_
  refine J_q 12 rfl rfl rfl rfl (Q_eqNilT rfl rfl rfl Try.underlying26) ?_
  refine J_nil (K_seq ?_)
  refine C_true rfl ?_
  refine C_seq ?_
  refine C_region ?_
  refine J_q 8 rfl rfl rfl rfl (Q_assign rfl rfl) ?_
  refine J_nil (K_seq ?_)
  refine C_ret (R_then (body_ret (res1 rfl rfl) ?_))
  refine ⟨_, rfl, ?_⟩
  have hS11 : St w w10 [(5, blkL g6 ([.int .i64 0, .int .i64 0, .int .i64 0, .int .i64 0, .int .i64 0, .int .i64 0]) 28), (1, blkL g1 ([.int .i64 a0, .int .i64 a1, .int .i64 a2, .int .i64 a3, .int .i64 a4, .int .i64 a5, .int .i64 a6]) 25), (0, fz w (lt_ w))] := hS10.pick [5, 1, 0] ⟨rfl, rfl, rfl, rfl, rfl, rfl, trivial⟩
  refine J_q 21 rfl rfl rfl rfl (Q_toB (c' := true) (Q_eql rfl rfl rfl) (by decide)) ?_
  refine J_q 22 rfl rfl rfl rfl (Q_move rfl rfl) ?_
  refine J_q 23 rfl rfl rfl rfl (Q_move rfl rfl) ?_
  refine J_q 24 rfl rfl rfl rfl (Q_fa0 rfl rfl fo25_1) ?_
  refine J_q 25 rfl rfl rfl rfl (Q_ldBK (k := 1) ([.int .i64 a1, .int .i64 a2]) hS11 rfl rfl rfl Try.isAgg23 Try.sizeOf23 rfl rfl) ?_
  refine J_in 26 rfl rfl rfl rfl (T_call rfl rfl rfl Try.call15) ?_
  refine fn_calls' 43 (args := [_, _]) Try.func15 rfl rfl rfl ?_
  refine C_seq ?_
  refine C_region ?_
  refine J_do 3 rfl rfl rfl rfl (D_box 10 hS11 rfl rfl (fun g12 w12 hS12 => ?_))
  refine J_q 4 rfl rfl rfl rfl (Q_assign rfl rfl) ?_
  refine J_nil (K_seq ?_)
  refine C_seq ?_
  refine C_seq ?_
  refine C_region ?_
  refine J_q 7 rfl rfl rfl rfl (Q_move rfl rfl) ?_
  refine J_q 8 rfl rfl rfl rfl (Q_eqNilT rfl rfl rfl Try.underlying26) ?_
  refine J_nil (K_seq ?_)
  refine C_true rfl ?_
  refine C_seq ?_
  refine C_region ?_
  refine J_q 4 rfl rfl rfl rfl (Q_assign rfl rfl) ?_
  refine J_nil (K_seq ?_)
  refine C_ret (R_then (body_ret (res1 rfl rfl) ?_))
  refine ⟨_, rfl, ?_⟩
  have hS13 : St w w12 [(5, blkL g6 ([.int .i64 0, .int .i64 0, .int .i64 0, .int .i64 0, .int .i64 0, .int .i64 0]) 28), (1, blkL g1 ([.int .i64 a0, .int .i64 a1, .int .i64 a2, .int .i64 a3, .int .i64 a4, .int .i64 a5, .int .i64 a6]) 25), (0, fz w (lt_ w))] := hS12.pick [5, 1, 0] ⟨rfl, rfl, rfl, rfl, rfl, rfl, trivial⟩
  refine J_q 27 rfl rfl rfl rfl (Q_toB (c' := true) (Q_eql rfl rfl rfl) (by decide)) ?_
  refine J_q 28 rfl rfl rfl rfl (Q_pickT rfl rfl rfl) ?_
  refine J_q 29 rfl rfl rfl rfl (Q_move rfl rfl) ?_
  refine J_q 30 rfl rfl rfl rfl (Q_move rfl rfl) ?_
  refine J_in 31 rfl rfl rfl rfl (T_call rfl rfl rfl Try.call16) ?_
  refine fn_calls' 10 (args := [_]) Try.func16 rfl rfl rfl ?_
  refine C_seq ?_
  refine C_region ?_
  refine J_q 2 rfl rfl rfl rfl (Q_assign rfl rfl) ?_
  refine J_nil (K_seq ?_)
  refine C_seq ?_
  refine C_seq ?_
  refine C_region ?_
  refine J_q 3 rfl rfl rfl rfl (Q_move rfl rfl) ?_
  refine J_q 4 rfl rfl rfl rfl (Q_eqNilT rfl rfl rfl Try.underlying26) ?_
  refine J_nil (K_seq ?_)
  refine C_true rfl ?_
  refine C_seq ?_
  refine C_region ?_
  refine J_q 2 rfl rfl rfl rfl (Q_assign rfl rfl) ?_
  refine J_nil (K_seq ?_)
  refine C_ret (R_then (body_ret (res1 rfl rfl) ?_))
  refine ⟨_, rfl, ?_⟩
  refine J_q 32 rfl rfl rfl rfl (Q_toB (c' := true) (Q_eql rfl rfl rfl) (by decide)) ?_
  refine J_q 33 rfl rfl rfl rfl (Q_pickT rfl rfl rfl) ?_
  refine J_q 34 rfl rfl rfl rfl (Q_move rfl rfl) ?_
  refine J_q 35 rfl rfl rfl rfl (Q_move rfl rfl) ?_
  refine J_q 36 rfl rfl rfl rfl (Q_fa0 rfl rfl fo25_1) ?_
  refine J_q 37 rfl rfl rfl rfl (Q_ldBK (k := 1) ([.int .i64 a1, .int .i64 a2]) hS13 rfl rfl rfl Try.isAgg23 Try.sizeOf23 rfl rfl) ?_
  refine J_in 38 rfl rfl rfl rfl (T_call rfl rfl rfl Try.call17) ?_
  refine fn_calls' 24 (args := [_, _]) Try.func17 rfl rfl rfl ?_
  refine C_seq ?_
  refine C_region ?_
  refine J_do 3 rfl rfl rfl rfl (D_box 11 hS13 rfl rfl (fun g14 w14 hS14 => ?_))
  refine J_q 4 rfl rfl rfl rfl (Q_assign rfl rfl) ?_
  refine J_nil (K_seq ?_)
  refine C_seq ?_
  refine C_region ?_
  refine J_q 8 rfl rfl rfl rfl (Q_move rfl rfl) ?_
  refine J_q 9 rfl rfl rfl rfl (Q_ldBK' (k := 11) ([.int .i64 a1, .int .i64 a2]) hS14 rfl rfl rfl Try.isAgg23 Try.sizeOf23 rfl rfl) ?_
  refine J_in 10 rfl rfl rfl rfl (T_call rfl rfl rfl Try.call56) ?_
  refine fn_calls' 16 (args := [_, _]) Try.func56 rfl rfl rfl ?_
  refine C_seq ?_
  refine C_region ?_
  refine J_do 3 rfl rfl rfl rfl (D_box 12 hS14 rfl rfl (fun g15 w15 hS15 => ?_))
  refine J_q 4 rfl rfl rfl rfl (Q_assign rfl rfl) ?_
  refine J_q 5 rfl rfl rfl rfl (Q_assign rfl rfl) ?_
  refine J_nil (K_seq ?_)
  refine C_seq ?_
  refine C_seq ?_
  refine C_region ?_
  refine J_q 6 rfl rfl rfl rfl (Q_move rfl rfl) ?_
  refine J_q 7 rfl rfl rfl rfl (Q_eqNilT rfl rfl rfl Try.underlying26) ?_
  refine J_nil (K_seq ?_)
  refine C_true rfl ?_
  refine C_seq ?_
  refine C_region ?_
  refine J_q 4 rfl rfl rfl rfl (Q_assign rfl rfl) ?_
  refine J_q 5 rfl rfl rfl rfl (Q_assign rfl rfl) ?_
  refine J_nil (K_seq ?_)
  refine C_ret (R_then (body_ret (res2 rfl rfl rfl) ?_))
  refine ⟨_, rfl, ?_⟩
  have hS16 : St w w15 [(11, blkL g14 ([.int .i64 a1, .int .i64 a2]) 23), (5, blkL g6 ([.int .i64 0, .int .i64 0, .int .i64 0, .int .i64 0, .int .i64 0, .int .i64 0]) 28), (1, blkL g1 ([.int .i64 a0, .int .i64 a1, .int .i64 a2, .int .i64 a3, .int .i64 a4, .int .i64 a5, .int .i64 a6]) 25), (0, fz w (lt_ w))] := hS15.pick [11, 5, 1, 0] ⟨rfl, rfl, rfl, rfl, rfl, rfl, rfl, rfl, trivial⟩
  refine J_q 7 rfl rfl rfl rfl (Q_move rfl rfl) ?_
  refine J_q 11 rfl rfl rfl rfl (Q_extract rfl rfl rfl) ?_
  refine J_q 12 rfl rfl rfl rfl (Q_extract rfl rfl rfl) ?_
  refine J_q 5 rfl rfl rfl rfl (Q_assign rfl rfl) ?_
  refine J_q 6 rfl rfl rfl rfl (Q_assign rfl rfl) ?_
  refine J_nil (K_seq ?_)
  refine C_seq ?_
  refine C_region ?_
  refine J_q 13 rfl rfl rfl rfl (Q_move rfl rfl) ?_
  refine J_q 14 rfl rfl rfl rfl (Q_move rfl rfl) ?_
  refine J_no rfl rfl rfl ?_
  refine J_no rfl rfl rfl ?_
  refine J_no rfl rfl rfl ?_
  refine J_no rfl rfl rfl ?_
  refine J_no rfl rfl rfl ?_
  refine J_no rfl rfl rfl ?_
  refine J_no rfl rfl rfl ?_
  refine J_no rfl rfl rfl ?_
  refine J_q 23 rfl rfl rfl rfl (Q_pickF rfl rfl rfl) ?_
  refine J_q 4 rfl rfl rfl rfl (Q_assign rfl rfl) ?_
  refine J_nil (K_seq ?_)
  refine C_ret (body_ret (res1 rfl rfl) ?_)
  refine ⟨_, rfl, ?_⟩
  have hS17 : St w w15 [(5, blkL g6 ([.int .i64 0, .int .i64 0, .int .i64 0, .int .i64 0, .int .i64 0, .int .i64 0]) 28), (1, blkL g1 ([.int .i64 a0, .int .i64 a1, .int .i64 a2, .int .i64 a3, .int .i64 a4, .int .i64 a5, .int .i64 a6]) 25), (0, fz w (lt_ w))] := hS16.pick [5, 1, 0] ⟨rfl, rfl, rfl, rfl, rfl, rfl, trivial⟩
  refine J_q 39 rfl rfl rfl rfl (Q_not rfl rfl) ?_
  refine J_q 40 rfl rfl rfl rfl (Q_pickT rfl rfl rfl) ?_
  refine J_q 41 rfl rfl rfl rfl (Q_move rfl rfl) ?_
  refine J_q 42 rfl rfl rfl rfl (Q_ldBK' (k := 5) ([.int .i64 0, .int .i64 0, .int .i64 0, .int .i64 0, .int .i64 0, .int .i64 0]) hS17 rfl rfl rfl Try.isAgg28 Try.sizeOf28 rfl rfl) ?_
  refine J_q 43 rfl rfl rfl rfl (Q_bld (v := .agg ([.int .i64 0, .int .i64 0, .int .i64 0, .int .i64 0, .int .i64 0, .int .i64 0]).toArray) (ps := []) rfl rfl (fun _ => by kernel_rfl)) ?_
  refine J_q 44 rfl rfl rfl rfl (Q_eqlA (c := true) (us := #[.int .i64 0, .int .i64 0, .int .i64 0, .int .i64 0, .int .i64 0, .int .i64 0]) (vs := #[.int .i64 0, .int .i64 0, .int .i64 0, .int .i64 0, .int .i64 0, .int .i64 0]) rfl rfl rfl (by kernel_rfl) (fun _ => by kernel_rfl)) ?_
  refine J_q 45 rfl rfl rfl rfl (Q_pickT rfl rfl rfl) ?_
  refine J_q 46 rfl rfl rfl rfl (Q_move rfl rfl) ?_
  refine J_q 47 rfl rfl rfl rfl (Q_move rfl rfl) ?_
  refine J_q 48 rfl rfl rfl rfl (Q_not rfl rfl) ?_
  refine J_q 49 rfl rfl rfl rfl (Q_pickT rfl rfl rfl) ?_
  refine J_q 50 rfl rfl rfl rfl (Q_move rfl rfl) ?_
  refine J_q 51 rfl rfl rfl rfl (Q_move rfl rfl) ?_
  refine J_q 52 rfl rfl rfl rfl (Q_fa0 rfl rfl fo25_2) ?_
  refine J_q 53 rfl rfl rfl rfl (Q_ldBK (k := 1) ([.int .i64 a3, .int .i64 a4]) hS17 rfl rfl rfl Try.isAgg23 Try.sizeOf23 rfl rfl) ?_
  refine J_in 54 rfl rfl rfl rfl (T_call rfl rfl rfl Try.call18) ?_
  refine fn_calls' 29 (args := [_, _]) Try.func18 rfl rfl rfl ?_
  refine C_seq ?_
  refine C_region ?_
  refine J_do 3 rfl rfl rfl rfl (D_box 13 hS17 rfl rfl (fun g18 w18 hS18 => ?_))
  refine J_q 4 rfl rfl rfl rfl (Q_assign rfl rfl) ?_
  refine J_nil (K_seq ?_)
  refine C_seq ?_
  refine C_region ?_
  refine J_q 5 rfl rfl rfl rfl (Q_assign rfl rfl) ?_
  refine J_nil (K_seq ?_)
  refine C_seq ?_
  refine C_seq ?_
  refine C_region ?_
  refine J_q 9 rfl rfl rfl rfl (Q_move rfl rfl) ?_
  refine J_q 10 rfl rfl rfl rfl (Q_ldBK' (k := 13) ([.int .i64 a3, .int .i64 a4]) hS18 rfl rfl rfl Try.isAgg23 Try.sizeOf23 rfl rfl) ?_
  refine J_in 11 rfl rfl rfl rfl (T_call rfl rfl rfl Try.call13) ?_
  refine fn_calls' 22 (args := [_, _]) Try.func13 rfl rfl rfl ?_
  refine C_seq ?_
  refine C_region ?_
  refine J_do 3 rfl rfl rfl rfl (D_box 14 hS18 rfl rfl (fun g19 w19 hS19 => ?_))
  refine J_do 4 rfl rfl rfl rfl (D_alloc 15 hS19 rfl Try.zeroValue28 (fun g20 w20 hS20 => ?_))
  refine J_q 5 rfl rfl rfl rfl (Q_assign rfl rfl) ?_
  refine J_nil (K_seq ?_)
  refine C_seq ?_
  refine C_seq ?_
  refine C_region ?_
  refine J_q 8 rfl rfl rfl rfl (Q_move rfl rfl) ?_
  refine J_q 9 rfl rfl rfl rfl (Q_eqNilT rfl rfl rfl Try.underlying26) ?_
  refine J_nil (K_seq ?_)
  refine C_true rfl ?_
  refine C_seq ?_
  refine C_region ?_
  refine J_q 10 rfl rfl rfl rfl (Q_bld (v := .agg ([.int .i64 0, .int .i64 0, .int .i64 0, .int .i64 0, .int .i64 0, .int .i64 0]).toArray) (ps := []) rfl rfl (fun _ => by kernel_rfl)) ?_
  refine J_do0 rfl rfl rfl rfl (D_store' (k := 15) hS20 rfl rfl rfl rfl Try.sizeOf28 rfl rfl rfl (fun w21 hS21 => ?_))
  refine J_q 5 rfl rfl rfl rfl (Q_assign rfl rfl) ?_
  refine J_nil (K_seq ?_)
  refine C_ret (R_then (body_ret (resG (vs := [.agg ([.int .i64 0, .int .i64 0, .int .i64 0, .int .i64 0, .int .i64 0, .int .i64 0]).toArray, .bool false]) rfl ⟨rCK ([.int .i64 0, .int .i64 0, .int .i64 0, .int .i64 0, .int .i64 0, .int .i64 0]) (blk_cells (k := 15) hS21 rfl) rfl Try.isAgg28 Try.sizeOf28 rfl rfl, rT rfl, trivial⟩) ?_))
  refine ⟨_, rfl, ?_⟩
  have hS22 : St w w21 [(13, blkL g18 ([.int .i64 a3, .int .i64 a4]) 23), (5, blkL g6 ([.int .i64 0, .int .i64 0, .int .i64 0, .int .i64 0, .int .i64 0, .int .i64 0]) 28), (1, blkL g1 ([.int .i64 a0, .int .i64 a1, .int .i64 a2, .int .i64 a3, .int .i64 a4, .int .i64 a5, .int .i64 a6]) 25), (0, fz w (lt_ w))] := hS21.pick [13, 5, 1, 0] ⟨rfl, rfl, rfl, rfl, rfl, rfl, rfl, rfl, trivial⟩
  refine J_q 8 rfl rfl rfl rfl (Q_move rfl rfl) ?_
  refine J_q 12 rfl rfl rfl rfl (Q_extract rfl rfl rfl) ?_
  refine J_q 13 rfl rfl rfl rfl (Q_extract rfl rfl rfl) ?_
  refine J_do 6 rfl rfl rfl rfl (D_alloc 17 hS22 rfl Try.zeroValue28 (fun g23 w23 hS23 => ?_))
  refine J_do0 rfl rfl rfl rfl (D_store' (k := 17) hS23 rfl rfl rfl rfl Try.sizeOf28 rfl rfl rfl (fun w24 hS24 => ?_))
  refine J_q 7 rfl rfl rfl rfl (Q_assign rfl rfl) ?_
  refine J_nil (K_seq ?_)
  refine C_block ?_
  refine C_rounds 3 ?_
  refine C_seq ?_
  refine C_seq ?_
  refine C_region ?_
  refine J_q 14 rfl rfl rfl rfl (Q_move rfl rfl) ?_
  refine J_nil (K_seq ?_)
  refine C_false rfl ?_
  refine C_exit (X_then (X_then (X_hit (K_seq ?_))))
  refine C_seq ?_
  refine C_region ?_
  refine J_q 28 rfl rfl rfl rfl (Q_move rfl rfl) ?_
  refine J_q 4 rfl rfl rfl rfl (Q_assign rfl rfl) ?_
  refine J_nil (K_seq ?_)
  refine C_ret (body_ret (res1 rfl rfl) ?_)
  refine ⟨_, rfl, ?_⟩
  have hS25 : St w w24 [(5, blkL g6 ([.int .i64 0, .int .i64 0, .int .i64 0, .int .i64 0, .int .i64 0, .int .i64 0]) 28), (1, blkL g1 ([.int .i64 a0, .int .i64 a1, .int .i64 a2, .int .i64 a3, .int .i64 a4, .int .i64 a5, .int .i64 a6]) 25), (0, fz w (lt_ w))] := hS24.pick [5, 1, 0] ⟨rfl, rfl, rfl, rfl, rfl, rfl, trivial⟩
  refine J_q 55 rfl rfl rfl rfl (Q_toI (i' := 0) (Q_len rfl rfl Try.underlying36) (by decide)) ?_
  refine J_q 56 rfl rfl rfl rfl (Q_toB (c' := true) (Q_eql rfl rfl rfl) (by decide)) ?_
  refine J_q 57 rfl rfl rfl rfl (Q_pickT rfl rfl rfl) ?_
  refine J_q 58 rfl rfl rfl rfl (Q_move rfl rfl) ?_
  refine J_q 59 rfl rfl rfl rfl (Q_move rfl rfl) ?_
  refine J_q 60 rfl rfl rfl rfl (Q_fa0 rfl rfl fo25_3) ?_
  refine J_q 61 rfl rfl rfl rfl (Q_ldBK (k := 1) ([.int .i64 a5, .int .i64 a6]) hS25 rfl rfl rfl Try.isAgg23 Try.sizeOf23 rfl rfl) ?_
  refine J_in 62 rfl rfl rfl rfl (T_call rfl rfl rfl Try.call19) ?_
  refine fn_calls' 26 (args := [_, _]) Try.func19 rfl rfl rfl ?_
  refine C_seq ?_
  refine C_region ?_
  refine J_do 3 rfl rfl rfl rfl (D_box 19 hS25 rfl rfl (fun g26 w26 hS26 => ?_))
  refine J_q 4 rfl rfl rfl rfl (Q_assign rfl rfl) ?_
  refine J_nil (K_seq ?_)
  refine C_seq ?_
  refine C_region ?_
  refine J_q 5 rfl rfl rfl rfl (Q_assign rfl rfl) ?_
  refine J_nil (K_seq ?_)
  refine C_seq ?_
  refine C_seq ?_
  refine C_region ?_
  refine J_q 8 rfl rfl rfl rfl (Q_move rfl rfl) ?_
  refine J_in 9 rfl rfl rfl rfl (T_call rfl rfl rfl Try.call20) ?_
  refine fn_calls' 24 (args := [_]) Try.func20 rfl rfl rfl ?_
  refine C_seq ?_
  refine C_region ?_
  refine J_q 2 rfl rfl rfl rfl (Q_assign rfl rfl) ?_
  refine J_nil (K_seq ?_)
  refine C_seq ?_
  refine C_seq ?_
  refine C_region ?_
  refine J_q 6 rfl rfl rfl rfl (Q_move rfl rfl) ?_
  refine J_q 7 rfl rfl rfl rfl (Q_eqNilT rfl rfl rfl Try.underlying26) ?_
  refine J_nil (K_seq ?_)
  refine C_true rfl ?_
  refine C_seq ?_
  refine C_region ?_
  refine J_q 2 rfl rfl rfl rfl (Q_assign rfl rfl) ?_
  refine J_nil (K_seq ?_)
  refine C_ret (R_then (body_ret (res1 rfl rfl) ?_))
  refine ⟨_, rfl, ?_⟩
  refine J_q 10 rfl rfl rfl rfl (Q_toI (i' := 0) (Q_len rfl rfl Try.underlying38) (by decide)) ?_
  refine J_q 11 rfl rfl rfl rfl (Q_move rfl rfl) ?_
  refine J_nil (K_seq ?_)
  refine C_block ?_
  refine C_rounds 3 ?_
  refine C_seq ?_
  refine C_region ?_
  refine J_q 12 rfl rfl rfl rfl (Q_toB (c' := false) (Q_lss rfl rfl rfl) (by decide)) ?_
  refine J_nil (K_seq ?_)
  refine C_seq ?_
  refine C_false rfl ?_
  refine C_exit (X_then (X_then (X_hit (K_seq ?_))))
  refine C_seq ?_
  refine C_region ?_
  refine J_q 25 rfl rfl rfl rfl (Q_move rfl rfl) ?_
  refine J_q 4 rfl rfl rfl rfl (Q_assign rfl rfl) ?_
  refine J_nil (K_seq ?_)
  refine C_ret (body_ret (res1 rfl rfl) ?_)
  refine ⟨_, rfl, ?_⟩
  have hS27 : St w w26 [(5, blkL g6 ([.int .i64 0, .int .i64 0, .int .i64 0, .int .i64 0, .int .i64 0, .int .i64 0]) 28), (1, blkL g1 ([.int .i64 a0, .int .i64 a1, .int .i64 a2, .int .i64 a3, .int .i64 a4, .int .i64 a5, .int .i64 a6]) 25), (0, fz w (lt_ w))] := hS26.pick [5, 1, 0] ⟨rfl, rfl, rfl, rfl, rfl, rfl, trivial⟩
  refine J_q 63 rfl rfl rfl rfl (Q_toI (i' := 0) (Q_len rfl rfl Try.underlying36) (by decide)) ?_
  refine J_q 64 rfl rfl rfl rfl (Q_toB (c' := true) (Q_eql rfl rfl rfl) (by decide)) ?_
  refine J_q 65 rfl rfl rfl rfl (Q_pickT rfl rfl rfl) ?_
  refine J_q 66 rfl rfl rfl rfl (Q_move rfl rfl) ?_
  refine J_q 67 rfl rfl rfl rfl (Q_move rfl rfl) ?_
  refine J_in 68 rfl rfl rfl rfl (T_call rfl rfl rfl Try.call20) ?_
  refine fn_calls' 24 (args := [_]) Try.func20 rfl rfl rfl ?_
  refine C_seq ?_
  refine C_region ?_
  refine J_q 2 rfl rfl rfl rfl (Q_assign rfl rfl) ?_
  refine J_nil (K_seq ?_)
  refine C_seq ?_
  refine C_seq ?_
  refine C_region ?_
  refine J_q 6 rfl rfl rfl rfl (Q_move rfl rfl) ?_
  refine J_q 7 rfl rfl rfl rfl (Q_eqNilT rfl rfl rfl Try.underlying26) ?_
  refine J_nil (K_seq ?_)
  refine C_true rfl ?_
  refine C_seq ?_
  refine C_region ?_
  refine J_q 2 rfl rfl rfl rfl (Q_assign rfl rfl) ?_
  refine J_nil (K_seq ?_)
  refine C_ret (R_then (body_ret (res1 rfl rfl) ?_))
  refine ⟨_, rfl, ?_⟩
  refine J_q 69 rfl rfl rfl rfl (Q_toI (i' := 0) (Q_len rfl rfl Try.underlying38) (by decide)) ?_
  refine J_q 70 rfl rfl rfl rfl (Q_toB (c' := true) (Q_eql rfl rfl rfl) (by decide)) ?_
  refine J_q 71 rfl rfl rfl rfl (Q_pickT rfl rfl rfl) ?_
  refine J_q 72 rfl rfl rfl rfl (Q_move rfl rfl) ?_
  refine J_q 73 rfl rfl rfl rfl (Q_move rfl rfl) ?_
  refine J_in 74 rfl rfl rfl rfl (T_call rfl rfl rfl Try.call21) ?_
  refine fn_calls' 38 (args := [_]) Try.func21 rfl rfl rfl ?_
  refine C_seq ?_
  refine C_region ?_
  refine J_q 2 rfl rfl rfl rfl (Q_assign rfl rfl) ?_
  refine J_nil (K_seq ?_)
  refine C_seq ?_
  refine C_seq ?_
  refine C_region ?_
  refine J_q 6 rfl rfl rfl rfl (Q_move rfl rfl) ?_
  refine J_q 7 rfl rfl rfl rfl (Q_eqNilT rfl rfl rfl Try.underlying26) ?_
  refine J_nil (K_seq ?_)
  refine C_true rfl ?_
  refine C_seq ?_
  refine C_region ?_
  refine J_q 2 rfl rfl rfl rfl (Q_assign rfl rfl) ?_
  refine J_nil (K_seq ?_)
  refine C_ret (R_then (body_ret (res1 rfl rfl) ?_))
  refine ⟨_, rfl, ?_⟩
  refine J_q 75 rfl rfl rfl rfl (Q_eqNilT rfl rfl rfl Try.underlying26) ?_
  refine J_q 76 rfl rfl rfl rfl (Q_pickT rfl rfl rfl) ?_
  refine J_q 77 rfl rfl rfl rfl (Q_move rfl rfl) ?_
  refine J_in 78 rfl rfl rfl rfl (T_call rfl rfl rfl Try.call22) ?_
  refine fn_calls' 44 (args := []) Try.func22 rfl rfl rfl ?_
  refine C_seq ?_
  refine C_region ?_
  refine J_q 0 rfl rfl rfl rfl (Q_assign rfl rfl) ?_
  refine J_nil (K_seq ?_)
  refine C_seq ?_
  refine C_region ?_
  refine J_in 5 rfl rfl rfl rfl (T_call rfl rfl rfl Try.call64) ?_
  refine fn_calls' 4 (args := []) Try.func64 rfl rfl rfl ?_
  refine C_seq ?_
  refine C_region ?_
  refine J_q 0 rfl rfl rfl rfl (Q_assign rfl rfl) ?_
  refine J_nil (K_seq ?_)
  refine C_seq ?_
  refine C_region ?_
  refine J_do 1 rfl rfl rfl rfl (D_mkMapL 20 hS27 rfl (fun g28 w28 hS28 => ?_))
  refine J_q 2 rfl rfl rfl rfl (Q_bld (v := .agg ([.slice none 0 0, .map (some g28)]).toArray) (ps := [(1, .tmp 1)]) rfl rfl (fun _ => by kernel_rfl)) ?_
  refine J_do 3 rfl rfl rfl rfl (D_box 21 hS28 rfl rfl (fun g29 w29 hS29 => ?_))
  refine J_q 0 rfl rfl rfl rfl (Q_assign rfl rfl) ?_
  refine J_nil (K_seq ?_)
  refine C_ret (body_ret (res1 rfl rfl) ?_)
  refine ⟨_, rfl, ?_⟩
  refine J_q 1 rfl rfl rfl rfl (Q_assign rfl rfl) ?_
  refine J_nil (K_seq ?_)
  refine C_seq ?_
  refine C_region ?_
  refine J_q 6 rfl rfl rfl rfl (Q_bld (v := .agg ([.int .i64 1, .int .i64 0]).toArray) (ps := [(0, .const (.int .i64 1))]) rfl rfl (fun _ => by kernel_rfl)) ?_
  refine J_do 2 rfl rfl rfl rfl (D_alloc 22 hS29 rfl Try.zeroValue23 (fun g30 w30 hS30 => ?_))
  refine J_do0 rfl rfl rfl rfl (D_store' (k := 22) hS30 rfl rfl rfl rfl Try.sizeOf23 rfl rfl rfl (fun w31 hS31 => ?_))
  refine J_nil (K_seq ?_)
  refine C_seq ?_
  refine C_seq ?_
  refine C_region ?_
  refine J_q 7 rfl rfl rfl rfl (Q_move rfl rfl) ?_
  refine J_q 8 rfl rfl rfl rfl (Q_eqNilF rfl rfl rfl Try.underlying26) ?_
  refine J_q 9 rfl rfl rfl rfl (Q_move rfl rfl) ?_
  refine J_q 10 rfl rfl rfl rfl (Q_move rfl rfl) ?_
  refine J_q 11 rfl rfl rfl rfl (Q_bld (v := .agg ([.int .i64 3, .int .i64 0]).toArray) (ps := [(0, .const (.int .i64 3))]) rfl rfl (fun _ => by kernel_rfl)) ?_
  refine J_q 12 rfl rfl rfl rfl (Q_ldBK' (k := 22) ([.int .i64 1, .int .i64 0]) hS31 rfl rfl rfl Try.isAgg23 Try.sizeOf23 rfl rfl) ?_
  refine J_q 13 rfl rfl rfl rfl (Q_bld (v := .agg ([.int .i64 0, .int .i64 0]).toArray) (ps := []) rfl rfl (fun _ => by kernel_rfl)) ?_
  refine J_in 14 rfl rfl rfl rfl (T_call rfl rfl rfl Try.call14) ?_
  refine fn_calls' 62 (args := [_, _, _, _]) Try.func14 rfl rfl rfl ?_
  refine C_seq ?_
  refine C_region ?_
  refine J_do 5 rfl rfl rfl rfl (D_box 24 hS31 rfl rfl (fun g32 w32 hS32 => ?_))
  refine J_do 6 rfl rfl rfl rfl (D_box 25 hS32 rfl rfl (fun g33 w33 hS33 => ?_))
  refine J_do 7 rfl rfl rfl rfl (D_box 26 hS33 rfl rfl (fun g34 w34 hS34 => ?_))
  refine J_q 8 rfl rfl rfl rfl (Q_assign rfl rfl) ?_
  refine J_nil (K_seq ?_)
  refine C_seq ?_
  refine C_seq ?_
  refine C_region ?_
  refine J_q 11 rfl rfl rfl rfl (Q_move rfl rfl) ?_
  refine J_q 12 rfl rfl rfl rfl (Q_eqNilF rfl rfl rfl Try.underlying26) ?_
  refine J_nil (K_seq ?_)
  refine C_false rfl ?_
  refine C_skip (K_seq ?_)
  refine C_seq ?_
  refine C_seq ?_
  refine C_region ?_
  refine J_q 13 rfl rfl rfl rfl (Q_ldBK' (k := 24) ([.int .i64 3, .int .i64 0]) hS34 rfl rfl rfl Try.isAgg23 Try.sizeOf23 rfl rfl) ?_
  refine J_in 14 rfl rfl rfl rfl (T_call rfl rfl rfl Try.call54) ?_
  refine fn_calls' 16 (args := [_]) Try.func54 rfl rfl rfl ?_
  refine C_seq ?_
  refine C_region ?_
  refine J_do 1 rfl rfl rfl rfl (D_box 27 hS34 rfl rfl (fun g35 w35 hS35 => ?_))
  refine J_q 2 rfl rfl rfl rfl (Q_assign rfl rfl) ?_
  refine J_nil (K_seq ?_)
  refine C_seq ?_
  refine C_region ?_
  refine J_q 3 rfl rfl rfl rfl (Q_fa0 rfl rfl fo23_0) ?_
  refine J_q 4 rfl rfl rfl rfl (Q_ldB1 (k := 27) hS35 rfl rfl rfl Try.isAgg3 rfl) ?_
  refine J_q 5 rfl rfl rfl rfl (Q_toB (c' := true) (Q_geq rfl rfl rfl) (by decide)) ?_
  refine J_q 6 rfl rfl rfl rfl (Q_move rfl rfl) ?_
  refine J_q 7 rfl rfl rfl rfl (Q_fa0 rfl rfl fo23_0) ?_
  refine J_q 8 rfl rfl rfl rfl (Q_ldB1 (k := 27) hS35 rfl rfl rfl Try.isAgg3 rfl) ?_
  refine J_q 9 rfl rfl rfl rfl (Q_toB (c' := true) (Q_leq rfl rfl rfl) (by decide)) ?_
  refine J_q 10 rfl rfl rfl rfl (Q_pickT rfl rfl rfl) ?_
  refine J_q 11 rfl rfl rfl rfl (Q_move rfl rfl) ?_
  refine J_q 12 rfl rfl rfl rfl (Q_fa0 rfl rfl fo23_1) ?_
  refine J_q 13 rfl rfl rfl rfl (Q_ldB1 (k := 27) hS35 rfl rfl rfl Try.isAgg3 rfl) ?_
  refine J_in 14 rfl rfl rfl rfl (T_call rfl rfl rfl Try.call88) ?_
  refine fn_calls' 9 (args := [_]) Try.func88 rfl rfl rfl ?_
  refine C_seq ?_
  refine C_region ?_
  refine J_q 2 rfl rfl rfl rfl (Q_assign rfl rfl) ?_
  refine J_nil (K_seq ?_)
  refine C_seq ?_
  refine C_region ?_
  refine J_q 3 rfl rfl rfl rfl (Q_move rfl rfl) ?_
  refine J_q 4 rfl rfl rfl rfl (Q_toB (c' := true) (Q_geq rfl rfl rfl) (by decide)) ?_
  refine J_q 5 rfl rfl rfl rfl (Q_move rfl rfl) ?_
  refine J_q 6 rfl rfl rfl rfl (Q_move rfl rfl) ?_
  refine J_q 7 rfl rfl rfl rfl (Q_toB (c' := true) (Q_lss rfl rfl rfl) (by decide)) ?_
  refine J_q 8 rfl rfl rfl rfl (Q_pickT rfl rfl rfl) ?_
  refine J_q 2 rfl rfl rfl rfl (Q_assign rfl rfl) ?_
  refine J_nil (K_seq ?_)
  refine C_ret (body_ret (res1 rfl rfl) ?_)
  refine ⟨_, rfl, ?_⟩
  refine J_q 15 rfl rfl rfl rfl (Q_pickT rfl rfl rfl) ?_
  refine J_q 2 rfl rfl rfl rfl (Q_assign rfl rfl) ?_
  refine J_nil (K_seq ?_)
  refine C_ret (body_ret (res1 rfl rfl) ?_)
  refine ⟨_, rfl, ?_⟩
  have hS36 : St w w35 [(26, blkL g34 ([.int .i64 0, .int .i64 0]) 23), (25, blkL g33 ([.int .i64 1, .int .i64 0]) 23), (24, blkL g32 ([.int .i64 3, .int .i64 0]) 23), (22, blkL g30 ([.int .i64 1, .int .i64 0]) 23), (21, blkL g29 ([.slice none 0 0, .map (some g28)]) 103), (20, mapL g28 []), (5, blkL g6 ([.int .i64 0, .int .i64 0, .int .i64 0, .int .i64 0, .int .i64 0, .int .i64 0]) 28), (1, blkL g1 ([.int .i64 a0, .int .i64 a1, .int .i64 a2, .int .i64 a3, .int .i64 a4, .int .i64 a5, .int .i64 a6]) 25), (0, fz w (lt_ w))] := hS35.pick [26, 25, 24, 22, 21, 20, 5, 1, 0] ⟨rfl, rfl, rfl, rfl, rfl, rfl, rfl, rfl, rfl, rfl, rfl, rfl, rfl, rfl, rfl, rfl, rfl, rfl, trivial⟩
  refine J_q 15 rfl rfl rfl rfl (Q_not rfl rfl) ?_
  refine J_q 16 rfl rfl rfl rfl (Q_move rfl rfl) ?_
  refine J_q 17 rfl rfl rfl rfl (Q_ldBK' (k := 25) ([.int .i64 1, .int .i64 0]) hS36 rfl rfl rfl Try.isAgg23 Try.sizeOf23 rfl rfl) ?_
  refine J_in 18 rfl rfl rfl rfl (T_call rfl rfl rfl Try.call54) ?_
  refine fn_calls' 16 (args := [_]) Try.func54 rfl rfl rfl ?_
  refine C_seq ?_
  refine C_region ?_
  refine J_do 1 rfl rfl rfl rfl (D_box 28 hS36 rfl rfl (fun g37 w37 hS37 => ?_))
  refine J_q 2 rfl rfl rfl rfl (Q_assign rfl rfl) ?_
  refine J_nil (K_seq ?_)
  refine C_seq ?_
  refine C_region ?_
  refine J_q 3 rfl rfl rfl rfl (Q_fa0 rfl rfl fo23_0) ?_
  refine J_q 4 rfl rfl rfl rfl (Q_ldB1 (k := 28) hS37 rfl rfl rfl Try.isAgg3 rfl) ?_
  refine J_q 5 rfl rfl rfl rfl (Q_toB (c' := true) (Q_geq rfl rfl rfl) (by decide)) ?_
  refine J_q 6 rfl rfl rfl rfl (Q_move rfl rfl) ?_
  refine J_q 7 rfl rfl rfl rfl (Q_fa0 rfl rfl fo23_0) ?_
  refine J_q 8 rfl rfl rfl rfl (Q_ldB1 (k := 28) hS37 rfl rfl rfl Try.isAgg3 rfl) ?_
  refine J_q 9 rfl rfl rfl rfl (Q_toB (c' := true) (Q_leq rfl rfl rfl) (by decide)) ?_
  refine J_q 10 rfl rfl rfl rfl (Q_pickT rfl rfl rfl) ?_
  refine J_q 11 rfl rfl rfl rfl (Q_move rfl rfl) ?_
  refine J_q 12 rfl rfl rfl rfl (Q_fa0 rfl rfl fo23_1) ?_
  refine J_q 13 rfl rfl rfl rfl (Q_ldB1 (k := 28) hS37 rfl rfl rfl Try.isAgg3 rfl) ?_
  refine J_in 14 rfl rfl rfl rfl (T_call rfl rfl rfl Try.call88) ?_
  refine fn_calls' 9 (args := [_]) Try.func88 rfl rfl rfl ?_
  refine C_seq ?_
  refine C_region ?_
  refine J_q 2 rfl rfl rfl rfl (Q_assign rfl rfl) ?_
  refine J_nil (K_seq ?_)
  refine C_seq ?_
  refine C_region ?_
  refine J_q 3 rfl rfl rfl rfl (Q_move rfl rfl) ?_
  refine J_q 4 rfl rfl rfl rfl (Q_toB (c' := true) (Q_geq rfl rfl rfl) (by decide)) ?_
  refine J_q 5 rfl rfl rfl rfl (Q_move rfl rfl) ?_
  refine J_q 6 rfl rfl rfl rfl (Q_move rfl rfl) ?_
  refine J_q 7 rfl rfl rfl rfl (Q_toB (c' := true) (Q_lss rfl rfl rfl) (by decide)) ?_
  refine J_q 8 rfl rfl rfl rfl (Q_pickT rfl rfl rfl) ?_
  refine J_q 2 rfl rfl rfl rfl (Q_assign rfl rfl) ?_
  refine J_nil (K_seq ?_)
  refine C_ret (body_ret (res1 rfl rfl) ?_)
  refine ⟨_, rfl, ?_⟩
  refine J_q 15 rfl rfl rfl rfl (Q_pickT rfl rfl rfl) ?_
  refine J_q 2 rfl rfl rfl rfl (Q_assign rfl rfl) ?_
  refine J_nil (K_seq ?_)
  refine C_ret (body_ret (res1 rfl rfl) ?_)
  refine ⟨_, rfl, ?_⟩
  have hS38 : St w w37 [(26, blkL g34 ([.int .i64 0, .int .i64 0]) 23), (25, blkL g33 ([.int .i64 1, .int .i64 0]) 23), (24, blkL g32 ([.int .i64 3, .int .i64 0]) 23), (22, blkL g30 ([.int .i64 1, .int .i64 0]) 23), (21, blkL g29 ([.slice none 0 0, .map (some g28)]) 103), (20, mapL g28 []), (5, blkL g6 ([.int .i64 0, .int .i64 0, .int .i64 0, .int .i64 0, .int .i64 0, .int .i64 0]) 28), (1, blkL g1 ([.int .i64 a0, .int .i64 a1, .int .i64 a2, .int .i64 a3, .int .i64 a4, .int .i64 a5, .int .i64 a6]) 25), (0, fz w (lt_ w))] := hS37.pick [26, 25, 24, 22, 21, 20, 5, 1, 0] ⟨rfl, rfl, rfl, rfl, rfl, rfl, rfl, rfl, rfl, rfl, rfl, rfl, rfl, rfl, rfl, rfl, rfl, rfl, trivial⟩
  refine J_q 19 rfl rfl rfl rfl (Q_not rfl rfl) ?_
  refine J_q 20 rfl rfl rfl rfl (Q_pickF rfl rfl rfl) ?_
  refine J_q 21 rfl rfl rfl rfl (Q_move rfl rfl) ?_
  refine J_q 22 rfl rfl rfl rfl (Q_ldBK' (k := 26) ([.int .i64 0, .int .i64 0]) hS38 rfl rfl rfl Try.isAgg23 Try.sizeOf23 rfl rfl) ?_
  refine J_in 23 rfl rfl rfl rfl (T_call rfl rfl rfl Try.call55) ?_
  refine fn_calls' 15 (args := [_]) Try.func55 rfl rfl rfl ?_
  refine C_seq ?_
  refine C_region ?_
  refine J_do 1 rfl rfl rfl rfl (D_box 29 hS38 rfl rfl (fun g39 w39 hS39 => ?_))
  refine J_q 2 rfl rfl rfl rfl (Q_assign rfl rfl) ?_
  refine J_nil (K_seq ?_)
  refine C_seq ?_
  refine C_region ?_
  refine J_q 3 rfl rfl rfl rfl (Q_ldBK' (k := 29) ([.int .i64 0, .int .i64 0]) hS39 rfl rfl rfl Try.isAgg23 Try.sizeOf23 rfl rfl) ?_
  refine J_in 4 rfl rfl rfl rfl (T_call rfl rfl rfl Try.call54) ?_
  refine fn_calls' 16 (args := [_]) Try.func54 rfl rfl rfl ?_
  refine C_seq ?_
  refine C_region ?_
  refine J_do 1 rfl rfl rfl rfl (D_box 30 hS39 rfl rfl (fun g40 w40 hS40 => ?_))
  refine J_q 2 rfl rfl rfl rfl (Q_assign rfl rfl) ?_
  refine J_nil (K_seq ?_)
  refine C_seq ?_
  refine C_region ?_
  refine J_q 3 rfl rfl rfl rfl (Q_fa0 rfl rfl fo23_0) ?_
  refine J_q 4 rfl rfl rfl rfl (Q_ldB1 (k := 30) hS40 rfl rfl rfl Try.isAgg3 rfl) ?_
  refine J_q 5 rfl rfl rfl rfl (Q_toB (c' := false) (Q_geq rfl rfl rfl) (by decide)) ?_
  refine J_q 6 rfl rfl rfl rfl (Q_move rfl rfl) ?_
  refine J_no rfl rfl rfl ?_
  refine J_no rfl rfl rfl ?_
  refine J_no rfl rfl rfl ?_
  refine J_q 10 rfl rfl rfl rfl (Q_pickF rfl rfl rfl) ?_
  refine J_q 11 rfl rfl rfl rfl (Q_move rfl rfl) ?_
  refine J_no rfl rfl rfl ?_
  refine J_no rfl rfl rfl ?_
  refine J_no rfl rfl rfl ?_
  refine J_q 15 rfl rfl rfl rfl (Q_pickF rfl rfl rfl) ?_
  refine J_q 2 rfl rfl rfl rfl (Q_assign rfl rfl) ?_
  refine J_nil (K_seq ?_)
  refine C_ret (body_ret (res1 rfl rfl) ?_)
  refine ⟨_, rfl, ?_⟩
  have hS41 : St w w40 [(29, blkL g39 ([.int .i64 0, .int .i64 0]) 23), (26, blkL g34 ([.int .i64 0, .int .i64 0]) 23), (25, blkL g33 ([.int .i64 1, .int .i64 0]) 23), (24, blkL g32 ([.int .i64 3, .int .i64 0]) 23), (22, blkL g30 ([.int .i64 1, .int .i64 0]) 23), (21, blkL g29 ([.slice none 0 0, .map (some g28)]) 103), (20, mapL g28 []), (5, blkL g6 ([.int .i64 0, .int .i64 0, .int .i64 0, .int .i64 0, .int .i64 0, .int .i64 0]) 28), (1, blkL g1 ([.int .i64 a0, .int .i64 a1, .int .i64 a2, .int .i64 a3, .int .i64 a4, .int .i64 a5, .int .i64 a6]) 25), (0, fz w (lt_ w))] := hS40.pick [29, 26, 25, 24, 22, 21, 20, 5, 1, 0] ⟨rfl, rfl, rfl, rfl, rfl, rfl, rfl, rfl, rfl, rfl, rfl, rfl, rfl, rfl, rfl, rfl, rfl, rfl, rfl, rfl, trivial⟩
  refine J_q 5 rfl rfl rfl rfl (Q_move rfl rfl) ?_
  refine J_q 6 rfl rfl rfl rfl (Q_ldBK' (k := 29) ([.int .i64 0, .int .i64 0]) hS41 rfl rfl rfl Try.isAgg23 Try.sizeOf23 rfl rfl) ?_
  refine J_q 7 rfl rfl rfl rfl (Q_bld (v := .agg ([.int .i64 0, .int .i64 0]).toArray) (ps := []) rfl rfl (fun _ => by kernel_rfl)) ?_
  refine J_q 8 rfl rfl rfl rfl (Q_eqlA (c := true) (us := #[.int .i64 0, .int .i64 0]) (vs := #[.int .i64 0, .int .i64 0]) rfl rfl rfl (by kernel_rfl) (fun _ => by kernel_rfl)) ?_
  refine J_q 9 rfl rfl rfl rfl (Q_pickF rfl rfl rfl) ?_
  refine J_q 10 rfl rfl rfl rfl (Q_move rfl rfl) ?_
  refine J_no rfl rfl rfl ?_
  refine J_no rfl rfl rfl ?_
  refine J_no rfl rfl rfl ?_
  refine J_q 14 rfl rfl rfl rfl (Q_pickT rfl rfl rfl) ?_
  refine J_q 2 rfl rfl rfl rfl (Q_assign rfl rfl) ?_
  refine J_nil (K_seq ?_)
  refine C_ret (body_ret (res1 rfl rfl) ?_)
  refine ⟨_, rfl, ?_⟩
  have hS42 : St w w40 [(26, blkL g34 ([.int .i64 0, .int .i64 0]) 23), (25, blkL g33 ([.int .i64 1, .int .i64 0]) 23), (24, blkL g32 ([.int .i64 3, .int .i64 0]) 23), (22, blkL g30 ([.int .i64 1, .int .i64 0]) 23), (21, blkL g29 ([.slice none 0 0, .map (some g28)]) 103), (20, mapL g28 []), (5, blkL g6 ([.int .i64 0, .int .i64 0, .int .i64 0, .int .i64 0, .int .i64 0, .int .i64 0]) 28), (1, blkL g1 ([.int .i64 a0, .int .i64 a1, .int .i64 a2, .int .i64 a3, .int .i64 a4, .int .i64 a5, .int .i64 a6]) 25), (0, fz w (lt_ w))] := hS41.pick [26, 25, 24, 22, 21, 20, 5, 1, 0] ⟨rfl, rfl, rfl, rfl, rfl, rfl, rfl, rfl, rfl, rfl, rfl, rfl, rfl, rfl, rfl, rfl, rfl, rfl, trivial⟩
  refine J_q 24 rfl rfl rfl rfl (Q_not rfl rfl) ?_
  refine J_q 25 rfl rfl rfl rfl (Q_pickF rfl rfl rfl) ?_
  refine J_nil (K_seq ?_)
  refine C_false rfl ?_
  refine C_skip (K_seq ?_)
  refine C_seq ?_
  refine C_region ?_
  refine J_q 27 rfl rfl rfl rfl (Q_move rfl rfl) ?_
  refine J_q 28 rfl rfl rfl rfl (Q_ldBK' (k := 24) ([.int .i64 3, .int .i64 0]) hS42 rfl rfl rfl Try.isAgg23 Try.sizeOf23 rfl rfl) ?_
  refine J_in 29 rfl rfl rfl rfl (T_call rfl rfl rfl Try.call56) ?_
  refine fn_calls' 16 (args := [_, _]) Try.func56 rfl rfl rfl ?_
  refine C_seq ?_
  refine C_region ?_
  refine J_do 3 rfl rfl rfl rfl (D_box 31 hS42 rfl rfl (fun g43 w43 hS43 => ?_))
  refine J_q 4 rfl rfl rfl rfl (Q_assign rfl rfl) ?_
  refine J_q 5 rfl rfl rfl rfl (Q_assign rfl rfl) ?_
  refine J_nil (K_seq ?_)
  refine C_seq ?_
  refine C_seq ?_
  refine C_region ?_
  refine J_q 6 rfl rfl rfl rfl (Q_move rfl rfl) ?_
  refine J_q 7 rfl rfl rfl rfl (Q_eqNilF rfl rfl rfl Try.underlying26) ?_
  refine J_nil (K_seq ?_)
  refine C_false rfl ?_
  refine C_skip (K_seq ?_)
  refine C_seq ?_
  refine C_draw (fun w' => St w w' [(31, blkL g43 ([.int .i64 3, .int .i64 0]) 23), (26, blkL g34 ([.int .i64 0, .int .i64 0]) 23), (25, blkL g33 ([.int .i64 1, .int .i64 0]) 23), (24, blkL g32 ([.int .i64 3, .int .i64 0]) 23), (22, blkL g30 ([.int .i64 1, .int .i64 0]) 23), (21, blkL g29 ([.slice none 0 0, .map (some g28)]) 103), (20, mapL g28 []), (5, blkL g6 ([.int .i64 0, .int .i64 0, .int .i64 0, .int .i64 0, .int .i64 0, .int .i64 0]) 28), (1, blkL g1 ([.int .i64 a0, .int .i64 a1, .int .i64 a2, .int .i64 a3, .int .i64 a4, .int .i64 a5, .int .i64 a6]) 25), (0, fz w (lt_ w))]) 10 mixedOrders 10 rfl (fun w44 hk44 => ?_)
  have hS44 := hS43.kp0 hk44
  refine JA_p 0 8 10 rfl rfl rfl rfl (by kernel_rfl) (by kernel_rfl) (fun _ => Q_move rfl rfl) ?_
  refine JA_p 1 9 10 rfl rfl rfl rfl (by kernel_rfl) (by kernel_rfl) (fun _ => Q_nil rfl rfl) ?_
  refine JA_p 2 10 10 rfl rfl rfl rfl (by kernel_rfl) (by kernel_rfl) (fun _ => Q_fa0 rfl rfl fo103_0) ?_
  refine JA_q 3 11 rfl rfl rfl rfl (by kernel_rfl) (by kernel_rfl) hS44 (fun _ hI => Q_ldB1 (k := 21) hI rfl rfl rfl Try.isAgg100 rfl) ?_
  refine JA_q 4 12 rfl rfl rfl rfl (by kernel_rfl) (by kernel_rfl) hS44 (fun _ hI => Q_ldBK' (k := 31) ([.int .i64 3, .int .i64 0]) hI rfl rfl rfl Try.isAgg23 Try.sizeOf23 rfl rfl) ?_
  refine JA_in 5 13 rfl rfl rfl rfl (by kernel_rfl) (T_call rfl rfl rfl Try.call89) ?_
  refine fn_calls' 49 (args := [_, _, _]) Try.func89 rfl rfl rfl ?_
  refine C_seq ?_
  refine C_region ?_
  refine J_do 4 rfl rfl rfl rfl (D_box 32 hS44 rfl rfl (fun g45 w45 hS45 => ?_))
  refine J_q 6 rfl rfl rfl rfl (Q_assign rfl rfl) ?_
  refine J_q 7 rfl rfl rfl rfl (Q_assign rfl rfl) ?_
  refine J_nil (K_seq ?_)
  refine C_seq ?_
  refine C_region ?_
  refine J_q 12 rfl rfl rfl rfl (Q_move rfl rfl) ?_
  refine J_q 13 rfl rfl rfl rfl (Q_toI (i' := 0) (Q_len rfl rfl Try.underlying100) (by decide)) ?_
  refine J_q 8 rfl rfl rfl rfl (Q_assign rfl rfl) ?_
  refine J_nil (K_seq ?_)
  refine C_seq ?_
  refine C_region ?_
  refine J_q 14 rfl rfl rfl rfl (Q_move rfl rfl) ?_
  refine J_q 9 rfl rfl rfl rfl (Q_assign rfl rfl) ?_
  refine J_q 10 rfl rfl rfl rfl (Q_assign rfl rfl) ?_
  refine J_nil (K_seq ?_)
  refine C_seq ?_
  refine C_block ?_
  refine C_rounds 3 ?_
  refine C_seq ?_
  refine C_seq ?_
  refine C_region ?_
  refine J_q 15 rfl rfl rfl rfl (Q_move rfl rfl) ?_
  refine J_q 16 rfl rfl rfl rfl (Q_move rfl rfl) ?_
  refine J_q 17 rfl rfl rfl rfl (Q_toB (c' := false) (Q_lss rfl rfl rfl) (by decide)) ?_
  refine J_nil (K_seq ?_)
  refine C_false rfl ?_
  refine C_exit (X_then (X_then (X_hit (K_seq ?_))))
  refine C_seq ?_
  refine C_draw (fun w' => St w w' [(32, blkL g45 ([.int .i64 3, .int .i64 0]) 23), (31, blkL g43 ([.int .i64 3, .int .i64 0]) 23), (26, blkL g34 ([.int .i64 0, .int .i64 0]) 23), (25, blkL g33 ([.int .i64 1, .int .i64 0]) 23), (24, blkL g32 ([.int .i64 3, .int .i64 0]) 23), (22, blkL g30 ([.int .i64 1, .int .i64 0]) 23), (21, blkL g29 ([.slice none 0 0, .map (some g28)]) 103), (20, mapL g28 []), (5, blkL g6 ([.int .i64 0, .int .i64 0, .int .i64 0, .int .i64 0, .int .i64 0, .int .i64 0]) 28), (1, blkL g1 ([.int .i64 a0, .int .i64 a1, .int .i64 a2, .int .i64 a3, .int .i64 a4, .int .i64 a5, .int .i64 a6]) 25), (0, fz w (lt_ w))]) 16 mixedOrders 16 rfl (fun w46 hk46 => ?_)
  have hS46 := hS45.kp0 hk46
  refine JA_p 0 35 16 rfl rfl rfl rfl (by kernel_rfl) (by kernel_rfl) (fun _ => Q_move rfl rfl) ?_
  refine JA_p 1 36 16 rfl rfl rfl rfl (by kernel_rfl) (by kernel_rfl) (fun _ => Q_move rfl rfl) ?_
  refine JA_p 2 37 16 rfl rfl rfl rfl (by kernel_rfl) (by kernel_rfl) (fun _ => Q_move rfl rfl) ?_
  refine JA_p 3 38 16 rfl rfl rfl rfl (by kernel_rfl) (by kernel_rfl) (fun _ => Q_toB (c' := false) (Q_lss rfl rfl rfl) (by decide)) ?_
  refine JA_p 4 39 16 rfl rfl rfl rfl (by kernel_rfl) (by kernel_rfl) (fun _ => Q_move rfl rfl) ?_
  refine JA_no 5 16 rfl rfl rfl (by kernel_rfl) (by kernel_rfl) (fun _ h => by cases h; rfl) ?_
  refine JA_no 6 16 rfl rfl rfl (by kernel_rfl) (by kernel_rfl) (fun _ h => by cases h; rfl) ?_
  refine JA_no 7 16 rfl rfl rfl (by kernel_rfl) (by kernel_rfl) (fun _ h => by cases h; rfl) ?_
  refine JA_no 8 16 rfl rfl rfl (by kernel_rfl) (by kernel_rfl) (fun _ h => by cases h; rfl) ?_
  refine JA_no 9 16 rfl rfl rfl (by kernel_rfl) (by kernel_rfl) (fun _ h => by cases h; rfl) ?_
  refine JA_no 10 16 rfl rfl rfl (by kernel_rfl) (by kernel_rfl) (fun _ h => by cases h; rfl) ?_
  refine JA_no 11 16 rfl rfl rfl (by kernel_rfl) (by kernel_rfl) (fun _ h => by cases h; rfl) ?_
  refine JA_no 12 16 rfl rfl rfl (by kernel_rfl) (by kernel_rfl) (fun _ h => by cases h; rfl) ?_
  refine JA_p 13 48 16 rfl rfl rfl rfl (by kernel_rfl) (by kernel_rfl) (fun _ => Q_pickF rfl rfl rfl) ?_
  refine JA_p 14 6 16 rfl rfl rfl rfl (by kernel_rfl) (by kernel_rfl) (fun _ => Q_assign rfl rfl) ?_
  refine JA_p 15 7 16 rfl rfl rfl rfl (by kernel_rfl) (by kernel_rfl) (fun _ => Q_assign rfl rfl) ?_
  refine JA_end (by kernel_rfl) (K_seq ?_)
  refine C_ret (body_ret (res2 rfl rfl rfl) ?_)
  refine ⟨_, rfl, (fun _ => (hS46.pick [31, 26, 25, 24, 22, 21, 20, 5, 1, 0] ⟨rfl, rfl, rfl, rfl, rfl, rfl, rfl, rfl, rfl, rfl, rfl, rfl, rfl, rfl, rfl, rfl, rfl, rfl, rfl, rfl, trivial⟩)), ?_⟩
  have hS47 : St w w46 [(31, blkL g43 ([.int .i64 3, .int .i64 0]) 23), (26, blkL g34 ([.int .i64 0, .int .i64 0]) 23), (25, blkL g33 ([.int .i64 1, .int .i64 0]) 23), (24, blkL g32 ([.int .i64 3, .int .i64 0]) 23), (22, blkL g30 ([.int .i64 1, .int .i64 0]) 23), (21, blkL g29 ([.slice none 0 0, .map (some g28)]) 103), (20, mapL g28 []), (5, blkL g6 ([.int .i64 0, .int .i64 0, .int .i64 0, .int .i64 0, .int .i64 0, .int .i64 0]) 28), (1, blkL g1 ([.int .i64 a0, .int .i64 a1, .int .i64 a2, .int .i64 a3, .int .i64 a4, .int .i64 a5, .int .i64 a6]) 25), (0, fz w (lt_ w))] := hS46.pick [31, 26, 25, 24, 22, 21, 20, 5, 1, 0] ⟨rfl, rfl, rfl, rfl, rfl, rfl, rfl, rfl, rfl, rfl, rfl, rfl, rfl, rfl, rfl, rfl, rfl, rfl, rfl, rfl, trivial⟩
  refine JA_p 6 14 10 rfl rfl rfl rfl (by kernel_rfl) (by kernel_rfl) (fun _ => Q_extract rfl rfl rfl) ?_
  refine JA_p 7 15 10 rfl rfl rfl rfl (by kernel_rfl) (by kernel_rfl) (fun _ => Q_extract rfl rfl rfl) ?_
  refine JA_p 8 4 10 rfl rfl rfl rfl (by kernel_rfl) (by kernel_rfl) (fun _ => Q_assign rfl rfl) ?_
  refine JA_p 9 5 10 rfl rfl rfl rfl (by kernel_rfl) (by kernel_rfl) (fun _ => Q_assign rfl rfl) ?_
  refine JA_end (by kernel_rfl) (K_seq ?_)
  refine C_ret (body_ret (res2 rfl rfl rfl) ?_)
  refine ⟨_, rfl, ?_⟩
  have hS48 : St w w46 [(26, blkL g34 ([.int .i64 0, .int .i64 0]) 23), (25, blkL g33 ([.int .i64 1, .int .i64 0]) 23), (24, blkL g32 ([.int .i64 3, .int .i64 0]) 23), (22, blkL g30 ([.int .i64 1, .int .i64 0]) 23), (21, blkL g29 ([.slice none 0 0, .map (some g28)]) 103), (20, mapL g28 []), (5, blkL g6 ([.int .i64 0, .int .i64 0, .int .i64 0, .int .i64 0, .int .i64 0, .int .i64 0]) 28), (1, blkL g1 ([.int .i64 a0, .int .i64 a1, .int .i64 a2, .int .i64 a3, .int .i64 a4, .int .i64 a5, .int .i64 a6]) 25), (0, fz w (lt_ w))] := hS47.pick [26, 25, 24, 22, 21, 20, 5, 1, 0] ⟨rfl, rfl, rfl, rfl, rfl, rfl, rfl, rfl, rfl, rfl, rfl, rfl, rfl, rfl, rfl, rfl, rfl, rfl, trivial⟩
  refine J_q 26 rfl rfl rfl rfl (Q_move rfl rfl) ?_
  refine J_q 30 rfl rfl rfl rfl (Q_extract rfl rfl rfl) ?_
  refine J_q 31 rfl rfl rfl rfl (Q_extract rfl rfl rfl) ?_
  refine J_q 9 rfl rfl rfl rfl (Q_assign rfl rfl) ?_
  refine J_q 10 rfl rfl rfl rfl (Q_assign rfl rfl) ?_
  refine J_nil (K_seq ?_)
  refine C_seq ?_
  refine C_seq ?_
  refine C_region ?_
  refine J_q 32 rfl rfl rfl rfl (Q_move rfl rfl) ?_
  refine J_nil (K_seq ?_)
  refine C_false rfl ?_
  refine C_skip (K_seq ?_)
  refine C_seq ?_
  refine C_region ?_
  refine J_q 33 rfl rfl rfl rfl (Q_move rfl rfl) ?_
  refine J_q 34 rfl rfl rfl rfl (Q_move rfl rfl) ?_
  refine J_in 35 rfl rfl rfl rfl (T_call rfl rfl rfl Try.call57) ?_
  refine fn_calls' 45 (args := [_, _]) Try.func57 rfl rfl rfl ?_
  refine C_scope ?_
  refine C_seq ?_
  refine C_label (K_seq ?_)
  refine C_seq ?_
  refine C_region ?_
  refine J_q 6 rfl rfl rfl rfl (Q_move rfl rfl) ?_
  refine J_q 7 rfl rfl rfl rfl (Q_nil rfl rfl) ?_
  refine J_q 8 rfl rfl rfl rfl (Q_fa0 rfl rfl fo103_0) ?_
  refine J_q 9 rfl rfl rfl rfl (Q_ldB1 (k := 21) hS48 rfl rfl rfl Try.isAgg100 rfl) ?_
  refine J_q 10 rfl rfl rfl rfl (Q_toI (i' := 0) (Q_len rfl rfl Try.underlying100) (by decide)) ?_
  refine J_q 11 rfl rfl rfl rfl (Q_toI (i' := -1) (Q_sub rfl rfl rfl (by decide) (by decide)) (by decide)) ?_
  refine J_q 4 rfl rfl rfl rfl (Q_assign rfl rfl) ?_
  refine J_nil (K_seq ?_)
  refine C_block ?_
  refine C_rounds 3 ?_
  refine C_seq ?_
  refine C_seq ?_
  refine C_region ?_
  refine J_q 12 rfl rfl rfl rfl (Q_move rfl rfl) ?_
  refine J_q 13 rfl rfl rfl rfl (Q_move rfl rfl) ?_
  refine J_q 14 rfl rfl rfl rfl (Q_toB (c' := false) (Q_geq rfl rfl rfl) (by decide)) ?_
  refine J_nil (K_seq ?_)
  refine C_false rfl ?_
  refine C_exit (X_then (X_then (X_hit (N_sc (body_end (res0 rfl) ?_)))))
  refine ⟨_, rfl, ?_⟩
  refine J_nil (K_seq ?_)
  refine C_seq ?_
  refine C_draw (fun w' => St w w' [(26, blkL g34 ([.int .i64 0, .int .i64 0]) 23), (25, blkL g33 ([.int .i64 1, .int .i64 0]) 23), (24, blkL g32 ([.int .i64 3, .int .i64 0]) 23), (22, blkL g30 ([.int .i64 1, .int .i64 0]) 23), (21, blkL g29 ([.slice none 0 0, .map (some g28)]) 103), (20, mapL g28 []), (5, blkL g6 ([.int .i64 0, .int .i64 0, .int .i64 0, .int .i64 0, .int .i64 0, .int .i64 0]) 28), (1, blkL g1 ([.int .i64 a0, .int .i64 a1, .int .i64 a2, .int .i64 a3, .int .i64 a4, .int .i64 a5, .int .i64 a6]) 25), (0, fz w (lt_ w))]) 14 mixedOrders 15 rfl (fun w49 hk49 => ?_)
  have hS49 := hS48.kp0 hk49
  refine JA_p 0 36 15 rfl rfl rfl rfl (by kernel_rfl) (by kernel_rfl) (fun _ => Q_move rfl rfl) ?_
  refine JA_p 1 37 15 rfl rfl rfl rfl (by kernel_rfl) (by kernel_rfl) (fun _ => Q_move rfl rfl) ?_
  refine JA_p 2 38 15 rfl rfl rfl rfl (by kernel_rfl) (by kernel_rfl) (fun _ => Q_nil rfl rfl) ?_
  refine JA_p 3 39 15 rfl rfl rfl rfl (by kernel_rfl) (by kernel_rfl) (fun _ => Q_fa0 rfl rfl fo103_0) ?_
  refine JA_q 4 40 rfl rfl rfl rfl (by kernel_rfl) (by kernel_rfl) hS49 (fun _ hI => Q_ldB1 (k := 21) hI rfl rfl rfl Try.isAgg100 rfl) ?_
  refine JA_p 5 41 15 rfl rfl rfl rfl (by kernel_rfl) (by kernel_rfl) (fun _ => Q_move rfl rfl) ?_
  refine JA_q 6 42 rfl rfl rfl rfl (by kernel_rfl) (by kernel_rfl) hS49 (fun _ hI => Q_ldBK' (k := 24) ([.int .i64 3, .int .i64 0]) hI rfl rfl rfl Try.isAgg23 Try.sizeOf23 rfl rfl) ?_
  refine JA_q 7 43 rfl rfl rfl rfl (by kernel_rfl) (by kernel_rfl) hS49 (fun _ hI => Q_ldBK' (k := 25) ([.int .i64 1, .int .i64 0]) hI rfl rfl rfl Try.isAgg23 Try.sizeOf23 rfl rfl) ?_
  refine JA_q 8 44 rfl rfl rfl rfl (by kernel_rfl) (by kernel_rfl) hS49 (fun _ hI => Q_ldBK' (k := 26) ([.int .i64 0, .int .i64 0]) hI rfl rfl rfl Try.isAgg23 Try.sizeOf23 rfl rfl) ?_
  refine JA_p 9 45 15 rfl rfl rfl rfl (by kernel_rfl) (by kernel_rfl) (fun _ => Q_bld (v := .agg ([.int .i64 3, .int .i64 0, .int .i64 1, .int .i64 0, .int .i64 0, .int .i64 0, .bool false, .int .i64 0, .int .i64 0, .int .i64 0, .int .i64 0, .int .i64 0, .int .i64 0, .bool false]).toArray) (ps := [(0, .tmp 42), (1, .tmp 43), (2, .tmp 44)]) rfl rfl (fun _ => by kernel_rfl)) ?_
  refine JA_do 10 46 rfl rfl rfl rfl (by kernel_rfl) (D_bs (e := 109) (ps := [(0, .tmp 45)]) 33 ([.int .i64 3, .int .i64 0, .int .i64 1, .int .i64 0, .int .i64 0, .int .i64 0, .bool false, .int .i64 0, .int .i64 0, .int .i64 0, .int .i64 0, .int .i64 0, .int .i64 0, .bool false]) hS49 rfl rfl (fun _ => by kernel_rfl) (fun g50 w50 hS50 => ⟨(fun _ => (hS50.pick [26, 25, 24, 22, 21, 20, 5, 1, 0] ⟨rfl, rfl, rfl, rfl, rfl, rfl, rfl, rfl, rfl, rfl, rfl, rfl, rfl, rfl, rfl, rfl, rfl, rfl, trivial⟩)), ?_⟩))
  refine JA_in 11 47 rfl rfl rfl rfl (by kernel_rfl) (T_call rfl rfl rfl Try.call58) ?_
  refine fn_calls' 95 (args := [_, _, _]) Try.func58 rfl rfl rfl ?_
  refine C_seq ?_
  refine C_region ?_
  refine J_q 6 rfl rfl rfl rfl (Q_assign rfl rfl) ?_
  refine J_nil (K_seq ?_)
  refine C_seq ?_
  refine C_region ?_
  refine J_q 10 rfl rfl rfl rfl (Q_move rfl rfl) ?_
  refine J_q 11 rfl rfl rfl rfl (Q_move rfl rfl) ?_
  refine J_q 12 rfl rfl rfl rfl (Q_slice (l := 0) (h := 0) rfl rfl rfl rfl (.inr rfl) (.inl ⟨rfl, rfl⟩) Try.underlying100 Try.sizeOf109 (by decide) (by decide) (by decide)) ?_
  refine J_nil (K_seq ?_)
  refine C_seq ?_
  refine C_region ?_
  refine J_q 13 rfl rfl rfl rfl (Q_move rfl rfl) ?_
  refine J_q 14 rfl rfl rfl rfl (Q_toI (i' := 1) (Q_len rfl rfl Try.underlying100) (by decide)) ?_
  refine J_q 7 rfl rfl rfl rfl (Q_assign rfl rfl) ?_
  refine J_nil (K_seq ?_)
  refine C_seq ?_
  refine C_seq ?_
  refine C_region ?_
  refine J_q 15 rfl rfl rfl rfl (Q_move rfl rfl) ?_
  refine J_q 16 rfl rfl rfl rfl (Q_toB (c' := false) (Q_eql rfl rfl rfl) (by decide)) ?_
  refine J_nil (K_seq ?_)
  refine C_false rfl ?_
  refine C_skip (K_seq ?_)
  refine C_seq ?_
  refine C_region ?_
  refine J_q 18 rfl rfl rfl rfl (Q_move rfl rfl) ?_
  refine J_q 19 rfl rfl rfl rfl (Q_toI (i' := 0) (Q_len rfl rfl Try.underlying100) (by decide)) ?_
  refine J_q 8 rfl rfl rfl rfl (Q_assign rfl rfl) ?_
  refine J_nil (K_seq ?_)
  refine C_seq ?_
  refine C_seq ?_
  refine C_region ?_
  refine J_q 20 rfl rfl rfl rfl (Q_move rfl rfl) ?_
  refine J_q 21 rfl rfl rfl rfl (Q_move rfl rfl) ?_
  refine J_q 22 rfl rfl rfl rfl (Q_toB (c' := true) (Q_eql rfl rfl rfl) (by decide)) ?_
  refine J_nil (K_seq ?_)
  refine C_true rfl ?_
  refine C_seq ?_
  refine C_region ?_
  refine J_q 23 rfl rfl rfl rfl (Q_move rfl rfl) ?_
  refine J_q 24 rfl rfl rfl rfl (Q_move rfl rfl) ?_
  refine J_do 25 rfl rfl rfl rfl (D_app1 app100 (hS50.nil 34 109 14) 34 rfl 33 rfl rfl rfl rfl rfl rfl (by decide) (by decide) (fun g51 cap51 w51 hS51 => ?_))
  refine J_q 6 rfl rfl rfl rfl (Q_assign rfl rfl) ?_
  refine J_nil (K_seq ?_)
  refine C_ret (R_then (body_ret (res1 rfl rfl) ?_))
  refine ⟨_, rfl, (fun _ => (hS51.pick [26, 25, 24, 22, 21, 20, 5, 1, 0] ⟨rfl, rfl, rfl, rfl, rfl, rfl, rfl, rfl, rfl, rfl, rfl, rfl, rfl, rfl, rfl, rfl, rfl, rfl, trivial⟩)), ?_⟩
  refine JA_p 12 48 15 rfl rfl rfl rfl (by kernel_rfl) (by kernel_rfl) (fun _ => Q_nil rfl rfl) ?_
  refine JA_p 13 49 15 rfl rfl rfl rfl (by kernel_rfl) (by kernel_rfl) (fun _ => Q_fa0 rfl rfl fo103_0) ?_
  refine JA_do0 14 rfl rfl rfl rfl (by kernel_rfl) (D_store (k := 21) hS51 rfl rfl rfl rfl Try.sizeOf100 rfl rfl rfl (fun w52 hS52 => ⟨(fun h => nomatch h), ?_⟩))
  refine JA_end (by kernel_rfl) (K_seq ?_)
  refine C_seq ?_
  refine C_block ?_
  refine C_rounds 3 ?_
  refine C_seq ?_
  refine C_seq ?_
  refine C_region ?_
  refine J_q 50 rfl rfl rfl rfl (Q_move rfl rfl) ?_
  refine J_q 51 rfl rfl rfl rfl (Q_move rfl rfl) ?_
  refine J_q 52 rfl rfl rfl rfl (Q_nil rfl rfl) ?_
  refine J_q 53 rfl rfl rfl rfl (Q_fa0 rfl rfl fo103_0) ?_
  refine J_q 54 rfl rfl rfl rfl (Q_ldB1 (k := 21) hS52 rfl rfl rfl Try.isAgg100 rfl) ?_
  refine J_q 55 rfl rfl rfl rfl (Q_toI (i' := 1) (Q_len rfl rfl Try.underlying100) (by decide)) ?_
  refine J_q 56 rfl rfl rfl rfl (Q_toB (c' := true) (Q_lss rfl rfl rfl) (by decide)) ?_
  refine J_nil (K_seq ?_)
  refine C_true rfl ?_
  refine C_skip (K_seq ?_)
  refine C_seq ?_
  refine C_block ?_
  refine C_region ?_
  refine J_q 59 rfl rfl rfl rfl (Q_move rfl rfl) ?_
  refine J_q 60 rfl rfl rfl rfl (Q_move rfl rfl) ?_
  refine J_in 61 rfl rfl rfl rfl (T_call rfl rfl rfl Try.call59) ?_
  refine fn_calls' 68 (args := [_, _]) Try.func59 rfl rfl rfl ?_
  refine C_seq ?_
  refine C_region ?_
  refine J_q 5 rfl rfl rfl rfl (Q_move rfl rfl) ?_
  refine J_q 6 rfl rfl rfl rfl (Q_nil rfl rfl) ?_
  refine J_q 7 rfl rfl rfl rfl (Q_fa0 rfl rfl fo103_0) ?_
  refine J_q 8 rfl rfl rfl rfl (Q_ldB1 (k := 21) hS52 rfl rfl rfl Try.isAgg100 rfl) ?_
  refine J_q 9 rfl rfl rfl rfl (Q_move rfl rfl) ?_
  refine J_q 10 rfl rfl rfl rfl (Q_ia rfl rfl rfl Try.underlying100 Try.sizeOf109 (by decide) (by decide)) ?_
  refine J_q 4 rfl rfl rfl rfl (Q_assign rfl rfl) ?_
  refine J_nil (K_seq ?_)
  refine C_seq ?_
  refine C_draw (fun w' => St w w' [(34, own 109 14 (.slice (some ⟨g51, 0, none⟩) (0 + 1) cap51) (0 + 1) [.int .i64 3, .int .i64 0, .int .i64 1, .int .i64 0, .int .i64 0, .int .i64 0, .bool false, .int .i64 0, .int .i64 0, .int .i64 0, .int .i64 0, .int .i64 0, .int .i64 0, .bool false]), (33, blkL g50 ([.int .i64 3, .int .i64 0, .int .i64 1, .int .i64 0, .int .i64 0, .int .i64 0, .bool false, .int .i64 0, .int .i64 0, .int .i64 0, .int .i64 0, .int .i64 0, .int .i64 0, .bool false]) 109), (26, blkL g34 ([.int .i64 0, .int .i64 0]) 23), (25, blkL g33 ([.int .i64 1, .int .i64 0]) 23), (24, blkL g32 ([.int .i64 3, .int .i64 0]) 23), (22, blkL g30 ([.int .i64 1, .int .i64 0]) 23), (21, blkL g29 ([.slice (some ⟨g51, 0, none⟩) (0 + 1) cap51, .map (some g28)]) 103), (20, mapL g28 []), (5, blkL g6 ([.int .i64 0, .int .i64 0, .int .i64 0, .int .i64 0, .int .i64 0, .int .i64 0]) 28), (1, blkL g1 ([.int .i64 a0, .int .i64 a1, .int .i64 a2, .int .i64 a3, .int .i64 a4, .int .i64 a5, .int .i64 a6]) 25), (0, fz w (lt_ w))]) 16 mixedOrders 20 rfl (fun w53 hk53 => ?_)
  have hS53 := hS52.kp0 hk53
  refine JA_p 0 12 20 rfl rfl rfl rfl (by kernel_rfl) (by kernel_rfl) (fun _ => Q_move rfl rfl) ?_
  refine JA_p 1 13 20 rfl rfl rfl rfl (by kernel_rfl) (by kernel_rfl) (fun _ => Q_move rfl rfl) ?_
  refine JA_p 2 14 20 rfl rfl rfl rfl (by kernel_rfl) (by kernel_rfl) (fun _ => Q_move rfl rfl) ?_
  refine JA_p 3 15 20 rfl rfl rfl rfl (by kernel_rfl) (by kernel_rfl) (fun _ => Q_nil rfl rfl) ?_
  refine JA_p 4 16 20 rfl rfl rfl rfl (by kernel_rfl) (by kernel_rfl) (fun _ => Q_fa0 rfl rfl fo103_1) ?_
  refine JA_q 5 17 rfl rfl rfl rfl (by kernel_rfl) (by kernel_rfl) hS53 (fun _ hI => Q_ldB1 (k := 21) hI rfl rfl rfl Try.isAgg101 rfl) ?_
  refine JA_p 6 18 20 rfl rfl rfl rfl (by kernel_rfl) (by kernel_rfl) (fun _ => Q_move rfl rfl) ?_
  refine JA_p 7 19 20 rfl rfl rfl rfl (by kernel_rfl) (by kernel_rfl) (fun _ => Q_nil rfl rfl) ?_
  refine JA_p 8 20 20 rfl rfl rfl rfl (by kernel_rfl) (by kernel_rfl) (fun _ => Q_fa rfl rfl fo109_1 rfl) ?_
  refine JA_q 9 21 rfl rfl rfl rfl (by kernel_rfl) (by kernel_rfl) hS53 (fun _ hI => Q_ldCK ([.int .i64 1, .int .i64 0]) (own_cells (hI.get (k := 34) rfl)) rfl rfl Try.isAgg23 Try.sizeOf23 rfl rfl) ?_
  refine JA_q 10 22 rfl rfl rfl rfl (by kernel_rfl) (by kernel_rfl) hS53 (fun _ hI => Q_look2 (s := (⟨1, 0⟩ : Stamp)) none rfl stkey23 hI (j := 20) rfl Try.underlying101 Try.zeroValue28 rfl rfl rfl) ?_
  refine JA_p 11 11 20 rfl rfl rfl rfl (by kernel_rfl) (by kernel_rfl) (fun _ => Q_move rfl rfl) ?_
  refine JA_p 12 23 20 rfl rfl rfl rfl (by kernel_rfl) (by kernel_rfl) (fun _ => Q_extract rfl rfl rfl) ?_
  refine JA_p 13 24 20 rfl rfl rfl rfl (by kernel_rfl) (by kernel_rfl) (fun _ => Q_extract rfl rfl rfl) ?_
  refine JA_p 14 25 20 rfl rfl rfl rfl (by kernel_rfl) (by kernel_rfl) (fun _ => Q_nil rfl rfl) ?_
  refine JA_p 15 26 20 rfl rfl rfl rfl (by kernel_rfl) (by kernel_rfl) (fun _ => Q_fa rfl rfl fo109_4 rfl) ?_
  refine JA_do0 16 rfl rfl rfl rfl (by kernel_rfl) (D_storeO (k := 34) hS53 rfl rfl rfl rfl Try.sizeOf28 rfl rfl rfl (fun w54 hS54 => ⟨(fun h => nomatch h), ?_⟩))
  refine JA_p 17 27 20 rfl rfl rfl rfl (by kernel_rfl) (by kernel_rfl) (fun _ => Q_nil rfl rfl) ?_
  refine JA_p 18 28 20 rfl rfl rfl rfl (by kernel_rfl) (by kernel_rfl) (fun _ => Q_fa rfl rfl fo109_5 rfl) ?_
  refine JA_do0 19 rfl rfl rfl rfl (by kernel_rfl) (D_storeO (k := 34) hS54 rfl rfl rfl rfl Try.sizeOf4 rfl rfl rfl (fun w55 hS55 => ⟨(fun h => nomatch h), ?_⟩))
  refine JA_end (by kernel_rfl) (K_seq ?_)
  refine C_seq ?_
  refine C_draw (fun w' => St w w' [(34, own 109 14 (.slice (some ⟨g51, 0, none⟩) (0 + 1) cap51) (0 + 1) [.int .i64 3, .int .i64 0, .int .i64 1, .int .i64 0, .int .i64 0, .int .i64 0, .bool false, .int .i64 0, .int .i64 0, .int .i64 0, .int .i64 0, .int .i64 0, .int .i64 0, .bool false]), (33, blkL g50 ([.int .i64 3, .int .i64 0, .int .i64 1, .int .i64 0, .int .i64 0, .int .i64 0, .bool false, .int .i64 0, .int .i64 0, .int .i64 0, .int .i64 0, .int .i64 0, .int .i64 0, .bool false]) 109), (26, blkL g34 ([.int .i64 0, .int .i64 0]) 23), (25, blkL g33 ([.int .i64 1, .int .i64 0]) 23), (24, blkL g32 ([.int .i64 3, .int .i64 0]) 23), (22, blkL g30 ([.int .i64 1, .int .i64 0]) 23), (21, blkL g29 ([.slice (some ⟨g51, 0, none⟩) (0 + 1) cap51, .map (some g28)]) 103), (20, mapL g28 []), (5, blkL g6 ([.int .i64 0, .int .i64 0, .int .i64 0, .int .i64 0, .int .i64 0, .int .i64 0]) 28), (1, blkL g1 ([.int .i64 a0, .int .i64 a1, .int .i64 a2, .int .i64 a3, .int .i64 a4, .int .i64 a5, .int .i64 a6]) 25), (0, fz w (lt_ w))]) 14 mixedOrders 15 rfl (fun w56 hk56 => ?_)
  have hS56 := hS55.kp0 hk56
  refine JA_p 0 29 15 rfl rfl rfl rfl (by kernel_rfl) (by kernel_rfl) (fun _ => Q_move rfl rfl) ?_
  refine JA_p 1 30 15 rfl rfl rfl rfl (by kernel_rfl) (by kernel_rfl) (fun _ => Q_move rfl rfl) ?_
  refine JA_p 2 31 15 rfl rfl rfl rfl (by kernel_rfl) (by kernel_rfl) (fun _ => Q_move rfl rfl) ?_
  refine JA_p 3 32 15 rfl rfl rfl rfl (by kernel_rfl) (by kernel_rfl) (fun _ => Q_nil rfl rfl) ?_
  refine JA_p 4 33 15 rfl rfl rfl rfl (by kernel_rfl) (by kernel_rfl) (fun _ => Q_fa rfl rfl fo109_2 rfl) ?_
  refine JA_q 5 34 rfl rfl rfl rfl (by kernel_rfl) (by kernel_rfl) hS56 (fun _ hI => Q_ldCK ([.int .i64 0, .int .i64 0]) (own_cells (hI.get (k := 34) rfl)) rfl rfl Try.isAgg23 Try.sizeOf23 rfl rfl) ?_
  refine JA_p 6 35 15 rfl rfl rfl rfl (by kernel_rfl) (by kernel_rfl) (fun _ => Q_move rfl rfl) ?_
  refine JA_p 7 36 15 rfl rfl rfl rfl (by kernel_rfl) (by kernel_rfl) (fun _ => Q_nil rfl rfl) ?_
  refine JA_p 8 37 15 rfl rfl rfl rfl (by kernel_rfl) (by kernel_rfl) (fun _ => Q_fa rfl rfl fo109_1 rfl) ?_
  refine JA_q 9 38 rfl rfl rfl rfl (by kernel_rfl) (by kernel_rfl) hS56 (fun _ hI => Q_ldCK ([.int .i64 1, .int .i64 0]) (own_cells (hI.get (k := 34) rfl)) rfl rfl Try.isAgg23 Try.sizeOf23 rfl rfl) ?_
  refine JA_in 10 39 rfl rfl rfl rfl (by kernel_rfl) (T_call rfl rfl rfl Try.call93) ?_
  refine fn_calls' 25 (args := [_, _, _]) Try.func93 rfl rfl rfl ?_
  refine C_seq ?_
  refine C_region ?_
  refine J_do 4 rfl rfl rfl rfl (D_box 39 hS56 rfl rfl (fun g57 w57 hS57 => ?_))
  refine J_do 5 rfl rfl rfl rfl (D_box 40 hS57 rfl rfl (fun g58 w58 hS58 => ?_))
  refine J_q 6 rfl rfl rfl rfl (Q_assign rfl rfl) ?_
  refine J_nil (K_seq ?_)
  refine C_block ?_
  refine C_rounds 3 ?_
  refine C_block ?_
  refine C_seq ?_
  refine C_seq ?_
  refine C_region ?_
  refine J_q 9 rfl rfl rfl rfl (Q_ldBK' (k := 39) ([.int .i64 0, .int .i64 0]) hS58 rfl rfl rfl Try.isAgg23 Try.sizeOf23 rfl rfl) ?_
  refine J_q 10 rfl rfl rfl rfl (Q_ldBK' (k := 40) ([.int .i64 1, .int .i64 0]) hS58 rfl rfl rfl Try.isAgg23 Try.sizeOf23 rfl rfl) ?_
  refine J_q 11 rfl rfl rfl rfl (Q_eqlA (c := false) (us := #[.int .i64 0, .int .i64 0]) (vs := #[.int .i64 1, .int .i64 0]) rfl rfl rfl (by kernel_rfl) (fun _ => by kernel_rfl)) ?_
  refine J_nil (K_seq ?_)
  refine C_false rfl ?_
  refine C_skip (K_seq ?_)
  refine C_seq ?_
  refine C_draw (fun w' => St w w' [(40, blkL g58 ([.int .i64 1, .int .i64 0]) 23), (39, blkL g57 ([.int .i64 0, .int .i64 0]) 23), (34, own 109 14 (.slice (some ⟨g51, 0, none⟩) (0 + 1) cap51) (0 + 1) [.int .i64 3, .int .i64 0, .int .i64 1, .int .i64 0, .int .i64 0, .int .i64 0, .bool false, .int .i64 0, .int .i64 0, .int .i64 0, .int .i64 0, .int .i64 0, .int .i64 0, .bool false]), (33, blkL g50 ([.int .i64 3, .int .i64 0, .int .i64 1, .int .i64 0, .int .i64 0, .int .i64 0, .bool false, .int .i64 0, .int .i64 0, .int .i64 0, .int .i64 0, .int .i64 0, .int .i64 0, .bool false]) 109), (26, blkL g34 ([.int .i64 0, .int .i64 0]) 23), (25, blkL g33 ([.int .i64 1, .int .i64 0]) 23), (24, blkL g32 ([.int .i64 3, .int .i64 0]) 23), (22, blkL g30 ([.int .i64 1, .int .i64 0]) 23), (21, blkL g29 ([.slice (some ⟨g51, 0, none⟩) (0 + 1) cap51, .map (some g28)]) 103), (20, mapL g28 []), (5, blkL g6 ([.int .i64 0, .int .i64 0, .int .i64 0, .int .i64 0, .int .i64 0, .int .i64 0]) 28), (1, blkL g1 ([.int .i64 a0, .int .i64 a1, .int .i64 a2, .int .i64 a3, .int .i64 a4, .int .i64 a5, .int .i64 a6]) 25), (0, fz w (lt_ w))]) 10 mixedOrders 12 rfl (fun w59 hk59 => ?_)
  have hS59 := hS58.kp0 hk59
  refine JA_p 0 13 12 rfl rfl rfl rfl (by kernel_rfl) (by kernel_rfl) (fun _ => Q_move rfl rfl) ?_
  refine JA_p 1 14 12 rfl rfl rfl rfl (by kernel_rfl) (by kernel_rfl) (fun _ => Q_nil rfl rfl) ?_
  refine JA_p 2 15 12 rfl rfl rfl rfl (by kernel_rfl) (by kernel_rfl) (fun _ => Q_fa0 rfl rfl fo103_1) ?_
  refine JA_q 3 16 rfl rfl rfl rfl (by kernel_rfl) (by kernel_rfl) hS59 (fun _ hI => Q_ldB1 (k := 21) hI rfl rfl rfl Try.isAgg101 rfl) ?_
  refine JA_q 4 17 rfl rfl rfl rfl (by kernel_rfl) (by kernel_rfl) hS59 (fun _ hI => Q_ldBK' (k := 39) ([.int .i64 0, .int .i64 0]) hI rfl rfl rfl Try.isAgg23 Try.sizeOf23 rfl rfl) ?_
  refine JA_q 5 18 rfl rfl rfl rfl (by kernel_rfl) (by kernel_rfl) hS59 (fun _ hI => Q_look2 (s := (⟨0, 0⟩ : Stamp)) none rfl stkey23 hI (j := 20) rfl Try.underlying101 Try.zeroValue28 rfl rfl rfl) ?_
  refine JA_p 6 12 12 rfl rfl rfl rfl (by kernel_rfl) (by kernel_rfl) (fun _ => Q_move rfl rfl) ?_
  refine JA_p 7 19 12 rfl rfl rfl rfl (by kernel_rfl) (by kernel_rfl) (fun _ => Q_extract rfl rfl rfl) ?_
  refine JA_p 8 20 12 rfl rfl rfl rfl (by kernel_rfl) (by kernel_rfl) (fun _ => Q_extract rfl rfl rfl) ?_
  refine JA_do 9 7 rfl rfl rfl rfl (by kernel_rfl) (D_alloc 41 hS59 rfl Try.zeroValue28 (fun g60 w60 hS60 => ⟨(fun _ => (hS60.pick [40, 39, 34, 33, 26, 25, 24, 22, 21, 20, 5, 1, 0] ⟨rfl, rfl, rfl, rfl, rfl, rfl, rfl, rfl, rfl, rfl, rfl, rfl, rfl, rfl, rfl, rfl, rfl, rfl, rfl, rfl, rfl, rfl, rfl, rfl, rfl, rfl, trivial⟩)), ?_⟩))
  refine JA_do0 10 rfl rfl rfl rfl (by kernel_rfl) (D_store' (k := 41) hS60 rfl rfl rfl rfl Try.sizeOf28 rfl rfl rfl (fun w61 hS61 => ⟨(fun h => nomatch h), ?_⟩))
  refine JA_p 11 8 12 rfl rfl rfl rfl (by kernel_rfl) (by kernel_rfl) (fun _ => Q_assign rfl rfl) ?_
  refine JA_end (by kernel_rfl) (K_seq ?_)
  refine C_seq ?_
  refine C_seq ?_
  refine C_region ?_
  refine J_q 21 rfl rfl rfl rfl (Q_move rfl rfl) ?_
  refine J_q 22 rfl rfl rfl rfl (Q_not rfl rfl) ?_
  refine J_nil (K_seq ?_)
  refine C_true rfl ?_
  refine C_seq ?_
  refine C_region ?_
  refine J_q 6 rfl rfl rfl rfl (Q_assign rfl rfl) ?_
  refine J_nil (K_seq ?_)
  refine C_ret (R_then (R_blk (R_then (R_blk (body_ret (res1 rfl rfl) ?_)))))
  refine ⟨_, rfl, (fun _ => (hS61.pick [34, 33, 26, 25, 24, 22, 21, 20, 5, 1, 0] ⟨rfl, rfl, rfl, rfl, rfl, rfl, rfl, rfl, rfl, rfl, rfl, rfl, rfl, rfl, rfl, rfl, rfl, rfl, rfl, rfl, rfl, rfl, trivial⟩)), ?_⟩
  have hS62 : St w w61 [(34, own 109 14 (.slice (some ⟨g51, 0, none⟩) (0 + 1) cap51) (0 + 1) [.int .i64 3, .int .i64 0, .int .i64 1, .int .i64 0, .int .i64 0, .int .i64 0, .bool false, .int .i64 0, .int .i64 0, .int .i64 0, .int .i64 0, .int .i64 0, .int .i64 0, .bool false]), (33, blkL g50 ([.int .i64 3, .int .i64 0, .int .i64 1, .int .i64 0, .int .i64 0, .int .i64 0, .bool false, .int .i64 0, .int .i64 0, .int .i64 0, .int .i64 0, .int .i64 0, .int .i64 0, .bool false]) 109), (26, blkL g34 ([.int .i64 0, .int .i64 0]) 23), (25, blkL g33 ([.int .i64 1, .int .i64 0]) 23), (24, blkL g32 ([.int .i64 3, .int .i64 0]) 23), (22, blkL g30 ([.int .i64 1, .int .i64 0]) 23), (21, blkL g29 ([.slice (some ⟨g51, 0, none⟩) (0 + 1) cap51, .map (some g28)]) 103), (20, mapL g28 []), (5, blkL g6 ([.int .i64 0, .int .i64 0, .int .i64 0, .int .i64 0, .int .i64 0, .int .i64 0]) 28), (1, blkL g1 ([.int .i64 a0, .int .i64 a1, .int .i64 a2, .int .i64 a3, .int .i64 a4, .int .i64 a5, .int .i64 a6]) 25), (0, fz w (lt_ w))] := hS61.pick [34, 33, 26, 25, 24, 22, 21, 20, 5, 1, 0] ⟨rfl, rfl, rfl, rfl, rfl, rfl, rfl, rfl, rfl, rfl, rfl, rfl, rfl, rfl, rfl, rfl, rfl, rfl, rfl, rfl, rfl, rfl, trivial⟩
  refine JA_p 11 40 15 rfl rfl rfl rfl (by kernel_rfl) (by kernel_rfl) (fun _ => Q_not rfl rfl) ?_
  refine JA_p 12 41 15 rfl rfl rfl rfl (by kernel_rfl) (by kernel_rfl) (fun _ => Q_nil rfl rfl) ?_
  refine JA_p 13 42 15 rfl rfl rfl rfl (by kernel_rfl) (by kernel_rfl) (fun _ => Q_fa rfl rfl fo109_3 rfl) ?_
  refine JA_do0 14 rfl rfl rfl rfl (by kernel_rfl) (D_storeO (k := 34) hS62 rfl rfl rfl rfl Try.sizeOf4 rfl rfl rfl (fun w63 hS63 => ⟨(fun h => nomatch h), ?_⟩))
  refine JA_end (by kernel_rfl) (K_seq ?_)
  refine C_seq ?_
  refine C_region ?_
  refine J_q 43 rfl rfl rfl rfl (Q_move rfl rfl) ?_
  refine J_q 44 rfl rfl rfl rfl (Q_nil rfl rfl) ?_
  refine J_q 45 rfl rfl rfl rfl (Q_fa rfl rfl fo109_3 rfl) ?_
  refine J_q 46 rfl rfl rfl rfl (Q_ldC1 (own_cells (hS63.get (k := 34) rfl)) rfl rfl Try.isAgg4 rfl) ?_
  refine J_nil (K_seq ?_)
  refine C_true rfl ?_
  refine C_draw (fun w' => St w w' [(34, own 109 14 (.slice (some ⟨g51, 0, none⟩) (0 + 1) cap51) (0 + 1) [.int .i64 3, .int .i64 0, .int .i64 1, .int .i64 0, .int .i64 0, .int .i64 0, .bool true, .int .i64 0, .int .i64 0, .int .i64 0, .int .i64 0, .int .i64 0, .int .i64 0, .bool false]), (33, blkL g50 ([.int .i64 3, .int .i64 0, .int .i64 1, .int .i64 0, .int .i64 0, .int .i64 0, .bool false, .int .i64 0, .int .i64 0, .int .i64 0, .int .i64 0, .int .i64 0, .int .i64 0, .bool false]) 109), (26, blkL g34 ([.int .i64 0, .int .i64 0]) 23), (25, blkL g33 ([.int .i64 1, .int .i64 0]) 23), (24, blkL g32 ([.int .i64 3, .int .i64 0]) 23), (22, blkL g30 ([.int .i64 1, .int .i64 0]) 23), (21, blkL g29 ([.slice (some ⟨g51, 0, none⟩) (0 + 1) cap51, .map (some g28)]) 103), (20, mapL g28 []), (5, blkL g6 ([.int .i64 0, .int .i64 0, .int .i64 0, .int .i64 0, .int .i64 0, .int .i64 0]) 28), (1, blkL g1 ([.int .i64 a0, .int .i64 a1, .int .i64 a2, .int .i64 a3, .int .i64 a4, .int .i64 a5, .int .i64 a6]) 25), (0, fz w (lt_ w))]) 21 mixedOrders 22 rfl (fun w64 hk64 => ?_)
  have hS64 := hS63.kp0 hk64
  refine JA_p 0 47 22 rfl rfl rfl rfl (by kernel_rfl) (by kernel_rfl) (fun _ => Q_move rfl rfl) ?_
  refine JA_p 1 48 22 rfl rfl rfl rfl (by kernel_rfl) (by kernel_rfl) (fun _ => Q_nil rfl rfl) ?_
  refine JA_p 2 49 22 rfl rfl rfl rfl (by kernel_rfl) (by kernel_rfl) (fun _ => Q_fa0 rfl rfl fo103_1) ?_
  refine JA_q 3 50 rfl rfl rfl rfl (by kernel_rfl) (by kernel_rfl) hS64 (fun _ hI => Q_ldB1 (k := 21) hI rfl rfl rfl Try.isAgg101 rfl) ?_
  refine JA_p 4 51 22 rfl rfl rfl rfl (by kernel_rfl) (by kernel_rfl) (fun _ => Q_move rfl rfl) ?_
  refine JA_p 5 52 22 rfl rfl rfl rfl (by kernel_rfl) (by kernel_rfl) (fun _ => Q_nil rfl rfl) ?_
  refine JA_p 6 53 22 rfl rfl rfl rfl (by kernel_rfl) (by kernel_rfl) (fun _ => Q_fa rfl rfl fo109_1 rfl) ?_
  refine JA_q 7 54 rfl rfl rfl rfl (by kernel_rfl) (by kernel_rfl) hS64 (fun _ hI => Q_ldCK ([.int .i64 1, .int .i64 0]) (own_cells (hI.get (k := 34) rfl)) rfl rfl Try.isAgg23 Try.sizeOf23 rfl rfl) ?_
  refine JA_p 8 55 22 rfl rfl rfl rfl (by kernel_rfl) (by kernel_rfl) (fun _ => Q_move rfl rfl) ?_
  refine JA_p 9 56 22 rfl rfl rfl rfl (by kernel_rfl) (by kernel_rfl) (fun _ => Q_nil rfl rfl) ?_
  refine JA_p 10 57 22 rfl rfl rfl rfl (by kernel_rfl) (by kernel_rfl) (fun _ => Q_fa rfl rfl fo109_1 rfl) ?_
  refine JA_q 11 58 rfl rfl rfl rfl (by kernel_rfl) (by kernel_rfl) hS64 (fun _ hI => Q_ldCK ([.int .i64 1, .int .i64 0]) (own_cells (hI.get (k := 34) rfl)) rfl rfl Try.isAgg23 Try.sizeOf23 rfl rfl) ?_
  refine JA_p 12 59 22 rfl rfl rfl rfl (by kernel_rfl) (by kernel_rfl) (fun _ => Q_move rfl rfl) ?_
  refine JA_p 13 60 22 rfl rfl rfl rfl (by kernel_rfl) (by kernel_rfl) (fun _ => Q_nil rfl rfl) ?_
  refine JA_p 14 61 22 rfl rfl rfl rfl (by kernel_rfl) (by kernel_rfl) (fun _ => Q_fa rfl rfl fo109_2 rfl) ?_
  refine JA_q 15 62 rfl rfl rfl rfl (by kernel_rfl) (by kernel_rfl) hS64 (fun _ hI => Q_ldCK ([.int .i64 0, .int .i64 0]) (own_cells (hI.get (k := 34) rfl)) rfl rfl Try.isAgg23 Try.sizeOf23 rfl rfl) ?_
  refine JA_p 16 63 22 rfl rfl rfl rfl (by kernel_rfl) (by kernel_rfl) (fun _ => Q_move rfl rfl) ?_
  refine JA_p 17 64 22 rfl rfl rfl rfl (by kernel_rfl) (by kernel_rfl) (fun _ => Q_nil rfl rfl) ?_
  refine JA_p 18 65 22 rfl rfl rfl rfl (by kernel_rfl) (by kernel_rfl) (fun _ => Q_fa rfl rfl fo109_0 rfl) ?_
  refine JA_q 19 66 rfl rfl rfl rfl (by kernel_rfl) (by kernel_rfl) hS64 (fun _ hI => Q_ldCK ([.int .i64 3, .int .i64 0]) (own_cells (hI.get (k := 34) rfl)) rfl rfl Try.isAgg23 Try.sizeOf23 rfl rfl) ?_
  refine JA_p 20 67 22 rfl rfl rfl rfl (by kernel_rfl) (by kernel_rfl) (fun _ => Q_bld (v := .agg ([.int .i64 1, .int .i64 0, .int .i64 0, .int .i64 0, .int .i64 3, .int .i64 0]).toArray) (ps := [(0, .tmp 58), (1, .tmp 62), (2, .tmp 66)]) rfl rfl (fun _ => by kernel_rfl)) ?_
  refine JA_do0 21 rfl rfl rfl rfl (by kernel_rfl) (D_mapUpd (s := (⟨1, 0⟩ : Stamp)) (v := .agg ([.int .i64 1, .int .i64 0, .int .i64 0, .int .i64 0, .int .i64 3, .int .i64 0]).toArray) stkey23 hS64 (j := 20) rfl Try.underlying101 rfl rfl rfl rfl (fun w65 hS65 => ⟨(fun h => nomatch h), ?_⟩))
  refine JA_end (by kernel_rfl) (body_end (res0 rfl) ?_)
  refine ⟨_, rfl, ?_⟩
  refine J_nil (N_blk (K_seq ?_))
  refine C_region ?_
  refine J_q 57 rfl rfl rfl rfl (Q_move rfl rfl) ?_
  refine J_q 58 rfl rfl rfl rfl (Q_toI (i' := 1) (Q_add rfl rfl rfl (by decide) (by decide)) (by decide)) ?_
  refine J_q 9 rfl rfl rfl rfl (Q_assign rfl rfl) ?_
  refine J_nil (K_rnd ?_)
  refine C_seq ?_
  refine C_seq ?_
  refine C_region ?_
  refine J_q 50 rfl rfl rfl rfl (Q_move rfl rfl) ?_
  refine J_q 51 rfl rfl rfl rfl (Q_move rfl rfl) ?_
  refine J_q 52 rfl rfl rfl rfl (Q_nil rfl rfl) ?_
  refine J_q 53 rfl rfl rfl rfl (Q_fa0 rfl rfl fo103_0) ?_
  refine J_q 54 rfl rfl rfl rfl (Q_ldB1 (k := 21) hS65 rfl rfl rfl Try.isAgg100 rfl) ?_
  refine J_q 55 rfl rfl rfl rfl (Q_toI (i' := 1) (Q_len rfl rfl Try.underlying100) (by decide)) ?_
  refine J_q 56 rfl rfl rfl rfl (Q_toB (c' := false) (Q_lss rfl rfl rfl) (by decide)) ?_
  refine J_nil (K_seq ?_)
  refine C_false rfl ?_
  refine C_exit (X_then (X_then (X_hit (K_seq ?_))))
  refine C_seq ?_
  refine C_region ?_
  refine J_q 8 rfl rfl rfl rfl (Q_assign rfl rfl) ?_
  refine J_nil (K_seq ?_)
  refine C_ret (body_ret (res1 rfl rfl) ?_)
  refine ⟨_, rfl, ?_⟩
  have hS66 : St w w65 [(34, own 109 14 (.slice (some ⟨g51, 0, none⟩) (0 + 1) cap51) (0 + 1) [.int .i64 3, .int .i64 0, .int .i64 1, .int .i64 0, .int .i64 0, .int .i64 0, .bool true, .int .i64 0, .int .i64 0, .int .i64 0, .int .i64 0, .int .i64 0, .int .i64 0, .bool false]), (22, blkL g30 ([.int .i64 1, .int .i64 0]) 23), (21, blkL g29 ([.slice (some ⟨g51, 0, none⟩) (0 + 1) cap51, .map (some g28)]) 103), (20, mapL g28 [((⟨1, 0⟩ : Stamp), .agg ([.int .i64 1, .int .i64 0, .int .i64 0, .int .i64 0, .int .i64 3, .int .i64 0]).toArray)]), (5, blkL g6 ([.int .i64 0, .int .i64 0, .int .i64 0, .int .i64 0, .int .i64 0, .int .i64 0]) 28), (1, blkL g1 ([.int .i64 a0, .int .i64 a1, .int .i64 a2, .int .i64 a3, .int .i64 a4, .int .i64 a5, .int .i64 a6]) 25), (0, fz w (lt_ w))] := hS65.pick [34, 22, 21, 20, 5, 1, 0] ⟨rfl, rfl, rfl, rfl, rfl, rfl, rfl, rfl, rfl, rfl, rfl, rfl, rfl, rfl, trivial⟩
  refine J_q 15 rfl rfl rfl rfl (Q_toB (c' := false) (Q_neq rfl rfl rfl) (by decide)) ?_
  refine J_q 16 rfl rfl rfl rfl (Q_pickF rfl rfl rfl) ?_
  refine J_q 17 rfl rfl rfl rfl (Q_move rfl rfl) ?_
  refine J_q 18 rfl rfl rfl rfl (Q_move rfl rfl) ?_
  refine J_q 19 rfl rfl rfl rfl (Q_bld (v := .agg ([.int .i64 3, .int .i64 0]).toArray) (ps := [(0, .const (.int .i64 3))]) rfl rfl (fun _ => by kernel_rfl)) ?_
  refine J_q 20 rfl rfl rfl rfl (Q_ldBK' (k := 22) ([.int .i64 1, .int .i64 0]) hS66 rfl rfl rfl Try.isAgg23 Try.sizeOf23 rfl rfl) ?_
  refine J_q 21 rfl rfl rfl rfl (Q_bld (v := .agg ([.int .i64 0, .int .i64 0]).toArray) (ps := []) rfl rfl (fun _ => by kernel_rfl)) ?_
  refine J_in 22 rfl rfl rfl rfl (T_call rfl rfl rfl Try.call14) ?_
  refine fn_calls' 62 (args := [_, _, _, _]) Try.func14 rfl rfl rfl ?_
  refine C_seq ?_
  refine C_region ?_
  refine J_do 5 rfl rfl rfl rfl (D_box 45 hS66 rfl rfl (fun g67 w67 hS67 => ?_))
  refine J_do 6 rfl rfl rfl rfl (D_box 46 hS67 rfl rfl (fun g68 w68 hS68 => ?_))
  refine J_do 7 rfl rfl rfl rfl (D_box 47 hS68 rfl rfl (fun g69 w69 hS69 => ?_))
  refine J_q 8 rfl rfl rfl rfl (Q_assign rfl rfl) ?_
  refine J_nil (K_seq ?_)
  refine C_seq ?_
  refine C_seq ?_
  refine C_region ?_
  refine J_q 11 rfl rfl rfl rfl (Q_move rfl rfl) ?_
  refine J_q 12 rfl rfl rfl rfl (Q_eqNilF rfl rfl rfl Try.underlying26) ?_
  refine J_nil (K_seq ?_)
  refine C_false rfl ?_
  refine C_skip (K_seq ?_)
  refine C_seq ?_
  refine C_seq ?_
  refine C_region ?_
  refine J_q 13 rfl rfl rfl rfl (Q_ldBK' (k := 45) ([.int .i64 3, .int .i64 0]) hS69 rfl rfl rfl Try.isAgg23 Try.sizeOf23 rfl rfl) ?_
  refine J_in 14 rfl rfl rfl rfl (T_call rfl rfl rfl Try.call54) ?_
  refine fn_calls' 16 (args := [_]) Try.func54 rfl rfl rfl ?_
  refine C_seq ?_
  refine C_region ?_
  refine J_do 1 rfl rfl rfl rfl (D_box 48 hS69 rfl rfl (fun g70 w70 hS70 => ?_))
  refine J_q 2 rfl rfl rfl rfl (Q_assign rfl rfl) ?_
  refine J_nil (K_seq ?_)
  refine C_seq ?_
  refine C_region ?_
  refine J_q 3 rfl rfl rfl rfl (Q_fa0 rfl rfl fo23_0) ?_
  refine J_q 4 rfl rfl rfl rfl (Q_ldB1 (k := 48) hS70 rfl rfl rfl Try.isAgg3 rfl) ?_
  refine J_q 5 rfl rfl rfl rfl (Q_toB (c' := true) (Q_geq rfl rfl rfl) (by decide)) ?_
  refine J_q 6 rfl rfl rfl rfl (Q_move rfl rfl) ?_
  refine J_q 7 rfl rfl rfl rfl (Q_fa0 rfl rfl fo23_0) ?_
  refine J_q 8 rfl rfl rfl rfl (Q_ldB1 (k := 48) hS70 rfl rfl rfl Try.isAgg3 rfl) ?_
  refine J_q 9 rfl rfl rfl rfl (Q_toB (c' := true) (Q_leq rfl rfl rfl) (by decide)) ?_
  refine J_q 10 rfl rfl rfl rfl (Q_pickT rfl rfl rfl) ?_
  refine J_q 11 rfl rfl rfl rfl (Q_move rfl rfl) ?_
  refine J_q 12 rfl rfl rfl rfl (Q_fa0 rfl rfl fo23_1) ?_
  refine J_q 13 rfl rfl rfl rfl (Q_ldB1 (k := 48) hS70 rfl rfl rfl Try.isAgg3 rfl) ?_
  refine J_in 14 rfl rfl rfl rfl (T_call rfl rfl rfl Try.call88) ?_
  refine fn_calls' 9 (args := [_]) Try.func88 rfl rfl rfl ?_
  refine C_seq ?_
  refine C_region ?_
  refine J_q 2 rfl rfl rfl rfl (Q_assign rfl rfl) ?_
  refine J_nil (K_seq ?_)
  refine C_seq ?_
  refine C_region ?_
  refine J_q 3 rfl rfl rfl rfl (Q_move rfl rfl) ?_
  refine J_q 4 rfl rfl rfl rfl (Q_toB (c' := true) (Q_geq rfl rfl rfl) (by decide)) ?_
  refine J_q 5 rfl rfl rfl rfl (Q_move rfl rfl) ?_
  refine J_q 6 rfl rfl rfl rfl (Q_move rfl rfl) ?_
  refine J_q 7 rfl rfl rfl rfl (Q_toB (c' := true) (Q_lss rfl rfl rfl) (by decide)) ?_
  refine J_q 8 rfl rfl rfl rfl (Q_pickT rfl rfl rfl) ?_
  refine J_q 2 rfl rfl rfl rfl (Q_assign rfl rfl) ?_
  refine J_nil (K_seq ?_)
  refine C_ret (body_ret (res1 rfl rfl) ?_)
  refine ⟨_, rfl, ?_⟩
  refine J_q 15 rfl rfl rfl rfl (Q_pickT rfl rfl rfl) ?_
  refine J_q 2 rfl rfl rfl rfl (Q_assign rfl rfl) ?_
  refine J_nil (K_seq ?_)
  refine C_ret (body_ret (res1 rfl rfl) ?_)
  refine ⟨_, rfl, ?_⟩
  have hS71 : St w w70 [(47, blkL g69 ([.int .i64 0, .int .i64 0]) 23), (46, blkL g68 ([.int .i64 1, .int .i64 0]) 23), (45, blkL g67 ([.int .i64 3, .int .i64 0]) 23), (34, own 109 14 (.slice (some ⟨g51, 0, none⟩) (0 + 1) cap51) (0 + 1) [.int .i64 3, .int .i64 0, .int .i64 1, .int .i64 0, .int .i64 0, .int .i64 0, .bool true, .int .i64 0, .int .i64 0, .int .i64 0, .int .i64 0, .int .i64 0, .int .i64 0, .bool false]), (22, blkL g30 ([.int .i64 1, .int .i64 0]) 23), (21, blkL g29 ([.slice (some ⟨g51, 0, none⟩) (0 + 1) cap51, .map (some g28)]) 103), (20, mapL g28 [((⟨1, 0⟩ : Stamp), .agg ([.int .i64 1, .int .i64 0, .int .i64 0, .int .i64 0, .int .i64 3, .int .i64 0]).toArray)]), (5, blkL g6 ([.int .i64 0, .int .i64 0, .int .i64 0, .int .i64 0, .int .i64 0, .int .i64 0]) 28), (1, blkL g1 ([.int .i64 a0, .int .i64 a1, .int .i64 a2, .int .i64 a3, .int .i64 a4, .int .i64 a5, .int .i64 a6]) 25), (0, fz w (lt_ w))] := hS70.pick [47, 46, 45, 34, 22, 21, 20, 5, 1, 0] ⟨rfl, rfl, rfl, rfl, rfl, rfl, rfl, rfl, rfl, rfl, rfl, rfl, rfl, rfl, rfl, rfl, rfl, rfl, rfl, rfl, trivial⟩
  refine J_q 15 rfl rfl rfl rfl (Q_not rfl rfl) ?_
  refine J_q 16 rfl rfl rfl rfl (Q_move rfl rfl) ?_
  refine J_q 17 rfl rfl rfl rfl (Q_ldBK' (k := 46) ([.int .i64 1, .int .i64 0]) hS71 rfl rfl rfl Try.isAgg23 Try.sizeOf23 rfl rfl) ?_
  refine J_in 18 rfl rfl rfl rfl (T_call rfl rfl rfl Try.call54) ?_
  refine fn_calls' 16 (args := [_]) Try.func54 rfl rfl rfl ?_
  refine C_seq ?_
  refine C_region ?_
  refine J_do 1 rfl rfl rfl rfl (D_box 49 hS71 rfl rfl (fun g72 w72 hS72 => ?_))
  refine J_q 2 rfl rfl rfl rfl (Q_assign rfl rfl) ?_
  refine J_nil (K_seq ?_)
  refine C_seq ?_
  refine C_region ?_
  refine J_q 3 rfl rfl rfl rfl (Q_fa0 rfl rfl fo23_0) ?_
  refine J_q 4 rfl rfl rfl rfl (Q_ldB1 (k := 49) hS72 rfl rfl rfl Try.isAgg3 rfl) ?_
  refine J_q 5 rfl rfl rfl rfl (Q_toB (c' := true) (Q_geq rfl rfl rfl) (by decide)) ?_
  refine J_q 6 rfl rfl rfl rfl (Q_move rfl rfl) ?_
  refine J_q 7 rfl rfl rfl rfl (Q_fa0 rfl rfl fo23_0) ?_
  refine J_q 8 rfl rfl rfl rfl (Q_ldB1 (k := 49) hS72 rfl rfl rfl Try.isAgg3 rfl) ?_
  refine J_q 9 rfl rfl rfl rfl (Q_toB (c' := true) (Q_leq rfl rfl rfl) (by decide)) ?_
  refine J_q 10 rfl rfl rfl rfl (Q_pickT rfl rfl rfl) ?_
  refine J_q 11 rfl rfl rfl rfl (Q_move rfl rfl) ?_
  refine J_q 12 rfl rfl rfl rfl (Q_fa0 rfl rfl fo23_1) ?_
  refine J_q 13 rfl rfl rfl rfl (Q_ldB1 (k := 49) hS72 rfl rfl rfl Try.isAgg3 rfl) ?_
  refine J_in 14 rfl rfl rfl rfl (T_call rfl rfl rfl Try.call88) ?_
  refine fn_calls' 9 (args := [_]) Try.func88 rfl rfl rfl ?_
  refine C_seq ?_
  refine C_region ?_
  refine J_q 2 rfl rfl rfl rfl (Q_assign rfl rfl) ?_
  refine J_nil (K_seq ?_)
  refine C_seq ?_
  refine C_region ?_
  refine J_q 3 rfl rfl rfl rfl (Q_move rfl rfl) ?_
  refine J_q 4 rfl rfl rfl rfl (Q_toB (c' := true) (Q_geq rfl rfl rfl) (by decide)) ?_
  refine J_q 5 rfl rfl rfl rfl (Q_move rfl rfl) ?_
  refine J_q 6 rfl rfl rfl rfl (Q_move rfl rfl) ?_
  refine J_q 7 rfl rfl rfl rfl (Q_toB (c' := true) (Q_lss rfl rfl rfl) (by decide)) ?_
  refine J_q 8 rfl rfl rfl rfl (Q_pickT rfl rfl rfl) ?_
  refine J_q 2 rfl rfl rfl rfl (Q_assign rfl rfl) ?_
  refine J_nil (K_seq ?_)
  refine C_ret (body_ret (res1 rfl rfl) ?_)
  refine ⟨_, rfl, ?_⟩
  refine J_q 15 rfl rfl rfl rfl (Q_pickT rfl rfl rfl) ?_
  refine J_q 2 rfl rfl rfl rfl (Q_assign rfl rfl) ?_
  refine J_nil (K_seq ?_)
  refine C_ret (body_ret (res1 rfl rfl) ?_)
  refine ⟨_, rfl, ?_⟩
  have hS73 : St w w72 [(47, blkL g69 ([.int .i64 0, .int .i64 0]) 23), (46, blkL g68 ([.int .i64 1, .int .i64 0]) 23), (45, blkL g67 ([.int .i64 3, .int .i64 0]) 23), (34, own 109 14 (.slice (some ⟨g51, 0, none⟩) (0 + 1) cap51) (0 + 1) [.int .i64 3, .int .i64 0, .int .i64 1, .int .i64 0, .int .i64 0, .int .i64 0, .bool true, .int .i64 0, .int .i64 0, .int .i64 0, .int .i64 0, .int .i64 0, .int .i64 0, .bool false]), (22, blkL g30 ([.int .i64 1, .int .i64 0]) 23), (21, blkL g29 ([.slice (some ⟨g51, 0, none⟩) (0 + 1) cap51, .map (some g28)]) 103), (20, mapL g28 [((⟨1, 0⟩ : Stamp), .agg ([.int .i64 1, .int .i64 0, .int .i64 0, .int .i64 0, .int .i64 3, .int .i64 0]).toArray)]), (5, blkL g6 ([.int .i64 0, .int .i64 0, .int .i64 0, .int .i64 0, .int .i64 0, .int .i64 0]) 28), (1, blkL g1 ([.int .i64 a0, .int .i64 a1, .int .i64 a2, .int .i64 a3, .int .i64 a4, .int .i64 a5, .int .i64 a6]) 25), (0, fz w (lt_ w))] := hS72.pick [47, 46, 45, 34, 22, 21, 20, 5, 1, 0] ⟨rfl, rfl, rfl, rfl, rfl, rfl, rfl, rfl, rfl, rfl, rfl, rfl, rfl, rfl, rfl, rfl, rfl, rfl, rfl, rfl, trivial⟩
  refine J_q 19 rfl rfl rfl rfl (Q_not rfl rfl) ?_
  refine J_q 20 rfl rfl rfl rfl (Q_pickF rfl rfl rfl) ?_
  refine J_q 21 rfl rfl rfl rfl (Q_move rfl rfl) ?_
  refine J_q 22 rfl rfl rfl rfl (Q_ldBK' (k := 47) ([.int .i64 0, .int .i64 0]) hS73 rfl rfl rfl Try.isAgg23 Try.sizeOf23 rfl rfl) ?_
  refine J_in 23 rfl rfl rfl rfl (T_call rfl rfl rfl Try.call55) ?_
  refine fn_calls' 15 (args := [_]) Try.func55 rfl rfl rfl ?_
  refine C_seq ?_
  refine C_region ?_
  refine J_do 1 rfl rfl rfl rfl (D_box 50 hS73 rfl rfl (fun g74 w74 hS74 => ?_))
  refine J_q 2 rfl rfl rfl rfl (Q_assign rfl rfl) ?_
  refine J_nil (K_seq ?_)
  refine C_seq ?_
  refine C_region ?_
  refine J_q 3 rfl rfl rfl rfl (Q_ldBK' (k := 50) ([.int .i64 0, .int .i64 0]) hS74 rfl rfl rfl Try.isAgg23 Try.sizeOf23 rfl rfl) ?_
  refine J_in 4 rfl rfl rfl rfl (T_call rfl rfl rfl Try.call54) ?_
  refine fn_calls' 16 (args := [_]) Try.func54 rfl rfl rfl ?_
  refine C_seq ?_
  refine C_region ?_
  refine J_do 1 rfl rfl rfl rfl (D_box 51 hS74 rfl rfl (fun g75 w75 hS75 => ?_))
  refine J_q 2 rfl rfl rfl rfl (Q_assign rfl rfl) ?_
  refine J_nil (K_seq ?_)
  refine C_seq ?_
  refine C_region ?_
  refine J_q 3 rfl rfl rfl rfl (Q_fa0 rfl rfl fo23_0) ?_
  refine J_q 4 rfl rfl rfl rfl (Q_ldB1 (k := 51) hS75 rfl rfl rfl Try.isAgg3 rfl) ?_
  refine J_q 5 rfl rfl rfl rfl (Q_toB (c' := false) (Q_geq rfl rfl rfl) (by decide)) ?_
  refine J_q 6 rfl rfl rfl rfl (Q_move rfl rfl) ?_
  refine J_no rfl rfl rfl ?_
  refine J_no rfl rfl rfl ?_
  refine J_no rfl rfl rfl ?_
  refine J_q 10 rfl rfl rfl rfl (Q_pickF rfl rfl rfl) ?_
  refine J_q 11 rfl rfl rfl rfl (Q_move rfl rfl) ?_
  refine J_no rfl rfl rfl ?_
  refine J_no rfl rfl rfl ?_
  refine J_no rfl rfl rfl ?_
  refine J_q 15 rfl rfl rfl rfl (Q_pickF rfl rfl rfl) ?_
  refine J_q 2 rfl rfl rfl rfl (Q_assign rfl rfl) ?_
  refine J_nil (K_seq ?_)
  refine C_ret (body_ret (res1 rfl rfl) ?_)
  refine ⟨_, rfl, ?_⟩
  have hS76 : St w w75 [(50, blkL g74 ([.int .i64 0, .int .i64 0]) 23), (47, blkL g69 ([.int .i64 0, .int .i64 0]) 23), (46, blkL g68 ([.int .i64 1, .int .i64 0]) 23), (45, blkL g67 ([.int .i64 3, .int .i64 0]) 23), (34, own 109 14 (.slice (some ⟨g51, 0, none⟩) (0 + 1) cap51) (0 + 1) [.int .i64 3, .int .i64 0, .int .i64 1, .int .i64 0, .int .i64 0, .int .i64 0, .bool true, .int .i64 0, .int .i64 0, .int .i64 0, .int .i64 0, .int .i64 0, .int .i64 0, .bool false]), (22, blkL g30 ([.int .i64 1, .int .i64 0]) 23), (21, blkL g29 ([.slice (some ⟨g51, 0, none⟩) (0 + 1) cap51, .map (some g28)]) 103), (20, mapL g28 [((⟨1, 0⟩ : Stamp), .agg ([.int .i64 1, .int .i64 0, .int .i64 0, .int .i64 0, .int .i64 3, .int .i64 0]).toArray)]), (5, blkL g6 ([.int .i64 0, .int .i64 0, .int .i64 0, .int .i64 0, .int .i64 0, .int .i64 0]) 28), (1, blkL g1 ([.int .i64 a0, .int .i64 a1, .int .i64 a2, .int .i64 a3, .int .i64 a4, .int .i64 a5, .int .i64 a6]) 25), (0, fz w (lt_ w))] := hS75.pick [50, 47, 46, 45, 34, 22, 21, 20, 5, 1, 0] ⟨rfl, rfl, rfl, rfl, rfl, rfl, rfl, rfl, rfl, rfl, rfl, rfl, rfl, rfl, rfl, rfl, rfl, rfl, rfl, rfl, rfl, rfl, trivial⟩
  refine J_q 5 rfl rfl rfl rfl (Q_move rfl rfl) ?_
  refine J_q 6 rfl rfl rfl rfl (Q_ldBK' (k := 50) ([.int .i64 0, .int .i64 0]) hS76 rfl rfl rfl Try.isAgg23 Try.sizeOf23 rfl rfl) ?_
  refine J_q 7 rfl rfl rfl rfl (Q_bld (v := .agg ([.int .i64 0, .int .i64 0]).toArray) (ps := []) rfl rfl (fun _ => by kernel_rfl)) ?_
  refine J_q 8 rfl rfl rfl rfl (Q_eqlA (c := true) (us := #[.int .i64 0, .int .i64 0]) (vs := #[.int .i64 0, .int .i64 0]) rfl rfl rfl (by kernel_rfl) (fun _ => by kernel_rfl)) ?_
  refine J_q 9 rfl rfl rfl rfl (Q_pickF rfl rfl rfl) ?_
  refine J_q 10 rfl rfl rfl rfl (Q_move rfl rfl) ?_
  refine J_no rfl rfl rfl ?_
  refine J_no rfl rfl rfl ?_
  refine J_no rfl rfl rfl ?_
  refine J_q 14 rfl rfl rfl rfl (Q_pickT rfl rfl rfl) ?_
  refine J_q 2 rfl rfl rfl rfl (Q_assign rfl rfl) ?_
  refine J_nil (K_seq ?_)
  refine C_ret (body_ret (res1 rfl rfl) ?_)
  refine ⟨_, rfl, ?_⟩
  have hS77 : St w w75 [(47, blkL g69 ([.int .i64 0, .int .i64 0]) 23), (46, blkL g68 ([.int .i64 1, .int .i64 0]) 23), (45, blkL g67 ([.int .i64 3, .int .i64 0]) 23), (34, own 109 14 (.slice (some ⟨g51, 0, none⟩) (0 + 1) cap51) (0 + 1) [.int .i64 3, .int .i64 0, .int .i64 1, .int .i64 0, .int .i64 0, .int .i64 0, .bool true, .int .i64 0, .int .i64 0, .int .i64 0, .int .i64 0, .int .i64 0, .int .i64 0, .bool false]), (22, blkL g30 ([.int .i64 1, .int .i64 0]) 23), (21, blkL g29 ([.slice (some ⟨g51, 0, none⟩) (0 + 1) cap51, .map (some g28)]) 103), (20, mapL g28 [((⟨1, 0⟩ : Stamp), .agg ([.int .i64 1, .int .i64 0, .int .i64 0, .int .i64 0, .int .i64 3, .int .i64 0]).toArray)]), (5, blkL g6 ([.int .i64 0, .int .i64 0, .int .i64 0, .int .i64 0, .int .i64 0, .int .i64 0]) 28), (1, blkL g1 ([.int .i64 a0, .int .i64 a1, .int .i64 a2, .int .i64 a3, .int .i64 a4, .int .i64 a5, .int .i64 a6]) 25), (0, fz w (lt_ w))] := hS76.pick [47, 46, 45, 34, 22, 21, 20, 5, 1, 0] ⟨rfl, rfl, rfl, rfl, rfl, rfl, rfl, rfl, rfl, rfl, rfl, rfl, rfl, rfl, rfl, rfl, rfl, rfl, rfl, rfl, trivial⟩
  refine J_q 24 rfl rfl rfl rfl (Q_not rfl rfl) ?_
  refine J_q 25 rfl rfl rfl rfl (Q_pickF rfl rfl rfl) ?_
  refine J_nil (K_seq ?_)
  refine C_false rfl ?_
  refine C_skip (K_seq ?_)
  refine C_seq ?_
  refine C_region ?_
  refine J_q 27 rfl rfl rfl rfl (Q_move rfl rfl) ?_
  refine J_q 28 rfl rfl rfl rfl (Q_ldBK' (k := 45) ([.int .i64 3, .int .i64 0]) hS77 rfl rfl rfl Try.isAgg23 Try.sizeOf23 rfl rfl) ?_
  refine J_in 29 rfl rfl rfl rfl (T_call rfl rfl rfl Try.call56) ?_
  refine fn_calls' 16 (args := [_, _]) Try.func56 rfl rfl rfl ?_
  refine C_seq ?_
  refine C_region ?_
  refine J_do 3 rfl rfl rfl rfl (D_box 52 hS77 rfl rfl (fun g78 w78 hS78 => ?_))
  refine J_q 4 rfl rfl rfl rfl (Q_assign rfl rfl) ?_
  refine J_q 5 rfl rfl rfl rfl (Q_assign rfl rfl) ?_
  refine J_nil (K_seq ?_)
  refine C_seq ?_
  refine C_seq ?_
  refine C_region ?_
  refine J_q 6 rfl rfl rfl rfl (Q_move rfl rfl) ?_
  refine J_q 7 rfl rfl rfl rfl (Q_eqNilF rfl rfl rfl Try.underlying26) ?_
  refine J_nil (K_seq ?_)
  refine C_false rfl ?_
  refine C_skip (K_seq ?_)
  refine C_seq ?_
  refine C_draw (fun w' => St w w' [(52, blkL g78 ([.int .i64 3, .int .i64 0]) 23), (47, blkL g69 ([.int .i64 0, .int .i64 0]) 23), (46, blkL g68 ([.int .i64 1, .int .i64 0]) 23), (45, blkL g67 ([.int .i64 3, .int .i64 0]) 23), (34, own 109 14 (.slice (some ⟨g51, 0, none⟩) (0 + 1) cap51) (0 + 1) [.int .i64 3, .int .i64 0, .int .i64 1, .int .i64 0, .int .i64 0, .int .i64 0, .bool true, .int .i64 0, .int .i64 0, .int .i64 0, .int .i64 0, .int .i64 0, .int .i64 0, .bool false]), (22, blkL g30 ([.int .i64 1, .int .i64 0]) 23), (21, blkL g29 ([.slice (some ⟨g51, 0, none⟩) (0 + 1) cap51, .map (some g28)]) 103), (20, mapL g28 [((⟨1, 0⟩ : Stamp), .agg ([.int .i64 1, .int .i64 0, .int .i64 0, .int .i64 0, .int .i64 3, .int .i64 0]).toArray)]), (5, blkL g6 ([.int .i64 0, .int .i64 0, .int .i64 0, .int .i64 0, .int .i64 0, .int .i64 0]) 28), (1, blkL g1 ([.int .i64 a0, .int .i64 a1, .int .i64 a2, .int .i64 a3, .int .i64 a4, .int .i64 a5, .int .i64 a6]) 25), (0, fz w (lt_ w))]) 10 mixedOrders 10 rfl (fun w79 hk79 => ?_)
  have hS79 := hS78.kp0 hk79
  refine JA_p 0 8 10 rfl rfl rfl rfl (by kernel_rfl) (by kernel_rfl) (fun _ => Q_move rfl rfl) ?_
  refine JA_p 1 9 10 rfl rfl rfl rfl (by kernel_rfl) (by kernel_rfl) (fun _ => Q_nil rfl rfl) ?_
  refine JA_p 2 10 10 rfl rfl rfl rfl (by kernel_rfl) (by kernel_rfl) (fun _ => Q_fa0 rfl rfl fo103_0) ?_
  refine JA_q 3 11 rfl rfl rfl rfl (by kernel_rfl) (by kernel_rfl) hS79 (fun _ hI => Q_ldB1 (k := 21) hI rfl rfl rfl Try.isAgg100 rfl) ?_
  refine JA_q 4 12 rfl rfl rfl rfl (by kernel_rfl) (by kernel_rfl) hS79 (fun _ hI => Q_ldBK' (k := 52) ([.int .i64 3, .int .i64 0]) hI rfl rfl rfl Try.isAgg23 Try.sizeOf23 rfl rfl) ?_
  refine JA_in 5 13 rfl rfl rfl rfl (by kernel_rfl) (T_call rfl rfl rfl Try.call89) ?_
  refine fn_calls' 49 (args := [_, _, _]) Try.func89 rfl rfl rfl ?_
  refine C_seq ?_
  refine C_region ?_
  refine J_do 4 rfl rfl rfl rfl (D_box 53 hS79 rfl rfl (fun g80 w80 hS80 => ?_))
  refine J_q 6 rfl rfl rfl rfl (Q_assign rfl rfl) ?_
  refine J_q 7 rfl rfl rfl rfl (Q_assign rfl rfl) ?_
  refine J_nil (K_seq ?_)
  refine C_seq ?_
  refine C_region ?_
  refine J_q 12 rfl rfl rfl rfl (Q_move rfl rfl) ?_
  refine J_q 13 rfl rfl rfl rfl (Q_toI (i' := 1) (Q_len rfl rfl Try.underlying100) (by decide)) ?_
  refine J_q 8 rfl rfl rfl rfl (Q_assign rfl rfl) ?_
  refine J_nil (K_seq ?_)
  refine C_seq ?_
  refine C_region ?_
  refine J_q 14 rfl rfl rfl rfl (Q_move rfl rfl) ?_
  refine J_q 9 rfl rfl rfl rfl (Q_assign rfl rfl) ?_
  refine J_q 10 rfl rfl rfl rfl (Q_assign rfl rfl) ?_
  refine J_nil (K_seq ?_)
  refine C_seq ?_
  refine C_block ?_
  refine C_rounds 3 ?_
  refine C_seq ?_
  refine C_seq ?_
  refine C_region ?_
  refine J_q 15 rfl rfl rfl rfl (Q_move rfl rfl) ?_
  refine J_q 16 rfl rfl rfl rfl (Q_move rfl rfl) ?_
  refine J_q 17 rfl rfl rfl rfl (Q_toB (c' := true) (Q_lss rfl rfl rfl) (by decide)) ?_
  refine J_nil (K_seq ?_)
  refine C_true rfl ?_
  refine C_skip (K_seq ?_)
  refine C_block ?_
  refine C_seq ?_
  refine C_region ?_
  refine J_q 18 rfl rfl rfl rfl (Q_move rfl rfl) ?_
  refine J_q 19 rfl rfl rfl rfl (Q_move rfl rfl) ?_
  refine J_q 20 rfl rfl rfl rfl (Q_toI (i' := 1) (Q_add rfl rfl rfl (by decide) (by decide)) (by decide)) ?_
  refine J_q 21 rfl rfl rfl rfl (Q_cvU rfl rfl Try.underlying3 Try.underlying88 (by decide)) ?_
  refine J_q 22 rfl rfl rfl rfl (Q_toI (i' := 0) (Q_shr1 rfl rfl rfl) (by decide)) ?_
  refine J_q 23 rfl rfl rfl rfl (Q_cvI rfl rfl Try.underlying88 Try.underlying3 (by decide)) ?_
  refine J_q 11 rfl rfl rfl rfl (Q_assign rfl rfl) ?_
  refine J_nil (K_seq ?_)
  refine C_seq ?_
  refine C_draw (fun w' => St w w' [(53, blkL g80 ([.int .i64 3, .int .i64 0]) 23), (52, blkL g78 ([.int .i64 3, .int .i64 0]) 23), (47, blkL g69 ([.int .i64 0, .int .i64 0]) 23), (46, blkL g68 ([.int .i64 1, .int .i64 0]) 23), (45, blkL g67 ([.int .i64 3, .int .i64 0]) 23), (34, own 109 14 (.slice (some ⟨g51, 0, none⟩) (0 + 1) cap51) (0 + 1) [.int .i64 3, .int .i64 0, .int .i64 1, .int .i64 0, .int .i64 0, .int .i64 0, .bool true, .int .i64 0, .int .i64 0, .int .i64 0, .int .i64 0, .int .i64 0, .int .i64 0, .bool false]), (22, blkL g30 ([.int .i64 1, .int .i64 0]) 23), (21, blkL g29 ([.slice (some ⟨g51, 0, none⟩) (0 + 1) cap51, .map (some g28)]) 103), (20, mapL g28 [((⟨1, 0⟩ : Stamp), .agg ([.int .i64 1, .int .i64 0, .int .i64 0, .int .i64 0, .int .i64 3, .int .i64 0]).toArray)]), (5, blkL g6 ([.int .i64 0, .int .i64 0, .int .i64 0, .int .i64 0, .int .i64 0, .int .i64 0]) 28), (1, blkL g1 ([.int .i64 a0, .int .i64 a1, .int .i64 a2, .int .i64 a3, .int .i64 a4, .int .i64 a5, .int .i64 a6]) 25), (0, fz w (lt_ w))]) 8 mixedOrders 8 rfl (fun w81 hk81 => ?_)
  have hS81 := hS80.kp0 hk81
  refine JA_p 0 24 8 rfl rfl rfl rfl (by kernel_rfl) (by kernel_rfl) (fun _ => Q_move rfl rfl) ?_
  refine JA_p 1 25 8 rfl rfl rfl rfl (by kernel_rfl) (by kernel_rfl) (fun _ => Q_move rfl rfl) ?_
  refine JA_p 2 26 8 rfl rfl rfl rfl (by kernel_rfl) (by kernel_rfl) (fun _ => Q_move rfl rfl) ?_
  refine JA_p 3 27 8 rfl rfl rfl rfl (by kernel_rfl) (by kernel_rfl) (fun _ => Q_ia rfl rfl rfl Try.underlying100 Try.sizeOf109 (by decide) (by decide)) ?_
  refine JA_q 4 28 rfl rfl rfl rfl (by kernel_rfl) (by kernel_rfl) hS81 (fun _ hI => Q_ldCK ([.int .i64 3, .int .i64 0, .int .i64 1, .int .i64 0, .int .i64 0, .int .i64 0, .bool true, .int .i64 0, .int .i64 0, .int .i64 0, .int .i64 0, .int .i64 0, .int .i64 0, .bool false]) (own_cells (hI.get (k := 34) rfl)) rfl rfl Try.isAgg109 Try.sizeOf109 rfl rfl) ?_
  refine JA_q 5 29 rfl rfl rfl rfl (by kernel_rfl) (by kernel_rfl) hS81 (fun _ hI => Q_ldBK' (k := 53) ([.int .i64 3, .int .i64 0]) hI rfl rfl rfl Try.isAgg23 Try.sizeOf23 rfl rfl) ?_
  refine JA_in 6 30 rfl rfl rfl rfl (by kernel_rfl) (T_call rfl rfl rfl Try.call90) ?_
  refine fn_calls' 9 (args := [_, _]) Try.func90 rfl rfl rfl ?_
  refine C_seq ?_
  refine C_region ?_
  refine J_do 2 rfl rfl rfl rfl (D_box 54 hS81 rfl rfl (fun g82 w82 hS82 => ?_))
  refine J_do 3 rfl rfl rfl rfl (D_box 55 hS82 rfl rfl (fun g83 w83 hS83 => ?_))
  refine J_q 4 rfl rfl rfl rfl (Q_assign rfl rfl) ?_
  refine J_nil (K_seq ?_)
  refine C_seq ?_
  refine C_region ?_
  refine J_q 5 rfl rfl rfl rfl (Q_fa0 rfl rfl fo109_0) ?_
  refine J_q 6 rfl rfl rfl rfl (Q_ldBK (k := 54) ([.int .i64 3, .int .i64 0]) hS83 rfl rfl rfl Try.isAgg23 Try.sizeOf23 rfl rfl) ?_
  refine J_q 7 rfl rfl rfl rfl (Q_ldBK' (k := 55) ([.int .i64 3, .int .i64 0]) hS83 rfl rfl rfl Try.isAgg23 Try.sizeOf23 rfl rfl) ?_
  refine J_in 8 rfl rfl rfl rfl (T_call rfl rfl rfl Try.call63) ?_
  refine fn_calls' 29 (args := [_, _]) Try.func63 rfl rfl rfl ?_
  refine C_seq ?_
  refine C_region ?_
  refine J_do 2 rfl rfl rfl rfl (D_box 56 hS83 rfl rfl (fun g84 w84 hS84 => ?_))
  refine J_do 3 rfl rfl rfl rfl (D_box 57 hS84 rfl rfl (fun g85 w85 hS85 => ?_))
  refine J_q 4 rfl rfl rfl rfl (Q_assign rfl rfl) ?_
  refine J_nil (K_seq ?_)
  refine C_seq ?_
  refine C_block ?_
  refine C_seq ?_
  refine C_region ?_
  refine J_q 6 rfl rfl rfl rfl (Q_ldBK' (k := 56) ([.int .i64 3, .int .i64 0]) hS85 rfl rfl rfl Try.isAgg23 Try.sizeOf23 rfl rfl) ?_
  refine J_q 7 rfl rfl rfl rfl (Q_ldBK' (k := 57) ([.int .i64 3, .int .i64 0]) hS85 rfl rfl rfl Try.isAgg23 Try.sizeOf23 rfl rfl) ?_
  refine J_q 8 rfl rfl rfl rfl (Q_eqlA (c := true) (us := #[.int .i64 3, .int .i64 0]) (vs := #[.int .i64 3, .int .i64 0]) rfl rfl rfl (by kernel_rfl) (fun _ => by kernel_rfl)) ?_
  refine J_q 5 rfl rfl rfl rfl (Q_assign rfl rfl) ?_
  refine J_nil (K_seq ?_)
  refine C_true rfl ?_
  refine C_seq ?_
  refine C_region ?_
  refine J_q 4 rfl rfl rfl rfl (Q_assign rfl rfl) ?_
  refine J_nil (K_seq ?_)
  refine C_ret (R_blk (R_then (body_ret (res1 rfl rfl) ?_)))
  refine ⟨_, rfl, ?_⟩
  have hS86 : St w w85 [(55, blkL g83 ([.int .i64 3, .int .i64 0]) 23), (54, blkL g82 ([.int .i64 3, .int .i64 0, .int .i64 1, .int .i64 0, .int .i64 0, .int .i64 0, .bool true, .int .i64 0, .int .i64 0, .int .i64 0, .int .i64 0, .int .i64 0, .int .i64 0, .bool false]) 109), (53, blkL g80 ([.int .i64 3, .int .i64 0]) 23), (52, blkL g78 ([.int .i64 3, .int .i64 0]) 23), (47, blkL g69 ([.int .i64 0, .int .i64 0]) 23), (46, blkL g68 ([.int .i64 1, .int .i64 0]) 23), (45, blkL g67 ([.int .i64 3, .int .i64 0]) 23), (34, own 109 14 (.slice (some ⟨g51, 0, none⟩) (0 + 1) cap51) (0 + 1) [.int .i64 3, .int .i64 0, .int .i64 1, .int .i64 0, .int .i64 0, .int .i64 0, .bool true, .int .i64 0, .int .i64 0, .int .i64 0, .int .i64 0, .int .i64 0, .int .i64 0, .bool false]), (22, blkL g30 ([.int .i64 1, .int .i64 0]) 23), (21, blkL g29 ([.slice (some ⟨g51, 0, none⟩) (0 + 1) cap51, .map (some g28)]) 103), (20, mapL g28 [((⟨1, 0⟩ : Stamp), .agg ([.int .i64 1, .int .i64 0, .int .i64 0, .int .i64 0, .int .i64 3, .int .i64 0]).toArray)]), (5, blkL g6 ([.int .i64 0, .int .i64 0, .int .i64 0, .int .i64 0, .int .i64 0, .int .i64 0]) 28), (1, blkL g1 ([.int .i64 a0, .int .i64 a1, .int .i64 a2, .int .i64 a3, .int .i64 a4, .int .i64 a5, .int .i64 a6]) 25), (0, fz w (lt_ w))] := hS85.pick [55, 54, 53, 52, 47, 46, 45, 34, 22, 21, 20, 5, 1, 0] ⟨rfl, rfl, rfl, rfl, rfl, rfl, rfl, rfl, rfl, rfl, rfl, rfl, rfl, rfl, rfl, rfl, rfl, rfl, rfl, rfl, rfl, rfl, rfl, rfl, rfl, rfl, rfl, rfl, trivial⟩
  refine J_q 4 rfl rfl rfl rfl (Q_assign rfl rfl) ?_
  refine J_nil (K_seq ?_)
  refine C_ret (body_ret (res1 rfl rfl) ?_)
  refine ⟨_, rfl, (fun _ => (hS86.pick [53, 52, 47, 46, 45, 34, 22, 21, 20, 5, 1, 0] ⟨rfl, rfl, rfl, rfl, rfl, rfl, rfl, rfl, rfl, rfl, rfl, rfl, rfl, rfl, rfl, rfl, rfl, rfl, rfl, rfl, rfl, rfl, rfl, rfl, trivial⟩)), ?_⟩
  have hS87 : St w w85 [(53, blkL g80 ([.int .i64 3, .int .i64 0]) 23), (52, blkL g78 ([.int .i64 3, .int .i64 0]) 23), (47, blkL g69 ([.int .i64 0, .int .i64 0]) 23), (46, blkL g68 ([.int .i64 1, .int .i64 0]) 23), (45, blkL g67 ([.int .i64 3, .int .i64 0]) 23), (34, own 109 14 (.slice (some ⟨g51, 0, none⟩) (0 + 1) cap51) (0 + 1) [.int .i64 3, .int .i64 0, .int .i64 1, .int .i64 0, .int .i64 0, .int .i64 0, .bool true, .int .i64 0, .int .i64 0, .int .i64 0, .int .i64 0, .int .i64 0, .int .i64 0, .bool false]), (22, blkL g30 ([.int .i64 1, .int .i64 0]) 23), (21, blkL g29 ([.slice (some ⟨g51, 0, none⟩) (0 + 1) cap51, .map (some g28)]) 103), (20, mapL g28 [((⟨1, 0⟩ : Stamp), .agg ([.int .i64 1, .int .i64 0, .int .i64 0, .int .i64 0, .int .i64 3, .int .i64 0]).toArray)]), (5, blkL g6 ([.int .i64 0, .int .i64 0, .int .i64 0, .int .i64 0, .int .i64 0, .int .i64 0]) 28), (1, blkL g1 ([.int .i64 a0, .int .i64 a1, .int .i64 a2, .int .i64 a3, .int .i64 a4, .int .i64 a5, .int .i64 a6]) 25), (0, fz w (lt_ w))] := hS86.pick [53, 52, 47, 46, 45, 34, 22, 21, 20, 5, 1, 0] ⟨rfl, rfl, rfl, rfl, rfl, rfl, rfl, rfl, rfl, rfl, rfl, rfl, rfl, rfl, rfl, rfl, rfl, rfl, rfl, rfl, rfl, rfl, rfl, rfl, trivial⟩
  refine JA_p 7 31 8 rfl rfl rfl rfl (by kernel_rfl) (by kernel_rfl) (fun _ => Q_toB (c' := false) (Q_lss rfl rfl rfl) (by decide)) ?_
  refine JA_end (by kernel_rfl) (K_seq ?_)
  refine C_false rfl ?_
  refine C_region ?_
  refine J_q 34 rfl rfl rfl rfl (Q_move rfl rfl) ?_
  refine J_q 10 rfl rfl rfl rfl (Q_assign rfl rfl) ?_
  refine J_nil (N_blk (K_rnd ?_))
  refine C_seq ?_
  refine C_seq ?_
  refine C_region ?_
  refine J_q 15 rfl rfl rfl rfl (Q_move rfl rfl) ?_
  refine J_q 16 rfl rfl rfl rfl (Q_move rfl rfl) ?_
  refine J_q 17 rfl rfl rfl rfl (Q_toB (c' := false) (Q_lss rfl rfl rfl) (by decide)) ?_
  refine J_nil (K_seq ?_)
  refine C_false rfl ?_
  refine C_exit (X_then (X_then (X_hit (K_seq ?_))))
  refine C_seq ?_
  refine C_draw (fun w' => St w w' [(53, blkL g80 ([.int .i64 3, .int .i64 0]) 23), (52, blkL g78 ([.int .i64 3, .int .i64 0]) 23), (47, blkL g69 ([.int .i64 0, .int .i64 0]) 23), (46, blkL g68 ([.int .i64 1, .int .i64 0]) 23), (45, blkL g67 ([.int .i64 3, .int .i64 0]) 23), (34, own 109 14 (.slice (some ⟨g51, 0, none⟩) (0 + 1) cap51) (0 + 1) [.int .i64 3, .int .i64 0, .int .i64 1, .int .i64 0, .int .i64 0, .int .i64 0, .bool true, .int .i64 0, .int .i64 0, .int .i64 0, .int .i64 0, .int .i64 0, .int .i64 0, .bool false]), (22, blkL g30 ([.int .i64 1, .int .i64 0]) 23), (21, blkL g29 ([.slice (some ⟨g51, 0, none⟩) (0 + 1) cap51, .map (some g28)]) 103), (20, mapL g28 [((⟨1, 0⟩ : Stamp), .agg ([.int .i64 1, .int .i64 0, .int .i64 0, .int .i64 0, .int .i64 3, .int .i64 0]).toArray)]), (5, blkL g6 ([.int .i64 0, .int .i64 0, .int .i64 0, .int .i64 0, .int .i64 0, .int .i64 0]) 28), (1, blkL g1 ([.int .i64 a0, .int .i64 a1, .int .i64 a2, .int .i64 a3, .int .i64 a4, .int .i64 a5, .int .i64 a6]) 25), (0, fz w (lt_ w))]) 16 mixedOrders 16 rfl (fun w88 hk88 => ?_)
  have hS88 := hS87.kp0 hk88
  refine JA_p 0 35 16 rfl rfl rfl rfl (by kernel_rfl) (by kernel_rfl) (fun _ => Q_move rfl rfl) ?_
  refine JA_p 1 36 16 rfl rfl rfl rfl (by kernel_rfl) (by kernel_rfl) (fun _ => Q_move rfl rfl) ?_
  refine JA_p 2 37 16 rfl rfl rfl rfl (by kernel_rfl) (by kernel_rfl) (fun _ => Q_move rfl rfl) ?_
  refine JA_p 3 38 16 rfl rfl rfl rfl (by kernel_rfl) (by kernel_rfl) (fun _ => Q_toB (c' := true) (Q_lss rfl rfl rfl) (by decide)) ?_
  refine JA_p 4 39 16 rfl rfl rfl rfl (by kernel_rfl) (by kernel_rfl) (fun _ => Q_move rfl rfl) ?_
  refine JA_p 5 40 16 rfl rfl rfl rfl (by kernel_rfl) (by kernel_rfl) (fun _ => Q_move rfl rfl) ?_
  refine JA_p 6 41 16 rfl rfl rfl rfl (by kernel_rfl) (by kernel_rfl) (fun _ => Q_move rfl rfl) ?_
  refine JA_p 7 42 16 rfl rfl rfl rfl (by kernel_rfl) (by kernel_rfl) (fun _ => Q_move rfl rfl) ?_
  refine JA_p 8 43 16 rfl rfl rfl rfl (by kernel_rfl) (by kernel_rfl) (fun _ => Q_ia rfl rfl rfl Try.underlying100 Try.sizeOf109 (by decide) (by decide)) ?_
  refine JA_q 9 44 rfl rfl rfl rfl (by kernel_rfl) (by kernel_rfl) hS88 (fun _ hI => Q_ldCK ([.int .i64 3, .int .i64 0, .int .i64 1, .int .i64 0, .int .i64 0, .int .i64 0, .bool true, .int .i64 0, .int .i64 0, .int .i64 0, .int .i64 0, .int .i64 0, .int .i64 0, .bool false]) (own_cells (hI.get (k := 34) rfl)) rfl rfl Try.isAgg109 Try.sizeOf109 rfl rfl) ?_
  refine JA_q 10 45 rfl rfl rfl rfl (by kernel_rfl) (by kernel_rfl) hS88 (fun _ hI => Q_ldBK' (k := 53) ([.int .i64 3, .int .i64 0]) hI rfl rfl rfl Try.isAgg23 Try.sizeOf23 rfl rfl) ?_
  refine JA_in 11 46 rfl rfl rfl rfl (by kernel_rfl) (T_call rfl rfl rfl Try.call90) ?_
  refine fn_calls' 9 (args := [_, _]) Try.func90 rfl rfl rfl ?_
  refine C_seq ?_
  refine C_region ?_
  refine J_do 2 rfl rfl rfl rfl (D_box 58 hS88 rfl rfl (fun g89 w89 hS89 => ?_))
  refine J_do 3 rfl rfl rfl rfl (D_box 59 hS89 rfl rfl (fun g90 w90 hS90 => ?_))
  refine J_q 4 rfl rfl rfl rfl (Q_assign rfl rfl) ?_
  refine J_nil (K_seq ?_)
  refine C_seq ?_
  refine C_region ?_
  refine J_q 5 rfl rfl rfl rfl (Q_fa0 rfl rfl fo109_0) ?_
  refine J_q 6 rfl rfl rfl rfl (Q_ldBK (k := 58) ([.int .i64 3, .int .i64 0]) hS90 rfl rfl rfl Try.isAgg23 Try.sizeOf23 rfl rfl) ?_
  refine J_q 7 rfl rfl rfl rfl (Q_ldBK' (k := 59) ([.int .i64 3, .int .i64 0]) hS90 rfl rfl rfl Try.isAgg23 Try.sizeOf23 rfl rfl) ?_
  refine J_in 8 rfl rfl rfl rfl (T_call rfl rfl rfl Try.call63) ?_
  refine fn_calls' 29 (args := [_, _]) Try.func63 rfl rfl rfl ?_
  refine C_seq ?_
  refine C_region ?_
  refine J_do 2 rfl rfl rfl rfl (D_box 60 hS90 rfl rfl (fun g91 w91 hS91 => ?_))
  refine J_do 3 rfl rfl rfl rfl (D_box 61 hS91 rfl rfl (fun g92 w92 hS92 => ?_))
  refine J_q 4 rfl rfl rfl rfl (Q_assign rfl rfl) ?_
  refine J_nil (K_seq ?_)
  refine C_seq ?_
  refine C_block ?_
  refine C_seq ?_
  refine C_region ?_
  refine J_q 6 rfl rfl rfl rfl (Q_ldBK' (k := 60) ([.int .i64 3, .int .i64 0]) hS92 rfl rfl rfl Try.isAgg23 Try.sizeOf23 rfl rfl) ?_
  refine J_q 7 rfl rfl rfl rfl (Q_ldBK' (k := 61) ([.int .i64 3, .int .i64 0]) hS92 rfl rfl rfl Try.isAgg23 Try.sizeOf23 rfl rfl) ?_
  refine J_q 8 rfl rfl rfl rfl (Q_eqlA (c := true) (us := #[.int .i64 3, .int .i64 0]) (vs := #[.int .i64 3, .int .i64 0]) rfl rfl rfl (by kernel_rfl) (fun _ => by kernel_rfl)) ?_
  refine J_q 5 rfl rfl rfl rfl (Q_assign rfl rfl) ?_
  refine J_nil (K_seq ?_)
  refine C_true rfl ?_
  refine C_seq ?_
  refine C_region ?_
  refine J_q 4 rfl rfl rfl rfl (Q_assign rfl rfl) ?_
  refine J_nil (K_seq ?_)
  refine C_ret (R_blk (R_then (body_ret (res1 rfl rfl) ?_)))
  refine ⟨_, rfl, ?_⟩
  have hS93 : St w w92 [(59, blkL g90 ([.int .i64 3, .int .i64 0]) 23), (58, blkL g89 ([.int .i64 3, .int .i64 0, .int .i64 1, .int .i64 0, .int .i64 0, .int .i64 0, .bool true, .int .i64 0, .int .i64 0, .int .i64 0, .int .i64 0, .int .i64 0, .int .i64 0, .bool false]) 109), (53, blkL g80 ([.int .i64 3, .int .i64 0]) 23), (52, blkL g78 ([.int .i64 3, .int .i64 0]) 23), (47, blkL g69 ([.int .i64 0, .int .i64 0]) 23), (46, blkL g68 ([.int .i64 1, .int .i64 0]) 23), (45, blkL g67 ([.int .i64 3, .int .i64 0]) 23), (34, own 109 14 (.slice (some ⟨g51, 0, none⟩) (0 + 1) cap51) (0 + 1) [.int .i64 3, .int .i64 0, .int .i64 1, .int .i64 0, .int .i64 0, .int .i64 0, .bool true, .int .i64 0, .int .i64 0, .int .i64 0, .int .i64 0, .int .i64 0, .int .i64 0, .bool false]), (22, blkL g30 ([.int .i64 1, .int .i64 0]) 23), (21, blkL g29 ([.slice (some ⟨g51, 0, none⟩) (0 + 1) cap51, .map (some g28)]) 103), (20, mapL g28 [((⟨1, 0⟩ : Stamp), .agg ([.int .i64 1, .int .i64 0, .int .i64 0, .int .i64 0, .int .i64 3, .int .i64 0]).toArray)]), (5, blkL g6 ([.int .i64 0, .int .i64 0, .int .i64 0, .int .i64 0, .int .i64 0, .int .i64 0]) 28), (1, blkL g1 ([.int .i64 a0, .int .i64 a1, .int .i64 a2, .int .i64 a3, .int .i64 a4, .int .i64 a5, .int .i64 a6]) 25), (0, fz w (lt_ w))] := hS92.pick [59, 58, 53, 52, 47, 46, 45, 34, 22, 21, 20, 5, 1, 0] ⟨rfl, rfl, rfl, rfl, rfl, rfl, rfl, rfl, rfl, rfl, rfl, rfl, rfl, rfl, rfl, rfl, rfl, rfl, rfl, rfl, rfl, rfl, rfl, rfl, rfl, rfl, rfl, rfl, trivial⟩
  refine J_q 4 rfl rfl rfl rfl (Q_assign rfl rfl) ?_
  refine J_nil (K_seq ?_)
  refine C_ret (body_ret (res1 rfl rfl) ?_)
  refine ⟨_, rfl, (fun _ => (hS93.pick [53, 52, 47, 46, 45, 34, 22, 21, 20, 5, 1, 0] ⟨rfl, rfl, rfl, rfl, rfl, rfl, rfl, rfl, rfl, rfl, rfl, rfl, rfl, rfl, rfl, rfl, rfl, rfl, rfl, rfl, rfl, rfl, rfl, rfl, trivial⟩)), ?_⟩
  have hS94 : St w w92 [(53, blkL g80 ([.int .i64 3, .int .i64 0]) 23), (52, blkL g78 ([.int .i64 3, .int .i64 0]) 23), (47, blkL g69 ([.int .i64 0, .int .i64 0]) 23), (46, blkL g68 ([.int .i64 1, .int .i64 0]) 23), (45, blkL g67 ([.int .i64 3, .int .i64 0]) 23), (34, own 109 14 (.slice (some ⟨g51, 0, none⟩) (0 + 1) cap51) (0 + 1) [.int .i64 3, .int .i64 0, .int .i64 1, .int .i64 0, .int .i64 0, .int .i64 0, .bool true, .int .i64 0, .int .i64 0, .int .i64 0, .int .i64 0, .int .i64 0, .int .i64 0, .bool false]), (22, blkL g30 ([.int .i64 1, .int .i64 0]) 23), (21, blkL g29 ([.slice (some ⟨g51, 0, none⟩) (0 + 1) cap51, .map (some g28)]) 103), (20, mapL g28 [((⟨1, 0⟩ : Stamp), .agg ([.int .i64 1, .int .i64 0, .int .i64 0, .int .i64 0, .int .i64 3, .int .i64 0]).toArray)]), (5, blkL g6 ([.int .i64 0, .int .i64 0, .int .i64 0, .int .i64 0, .int .i64 0, .int .i64 0]) 28), (1, blkL g1 ([.int .i64 a0, .int .i64 a1, .int .i64 a2, .int .i64 a3, .int .i64 a4, .int .i64 a5, .int .i64 a6]) 25), (0, fz w (lt_ w))] := hS93.pick [53, 52, 47, 46, 45, 34, 22, 21, 20, 5, 1, 0] ⟨rfl, rfl, rfl, rfl, rfl, rfl, rfl, rfl, rfl, rfl, rfl, rfl, rfl, rfl, rfl, rfl, rfl, rfl, rfl, rfl, rfl, rfl, rfl, rfl, trivial⟩
  refine JA_p 12 47 16 rfl rfl rfl rfl (by kernel_rfl) (by kernel_rfl) (fun _ => Q_toB (c' := true) (Q_eql rfl rfl rfl) (by decide)) ?_
  refine JA_p 13 48 16 rfl rfl rfl rfl (by kernel_rfl) (by kernel_rfl) (fun _ => Q_pickT rfl rfl rfl) ?_
  refine JA_p 14 6 16 rfl rfl rfl rfl (by kernel_rfl) (by kernel_rfl) (fun _ => Q_assign rfl rfl) ?_
  refine JA_p 15 7 16 rfl rfl rfl rfl (by kernel_rfl) (by kernel_rfl) (fun _ => Q_assign rfl rfl) ?_
  refine JA_end (by kernel_rfl) (K_seq ?_)
  refine C_ret (body_ret (res2 rfl rfl rfl) ?_)
  refine ⟨_, rfl, (fun _ => (hS94.pick [52, 47, 46, 45, 34, 22, 21, 20, 5, 1, 0] ⟨rfl, rfl, rfl, rfl, rfl, rfl, rfl, rfl, rfl, rfl, rfl, rfl, rfl, rfl, rfl, rfl, rfl, rfl, rfl, rfl, rfl, rfl, trivial⟩)), ?_⟩
  have hS95 : St w w92 [(52, blkL g78 ([.int .i64 3, .int .i64 0]) 23), (47, blkL g69 ([.int .i64 0, .int .i64 0]) 23), (46, blkL g68 ([.int .i64 1, .int .i64 0]) 23), (45, blkL g67 ([.int .i64 3, .int .i64 0]) 23), (34, own 109 14 (.slice (some ⟨g51, 0, none⟩) (0 + 1) cap51) (0 + 1) [.int .i64 3, .int .i64 0, .int .i64 1, .int .i64 0, .int .i64 0, .int .i64 0, .bool true, .int .i64 0, .int .i64 0, .int .i64 0, .int .i64 0, .int .i64 0, .int .i64 0, .bool false]), (22, blkL g30 ([.int .i64 1, .int .i64 0]) 23), (21, blkL g29 ([.slice (some ⟨g51, 0, none⟩) (0 + 1) cap51, .map (some g28)]) 103), (20, mapL g28 [((⟨1, 0⟩ : Stamp), .agg ([.int .i64 1, .int .i64 0, .int .i64 0, .int .i64 0, .int .i64 3, .int .i64 0]).toArray)]), (5, blkL g6 ([.int .i64 0, .int .i64 0, .int .i64 0, .int .i64 0, .int .i64 0, .int .i64 0]) 28), (1, blkL g1 ([.int .i64 a0, .int .i64 a1, .int .i64 a2, .int .i64 a3, .int .i64 a4, .int .i64 a5, .int .i64 a6]) 25), (0, fz w (lt_ w))] := hS94.pick [52, 47, 46, 45, 34, 22, 21, 20, 5, 1, 0] ⟨rfl, rfl, rfl, rfl, rfl, rfl, rfl, rfl, rfl, rfl, rfl, rfl, rfl, rfl, rfl, rfl, rfl, rfl, rfl, rfl, rfl, rfl, trivial⟩
  refine JA_p 6 14 10 rfl rfl rfl rfl (by kernel_rfl) (by kernel_rfl) (fun _ => Q_extract rfl rfl rfl) ?_
  refine JA_p 7 15 10 rfl rfl rfl rfl (by kernel_rfl) (by kernel_rfl) (fun _ => Q_extract rfl rfl rfl) ?_
  refine JA_p 8 4 10 rfl rfl rfl rfl (by kernel_rfl) (by kernel_rfl) (fun _ => Q_assign rfl rfl) ?_
  refine JA_p 9 5 10 rfl rfl rfl rfl (by kernel_rfl) (by kernel_rfl) (fun _ => Q_assign rfl rfl) ?_
  refine JA_end (by kernel_rfl) (K_seq ?_)
  refine C_ret (body_ret (res2 rfl rfl rfl) ?_)
  refine ⟨_, rfl, ?_⟩
  have hS96 : St w w92 [(47, blkL g69 ([.int .i64 0, .int .i64 0]) 23), (46, blkL g68 ([.int .i64 1, .int .i64 0]) 23), (45, blkL g67 ([.int .i64 3, .int .i64 0]) 23), (34, own 109 14 (.slice (some ⟨g51, 0, none⟩) (0 + 1) cap51) (0 + 1) [.int .i64 3, .int .i64 0, .int .i64 1, .int .i64 0, .int .i64 0, .int .i64 0, .bool true, .int .i64 0, .int .i64 0, .int .i64 0, .int .i64 0, .int .i64 0, .int .i64 0, .bool false]), (22, blkL g30 ([.int .i64 1, .int .i64 0]) 23), (21, blkL g29 ([.slice (some ⟨g51, 0, none⟩) (0 + 1) cap51, .map (some g28)]) 103), (20, mapL g28 [((⟨1, 0⟩ : Stamp), .agg ([.int .i64 1, .int .i64 0, .int .i64 0, .int .i64 0, .int .i64 3, .int .i64 0]).toArray)]), (5, blkL g6 ([.int .i64 0, .int .i64 0, .int .i64 0, .int .i64 0, .int .i64 0, .int .i64 0]) 28), (1, blkL g1 ([.int .i64 a0, .int .i64 a1, .int .i64 a2, .int .i64 a3, .int .i64 a4, .int .i64 a5, .int .i64 a6]) 25), (0, fz w (lt_ w))] := hS95.pick [47, 46, 45, 34, 22, 21, 20, 5, 1, 0] ⟨rfl, rfl, rfl, rfl, rfl, rfl, rfl, rfl, rfl, rfl, rfl, rfl, rfl, rfl, rfl, rfl, rfl, rfl, rfl, rfl, trivial⟩
  refine J_q 26 rfl rfl rfl rfl (Q_move rfl rfl) ?_
  refine J_q 30 rfl rfl rfl rfl (Q_extract rfl rfl rfl) ?_
  refine J_q 31 rfl rfl rfl rfl (Q_extract rfl rfl rfl) ?_
  refine J_q 9 rfl rfl rfl rfl (Q_assign rfl rfl) ?_
  refine J_q 10 rfl rfl rfl rfl (Q_assign rfl rfl) ?_
  refine J_nil (K_seq ?_)
  refine C_seq ?_
  refine C_seq ?_
  refine C_region ?_
  refine J_q 32 rfl rfl rfl rfl (Q_move rfl rfl) ?_
  refine J_nil (K_seq ?_)
  refine C_true rfl ?_
  refine C_seq ?_
  refine C_region ?_
  refine J_q 8 rfl rfl rfl rfl (Q_assign rfl rfl) ?_
  refine J_nil (K_seq ?_)
  refine C_ret (R_then (body_ret (res1 rfl rfl) ?_))
  refine ⟨_, rfl, ?_⟩
  have hS97 : St w w92 [(34, own 109 14 (.slice (some ⟨g51, 0, none⟩) (0 + 1) cap51) (0 + 1) [.int .i64 3, .int .i64 0, .int .i64 1, .int .i64 0, .int .i64 0, .int .i64 0, .bool true, .int .i64 0, .int .i64 0, .int .i64 0, .int .i64 0, .int .i64 0, .int .i64 0, .bool false]), (22, blkL g30 ([.int .i64 1, .int .i64 0]) 23), (21, blkL g29 ([.slice (some ⟨g51, 0, none⟩) (0 + 1) cap51, .map (some g28)]) 103), (20, mapL g28 [((⟨1, 0⟩ : Stamp), .agg ([.int .i64 1, .int .i64 0, .int .i64 0, .int .i64 0, .int .i64 3, .int .i64 0]).toArray)]), (5, blkL g6 ([.int .i64 0, .int .i64 0, .int .i64 0, .int .i64 0, .int .i64 0, .int .i64 0]) 28), (1, blkL g1 ([.int .i64 a0, .int .i64 a1, .int .i64 a2, .int .i64 a3, .int .i64 a4, .int .i64 a5, .int .i64 a6]) 25), (0, fz w (lt_ w))] := hS96.pick [34, 22, 21, 20, 5, 1, 0] ⟨rfl, rfl, rfl, rfl, rfl, rfl, rfl, rfl, rfl, rfl, rfl, rfl, rfl, rfl, trivial⟩
  refine J_q 23 rfl rfl rfl rfl (Q_toB (c' := false) (Q_neq rfl rfl rfl) (by decide)) ?_
  refine J_q 24 rfl rfl rfl rfl (Q_pickF rfl rfl rfl) ?_
  refine J_nil (K_seq ?_)
  refine C_false rfl ?_
  refine C_skip (K_seq ?_)
  refine C_seq ?_
  refine C_region ?_
  refine J_q 26 rfl rfl rfl rfl (Q_move rfl rfl) ?_
  refine J_q 27 rfl rfl rfl rfl (Q_ldBK' (k := 22) ([.int .i64 1, .int .i64 0]) hS97 rfl rfl rfl Try.isAgg23 Try.sizeOf23 rfl rfl) ?_
  refine J_in 28 rfl rfl rfl rfl (T_call rfl rfl rfl Try.call13) ?_
  refine fn_calls' 22 (args := [_, _]) Try.func13 rfl rfl rfl ?_
  refine C_seq ?_
  refine C_region ?_
  refine J_do 3 rfl rfl rfl rfl (D_box 62 hS97 rfl rfl (fun g98 w98 hS98 => ?_))
  refine J_do 4 rfl rfl rfl rfl (D_alloc 63 hS98 rfl Try.zeroValue28 (fun g99 w99 hS99 => ?_))
  refine J_q 5 rfl rfl rfl rfl (Q_assign rfl rfl) ?_
  refine J_nil (K_seq ?_)
  refine C_seq ?_
  refine C_seq ?_
  refine C_region ?_
  refine J_q 8 rfl rfl rfl rfl (Q_move rfl rfl) ?_
  refine J_q 9 rfl rfl rfl rfl (Q_eqNilF rfl rfl rfl Try.underlying26) ?_
  refine J_nil (K_seq ?_)
  refine C_false rfl ?_
  refine C_skip (K_seq ?_)
  refine C_seq ?_
  refine C_draw (fun w' => St w w' [(63, blkL g99 ([.int .i64 0, .int .i64 0, .int .i64 0, .int .i64 0, .int .i64 0, .int .i64 0]) 28), (62, blkL g98 ([.int .i64 1, .int .i64 0]) 23), (34, own 109 14 (.slice (some ⟨g51, 0, none⟩) (0 + 1) cap51) (0 + 1) [.int .i64 3, .int .i64 0, .int .i64 1, .int .i64 0, .int .i64 0, .int .i64 0, .bool true, .int .i64 0, .int .i64 0, .int .i64 0, .int .i64 0, .int .i64 0, .int .i64 0, .bool false]), (22, blkL g30 ([.int .i64 1, .int .i64 0]) 23), (21, blkL g29 ([.slice (some ⟨g51, 0, none⟩) (0 + 1) cap51, .map (some g28)]) 103), (20, mapL g28 [((⟨1, 0⟩ : Stamp), .agg ([.int .i64 1, .int .i64 0, .int .i64 0, .int .i64 0, .int .i64 3, .int .i64 0]).toArray)]), (5, blkL g6 ([.int .i64 0, .int .i64 0, .int .i64 0, .int .i64 0, .int .i64 0, .int .i64 0]) 28), (1, blkL g1 ([.int .i64 a0, .int .i64 a1, .int .i64 a2, .int .i64 a3, .int .i64 a4, .int .i64 a5, .int .i64 a6]) 25), (0, fz w (lt_ w))]) 10 mixedOrders 12 rfl (fun w100 hk100 => ?_)
  have hS100 := hS99.kp0 hk100
  refine JA_p 0 12 12 rfl rfl rfl rfl (by kernel_rfl) (by kernel_rfl) (fun _ => Q_move rfl rfl) ?_
  refine JA_p 1 13 12 rfl rfl rfl rfl (by kernel_rfl) (by kernel_rfl) (fun _ => Q_nil rfl rfl) ?_
  refine JA_p 2 14 12 rfl rfl rfl rfl (by kernel_rfl) (by kernel_rfl) (fun _ => Q_fa0 rfl rfl fo103_1) ?_
  refine JA_q 3 15 rfl rfl rfl rfl (by kernel_rfl) (by kernel_rfl) hS100 (fun _ hI => Q_ldB1 (k := 21) hI rfl rfl rfl Try.isAgg101 rfl) ?_
  refine JA_q 4 16 rfl rfl rfl rfl (by kernel_rfl) (by kernel_rfl) hS100 (fun _ hI => Q_ldBK' (k := 62) ([.int .i64 1, .int .i64 0]) hI rfl rfl rfl Try.isAgg23 Try.sizeOf23 rfl rfl) ?_
  refine JA_q 5 17 rfl rfl rfl rfl (by kernel_rfl) (by kernel_rfl) hS100 (fun _ hI => Q_look2 (s := (⟨1, 0⟩ : Stamp)) (some (.agg ([.int .i64 1, .int .i64 0, .int .i64 0, .int .i64 0, .int .i64 3, .int .i64 0]).toArray)) rfl stkey23 hI (j := 20) rfl Try.underlying101 Try.zeroValue28 rfl rfl rfl) ?_
  refine JA_p 6 11 12 rfl rfl rfl rfl (by kernel_rfl) (by kernel_rfl) (fun _ => Q_move rfl rfl) ?_
  refine JA_p 7 18 12 rfl rfl rfl rfl (by kernel_rfl) (by kernel_rfl) (fun _ => Q_extract rfl rfl rfl) ?_
  refine JA_p 8 19 12 rfl rfl rfl rfl (by kernel_rfl) (by kernel_rfl) (fun _ => Q_extract rfl rfl rfl) ?_
  refine JA_do 9 6 rfl rfl rfl rfl (by kernel_rfl) (D_alloc 64 hS100 rfl Try.zeroValue28 (fun g101 w101 hS101 => ⟨(fun _ => (hS101.pick [63, 62, 34, 22, 21, 20, 5, 1, 0] ⟨rfl, rfl, rfl, rfl, rfl, rfl, rfl, rfl, rfl, rfl, rfl, rfl, rfl, rfl, rfl, rfl, rfl, rfl, trivial⟩)), ?_⟩))
  refine JA_do0 10 rfl rfl rfl rfl (by kernel_rfl) (D_store' (k := 64) hS101 rfl rfl rfl rfl Try.sizeOf28 rfl rfl rfl (fun w102 hS102 => ⟨(fun h => nomatch h), ?_⟩))
  refine JA_p 11 7 12 rfl rfl rfl rfl (by kernel_rfl) (by kernel_rfl) (fun _ => Q_assign rfl rfl) ?_
  refine JA_end (by kernel_rfl) (K_seq ?_)
  refine C_seq ?_
  refine C_region ?_
  refine J_q 20 rfl rfl rfl rfl (Q_ldBK' (k := 64) ([.int .i64 1, .int .i64 0, .int .i64 0, .int .i64 0, .int .i64 3, .int .i64 0]) hS102 rfl rfl rfl Try.isAgg28 Try.sizeOf28 rfl rfl) ?_
  refine J_q 21 rfl rfl rfl rfl (Q_move rfl rfl) ?_
  refine J_do0 rfl rfl rfl rfl (D_store' (k := 63) hS102 rfl rfl rfl rfl Try.sizeOf28 rfl rfl rfl (fun w103 hS103 => ?_))
  refine J_q 5 rfl rfl rfl rfl (Q_assign rfl rfl) ?_
  refine J_nil (K_seq ?_)
  refine C_ret (body_ret (resG (vs := [.agg ([.int .i64 1, .int .i64 0, .int .i64 0, .int .i64 0, .int .i64 3, .int .i64 0]).toArray, .bool true]) rfl ⟨rCK ([.int .i64 1, .int .i64 0, .int .i64 0, .int .i64 0, .int .i64 3, .int .i64 0]) (blk_cells (k := 63) hS103 rfl) rfl Try.isAgg28 Try.sizeOf28 rfl rfl, rT rfl, trivial⟩) ?_)
  refine ⟨_, rfl, ?_⟩
  have hS104 : St w w103 [(34, own 109 14 (.slice (some ⟨g51, 0, none⟩) (0 + 1) cap51) (0 + 1) [.int .i64 3, .int .i64 0, .int .i64 1, .int .i64 0, .int .i64 0, .int .i64 0, .bool true, .int .i64 0, .int .i64 0, .int .i64 0, .int .i64 0, .int .i64 0, .int .i64 0, .bool false]), (22, blkL g30 ([.int .i64 1, .int .i64 0]) 23), (21, blkL g29 ([.slice (some ⟨g51, 0, none⟩) (0 + 1) cap51, .map (some g28)]) 103), (20, mapL g28 [((⟨1, 0⟩ : Stamp), .agg ([.int .i64 1, .int .i64 0, .int .i64 0, .int .i64 0, .int .i64 3, .int .i64 0]).toArray)]), (5, blkL g6 ([.int .i64 0, .int .i64 0, .int .i64 0, .int .i64 0, .int .i64 0, .int .i64 0]) 28), (1, blkL g1 ([.int .i64 a0, .int .i64 a1, .int .i64 a2, .int .i64 a3, .int .i64 a4, .int .i64 a5, .int .i64 a6]) 25), (0, fz w (lt_ w))] := hS103.pick [34, 22, 21, 20, 5, 1, 0] ⟨rfl, rfl, rfl, rfl, rfl, rfl, rfl, rfl, rfl, rfl, rfl, rfl, rfl, rfl, trivial⟩
  refine J_q 25 rfl rfl rfl rfl (Q_move rfl rfl) ?_
  refine J_q 29 rfl rfl rfl rfl (Q_extract rfl rfl rfl) ?_
  refine J_q 30 rfl rfl rfl rfl (Q_extract rfl rfl rfl) ?_
  refine J_do 3 rfl rfl rfl rfl (D_alloc 67 hS104 rfl Try.zeroValue28 (fun g105 w105 hS105 => ?_))
  refine J_do0 rfl rfl rfl rfl (D_store' (k := 67) hS105 rfl rfl rfl rfl Try.sizeOf28 rfl rfl rfl (fun w106 hS106 => ?_))
  refine J_q 4 rfl rfl rfl rfl (Q_assign rfl rfl) ?_
  refine J_nil (K_seq ?_)
  refine C_seq ?_
  refine C_region ?_
  refine J_q 31 rfl rfl rfl rfl (Q_move rfl rfl) ?_
  refine J_q 32 rfl rfl rfl rfl (Q_move rfl rfl) ?_
  refine J_q 33 rfl rfl rfl rfl (Q_ldBK' (k := 67) ([.int .i64 1, .int .i64 0, .int .i64 0, .int .i64 0, .int .i64 3, .int .i64 0]) hS106 rfl rfl rfl Try.isAgg28 Try.sizeOf28 rfl rfl) ?_
  refine J_q 34 rfl rfl rfl rfl (Q_ldBK' (k := 22) ([.int .i64 1, .int .i64 0]) hS106 rfl rfl rfl Try.isAgg23 Try.sizeOf23 rfl rfl) ?_
  refine J_q 35 rfl rfl rfl rfl (Q_bld (v := .agg ([.int .i64 3, .int .i64 0]).toArray) (ps := [(0, .const (.int .i64 3))]) rfl rfl (fun _ => by kernel_rfl)) ?_
  refine J_q 36 rfl rfl rfl rfl (Q_bld (v := .agg ([.int .i64 1, .int .i64 0, .int .i64 0, .int .i64 0, .int .i64 3, .int .i64 0]).toArray) (ps := [(0, .tmp 34), (2, .tmp 35)]) rfl rfl (fun _ => by kernel_rfl)) ?_
  refine J_q 37 rfl rfl rfl rfl (Q_eqlA (c := true) (us := #[.int .i64 1, .int .i64 0, .int .i64 0, .int .i64 0, .int .i64 3, .int .i64 0]) (vs := #[.int .i64 1, .int .i64 0, .int .i64 0, .int .i64 0, .int .i64 3, .int .i64 0]) rfl rfl rfl (by kernel_rfl) (fun _ => by kernel_rfl)) ?_
  refine J_q 38 rfl rfl rfl rfl (Q_pickT rfl rfl rfl) ?_
  refine J_q 39 rfl rfl rfl rfl (Q_move rfl rfl) ?_
  refine J_q 40 rfl rfl rfl rfl (Q_move rfl rfl) ?_
  refine J_in 41 rfl rfl rfl rfl (T_call rfl rfl rfl Try.call16) ?_
  refine fn_calls' 10 (args := [_]) Try.func16 rfl rfl rfl ?_
  refine C_seq ?_
  refine C_region ?_
  refine J_q 2 rfl rfl rfl rfl (Q_assign rfl rfl) ?_
  refine J_nil (K_seq ?_)
  refine C_seq ?_
  refine C_seq ?_
  refine C_region ?_
  refine J_q 3 rfl rfl rfl rfl (Q_move rfl rfl) ?_
  refine J_q 4 rfl rfl rfl rfl (Q_eqNilF rfl rfl rfl Try.underlying26) ?_
  refine J_nil (K_seq ?_)
  refine C_false rfl ?_
  refine C_skip (K_seq ?_)
  refine C_seq ?_
  refine C_region ?_
  refine J_q 5 rfl rfl rfl rfl (Q_move rfl rfl) ?_
  refine J_q 6 rfl rfl rfl rfl (Q_nil rfl rfl) ?_
  refine J_q 7 rfl rfl rfl rfl (Q_fa0 rfl rfl fo103_0) ?_
  refine J_q 8 rfl rfl rfl rfl (Q_ldB1 (k := 21) hS106 rfl rfl rfl Try.isAgg100 rfl) ?_
  refine J_q 9 rfl rfl rfl rfl (Q_toI (i' := 1) (Q_len rfl rfl Try.underlying100) (by decide)) ?_
  refine J_q 2 rfl rfl rfl rfl (Q_assign rfl rfl) ?_
  refine J_nil (K_seq ?_)
  refine C_ret (body_ret (res1 rfl rfl) ?_)
  refine ⟨_, rfl, ?_⟩
  refine J_q 42 rfl rfl rfl rfl (Q_toB (c' := true) (Q_eql rfl rfl rfl) (by decide)) ?_
  refine J_q 43 rfl rfl rfl rfl (Q_pickT rfl rfl rfl) ?_
  refine J_q 0 rfl rfl rfl rfl (Q_assign rfl rfl) ?_
  refine J_nil (K_seq ?_)
  refine C_ret (body_ret (res1 rfl rfl) ?_)
  refine ⟨_, rfl, ?_⟩
  have hS107 : St w w106 [(5, blkL g6 ([.int .i64 0, .int .i64 0, .int .i64 0, .int .i64 0, .int .i64 0, .int .i64 0]) 28), (1, blkL g1 ([.int .i64 a0, .int .i64 a1, .int .i64 a2, .int .i64 a3, .int .i64 a4, .int .i64 a5, .int .i64 a6]) 25), (0, fz w (lt_ w))] := hS106.pick [5, 1, 0] ⟨rfl, rfl, rfl, rfl, rfl, rfl, trivial⟩
  refine J_q 79 rfl rfl rfl rfl (Q_pickT rfl rfl rfl) ?_
  refine J_q 2 rfl rfl rfl rfl (Q_assign rfl rfl) ?_
  refine J_nil (K_seq ?_)
  refine C_ret (body_ret (res1 rfl rfl) ?_)
  exact ⟨rfl, hS107.kept (k := 0) rfl⟩
end Go.Proofs.Ytceeellnjckmiaa
