/- The texts Oe, Of, Ol, Om, So3, On, Oo, Op, merged. Proved: what their theorems say, with no condition but those written. -/
import Derived.Shelf.SlSortCmp.NoneTotal
import Derived.Test.YtceeellnjckmiaaBase4
/- Printed by a program of mine (gen.py). -/
set_option linter.unusedVariables false
set_option linter.unusedSimpArgs false
set_option maxRecDepth 100000
namespace Go.Proofs.Ytceeellnjckmiaa
open Go Go.Sl
theorem CCopy_calls (w : World) (l_c : List Value) (c : Change) (h_c : tCh.rd w l_c c) :
    Calls Try.prog 67 #[.agg l_c.toArray] w fun e w' => ∃ l0, e = .returned (.agg l0.toArray) ∧ Kp no w w' ∧ RdF tCh w' (nw w w') l0 (c) := by
  have hS0 := St.start w
  have hF_c := RdF.of_rd h_c
  obtain ⟨A_c, cap_c, rfl, hd_c, ho_c⟩ := openCh hF_c
  have hln_c := RdF.lens hd_c
  have hsq_c := ho_c.seq
  refine fn_calls' 9 (args := [_]) Try.func67 rfl rfl rfl ?_
  refine C_seq ?_
  refine C_region ?_
  refine J_do 1 rfl rfl rfl rfl (D_box 1 hS0 rfl rfl (fun g1 w1 hS1 => ?_))
  refine J_do 2 rfl rfl rfl rfl (D_alloc 2 hS1 rfl Try.zeroValue55 (fun g2 w2 hS2 => ?_))
  refine J_nil (K_seq ?_)
  refine C_seq ?_
  refine C_region ?_
  refine J_do 3 rfl rfl rfl rfl (D_bs (e := 3) (ps := []) 3 ([]) hS2 rfl rfl (fun _ => by kernel_rfl) (fun g3 w3 hS3 => ?_))
  refine J_q 4 rfl rfl rfl rfl (Q_fa0 rfl rfl fo55_2) ?_
  refine J_q 5 rfl rfl rfl rfl (Q_ldB1 (k := 1) hS3 rfl rfl rfl Try.isAgg44 rfl) ?_
  have hS4 := hS3.lit0 (sz := 1) 3 rfl
  refine J_do 6 rfl rfl rfl rfl (D_appSL ([]) c.deps app44 hS4 3 rfl 0 rfl rfl rfl rfl hd_c (by first | omega | (simp only [List.length_nil, List.length_append, List.length_cons]; omega)) (by first | omega | (simp only [List.length_nil, List.length_append, List.length_cons]; omega)) (fun A5 cap5 gl5 w5 hR5 hc5 hS5 => ?_))
  have hR5 := Reps.int (W' := w) hR5
  refine J_q 7 rfl rfl rfl rfl (Q_fa0 rfl rfl fo55_2) ?_
  refine J_do0 rfl rfl rfl rfl (D_store (k := 1) hS5 rfl rfl rfl rfl Try.sizeOf44 rfl rfl rfl (fun w6 hS6 => ?_))
  refine J_nil (K_seq ?_)
  refine C_seq ?_
  refine C_region ?_
  refine J_q 8 rfl rfl rfl rfl (Q_ldBK' (k := 1) ([.int .i64 c.at_.c, .int .i64 c.at_.r, .int .i64 c.seq, .slice A5 (([] ++ c.deps).length) cap5, .int .i64 c.kind, .int .i64 c.node.c, .int .i64 c.node.r, .int .i64 c.par.c, .int .i64 c.par.r, .int .i64 c.aft.c, .int .i64 c.aft.r, .string c.name, .string c.val]) hS6 rfl rfl rfl Try.isAgg55 Try.sizeOf55 rfl rfl) ?_
  refine J_do0 rfl rfl rfl rfl (D_store' (k := 2) hS6 rfl rfl rfl rfl Try.sizeOf55 rfl rfl rfl (fun w7 hS7 => ?_))
  refine J_nil (K_seq ?_)
  refine C_ret (body_ret (resG (vs := [.agg ([.int .i64 c.at_.c, .int .i64 c.at_.r, .int .i64 c.seq, .slice A5 (([] ++ c.deps).length) cap5, .int .i64 c.kind, .int .i64 c.node.c, .int .i64 c.node.r, .int .i64 c.par.c, .int .i64 c.par.r, .int .i64 c.aft.c, .int .i64 c.aft.r, .string c.name, .string c.val]).toArray]) rfl ⟨rCK ([.int .i64 c.at_.c, .int .i64 c.at_.r, .int .i64 c.seq, .slice A5 (([] ++ c.deps).length) cap5, .int .i64 c.kind, .int .i64 c.node.c, .int .i64 c.node.r, .int .i64 c.par.c, .int .i64 c.par.r, .int .i64 c.aft.c, .int .i64 c.aft.r, .string c.name, .string c.val]) (blk_cells (k := 2) hS7 rfl) rfl Try.isAgg55 Try.sizeOf55 rfl rfl, trivial⟩) ?_)
  exact ⟨_, rfl, hS7.kept (k := 0) rfl, mkCh (own_eq (by simp) (hS7.give (d := tI) rfl 3 rfl rfl rfl (Reps.append (Reps.nil _ _ _) hR5) (show _ ≤ 68719476736 by first | omega | (simp only [List.length_nil, List.length_append, List.length_cons]; omega)))) (by assumption)⟩

theorem RCopy_calls (w : World) (l_c : List Value) (c : Change) (h_c : tCh.rd w l_c c) :
    Calls Try.prog 45 #[.agg l_c.toArray] w fun e w' => ∃ l0, e = .returned (.agg l0.toArray) ∧ Kp no w w' ∧ RdF tCh w' (nw w w') l0 (c) := by
  have hS0 := St.start w
  have hF_c := RdF.of_rd h_c
  obtain ⟨A_c, cap_c, rfl, hd_c, ho_c⟩ := openCh hF_c
  have hln_c := RdF.lens hd_c
  have hsq_c := ho_c.seq
  refine fn_calls' 9 (args := [_]) Try.func45 rfl rfl rfl ?_
  refine C_seq ?_
  refine C_region ?_
  refine J_do 1 rfl rfl rfl rfl (D_box 1 hS0 rfl rfl (fun g1 w1 hS1 => ?_))
  refine J_do 2 rfl rfl rfl rfl (D_alloc 2 hS1 rfl Try.zeroValue55 (fun g2 w2 hS2 => ?_))
  refine J_nil (K_seq ?_)
  refine C_seq ?_
  refine C_region ?_
  refine J_do 3 rfl rfl rfl rfl (D_bs (e := 3) (ps := []) 3 ([]) hS2 rfl rfl (fun _ => by kernel_rfl) (fun g3 w3 hS3 => ?_))
  refine J_q 4 rfl rfl rfl rfl (Q_fa0 rfl rfl fo55_2) ?_
  refine J_q 5 rfl rfl rfl rfl (Q_ldB1 (k := 1) hS3 rfl rfl rfl Try.isAgg44 rfl) ?_
  have hS4 := hS3.lit0 (sz := 1) 3 rfl
  refine J_do 6 rfl rfl rfl rfl (D_appSL ([]) c.deps app44 hS4 3 rfl 0 rfl rfl rfl rfl hd_c (by first | omega | (simp only [List.length_nil, List.length_append, List.length_cons]; omega)) (by first | omega | (simp only [List.length_nil, List.length_append, List.length_cons]; omega)) (fun A5 cap5 gl5 w5 hR5 hc5 hS5 => ?_))
  have hR5 := Reps.int (W' := w) hR5
  refine J_q 7 rfl rfl rfl rfl (Q_fa0 rfl rfl fo55_2) ?_
  refine J_do0 rfl rfl rfl rfl (D_store (k := 1) hS5 rfl rfl rfl rfl Try.sizeOf44 rfl rfl rfl (fun w6 hS6 => ?_))
  refine J_nil (K_seq ?_)
  refine C_seq ?_
  refine C_region ?_
  refine J_q 8 rfl rfl rfl rfl (Q_ldBK' (k := 1) ([.int .i64 c.at_.c, .int .i64 c.at_.r, .int .i64 c.seq, .slice A5 (([] ++ c.deps).length) cap5, .int .i64 c.kind, .int .i64 c.node.c, .int .i64 c.node.r, .int .i64 c.par.c, .int .i64 c.par.r, .int .i64 c.aft.c, .int .i64 c.aft.r, .string c.name, .string c.val]) hS6 rfl rfl rfl Try.isAgg55 Try.sizeOf55 rfl rfl) ?_
  refine J_do0 rfl rfl rfl rfl (D_store' (k := 2) hS6 rfl rfl rfl rfl Try.sizeOf55 rfl rfl rfl (fun w7 hS7 => ?_))
  refine J_nil (K_seq ?_)
  refine C_ret (body_ret (resG (vs := [.agg ([.int .i64 c.at_.c, .int .i64 c.at_.r, .int .i64 c.seq, .slice A5 (([] ++ c.deps).length) cap5, .int .i64 c.kind, .int .i64 c.node.c, .int .i64 c.node.r, .int .i64 c.par.c, .int .i64 c.par.r, .int .i64 c.aft.c, .int .i64 c.aft.r, .string c.name, .string c.val]).toArray]) rfl ⟨rCK ([.int .i64 c.at_.c, .int .i64 c.at_.r, .int .i64 c.seq, .slice A5 (([] ++ c.deps).length) cap5, .int .i64 c.kind, .int .i64 c.node.c, .int .i64 c.node.r, .int .i64 c.par.c, .int .i64 c.par.r, .int .i64 c.aft.c, .int .i64 c.aft.r, .string c.name, .string c.val]) (blk_cells (k := 2) hS7 rfl) rfl Try.isAgg55 Try.sizeOf55 rfl rfl, trivial⟩) ?_)
  exact ⟨_, rfl, hS7.kept (k := 0) rfl, mkCh (own_eq (by simp) (hS7.give (d := tI) rfl 3 rfl rfl rfl (Reps.append (Reps.nil _ _ _) hR5) (show _ ≤ 68719476736 by first | omega | (simp only [List.length_nil, List.length_append, List.length_cons]; omega)))) (by assumption)⟩

theorem SameAll_calls (w : World) (v_a : Value) (a : List Change) (h_a : (tSl tCh).rd w [v_a] a) (v_b : Value) (b : List Change) (h_b : (tSl tCh).rd w [v_b] b) :
    Calls Try.prog 44 #[v_a, v_b] w fun e w' => e = .returned (.bool (decide (a = b))) ∧ Kp no w w' := by
  have hS0 := St.start w
  have hF_a := RdF.of_rd h_a
  obtain ⟨A_a, cap_a, rfl, hc_a, hm_a⟩ := hF_a.slice
  have hF_b := RdF.of_rd h_b
  obtain ⟨A_b, cap_b, rfl, hc_b, hm_b⟩ := hF_b.slice
  refine fn_calls' 27 (args := [_, _]) Try.func44 rfl rfl rfl ?_
  refine C_seq ?_
  refine C_region ?_
  refine J_q 4 rfl rfl rfl rfl (Q_assign rfl rfl) ?_
  refine J_nil (K_seq ?_)
  refine C_seq ?_
  refine C_seq ?_
  refine C_region ?_
  refine J_q 6 rfl rfl rfl rfl (Q_move rfl rfl) ?_
  refine J_q 7 rfl rfl rfl rfl (Q_len rfl rfl Try.underlying43) ?_
  refine J_q 8 rfl rfl rfl rfl (Q_move rfl rfl) ?_
  refine J_q 9 rfl rfl rfl rfl (Q_len rfl rfl Try.underlying43) ?_
  refine J_q 10 rfl rfl rfl rfl (Q_neqN rfl rfl rfl) ?_
  refine J_nil (K_seq ?_)
  refine C_ifN rfl (fun h1 => ?_) (fun h1 => ?_)
  · refine C_seq ?_
    refine C_region ?_
    refine J_q 4 rfl rfl rfl rfl (Q_assign rfl rfl) ?_
    refine J_nil (K_seq ?_)
    refine C_ret (R_then (body_ret (res1 rfl rfl) ?_))
    exact ⟨congrArg Ending.returned (eqB (by first | (refine (decide_eq_false fun hab => ?_).symm; subst hab; first | omega | (exfalso; exact absurd rfl (by assumption))) | (exact (decide_eq_true (nth_ext (by omega) (hu.full (by omega)))).symm))), hS0.kept (k := 0) rfl⟩
  · refine C_skip (K_seq ?_)
    refine C_seq ?_
    refine C_seq ?_
    refine C_region ?_
    refine J_q 5 rfl rfl rfl rfl (Q_assign rfl rfl) ?_
    refine J_nil (K_seq ?_)
    refine C_block ?_
    refine C_loop1 (fun (i : Int) => (a.length - i).toNat) (fun (i : Int) => [(0, .slice A_a a.length cap_a), (1, .slice A_b b.length cap_b), (6, .slice A_a a.length cap_a), (7, .int .i64 (a.length : Int)), (8, .slice A_b b.length cap_b), (9, .int .i64 (b.length : Int)), (10, .bool (!decide ((a.length : Int) = (b.length : Int)))), (5, .int .i64 i)]) (fun (i : Int) w' => (0 ≤ i) ∧ (i ≤ a.length) ∧ (Up i fun j => nth a j = nth b j) ∧ St w w' [(0, fz w (lt_ w))]) 0 ⟨(by first | omega | exact Up.zero), (by first | omega | exact Up.zero), (by first | omega | exact Up.zero), hS0⟩ ⟨rfl, rfl, rfl, rfl, rfl, rfl, rfl, rfl, trivial⟩ ?_
    rintro i w2 ⟨h0, h1, hu, hS2⟩
    refine C_seq ?_
    refine C_seq ?_
    refine C_region ?_
    refine J_q 11 rfl rfl rfl rfl (Q_move rfl rfl) ?_
    refine J_q 12 rfl rfl rfl rfl (Q_move rfl rfl) ?_
    refine J_q 13 rfl rfl rfl rfl (Q_len rfl rfl Try.underlying43) ?_
    refine J_q 14 rfl rfl rfl rfl (Q_lss rfl rfl rfl) ?_
    refine J_nil (K_seq ?_)
    refine C_if rfl (fun h3 => ?_) (fun h3 => ?_)
    · refine C_skip (K_seq ?_)
      refine C_seq ?_
      refine C_block ?_
      refine C_seq ?_
      refine C_draw (fun w' => St w w' [(0, fz w (lt_ w))]) 10 mixedOrders 10 rfl (fun w4 hk4 => ?_)
      have hS4 := hS2.kp0 hk4
      refine JA_p 0 17 10 rfl rfl rfl rfl (by kernel_rfl) (by kernel_rfl) (fun _ => Q_move rfl rfl) ?_
      refine JA_p 1 18 10 rfl rfl rfl rfl (by kernel_rfl) (by kernel_rfl) (fun _ => Q_move rfl rfl) ?_
      obtain ⟨ad5, es5, hA5, hr5, hc5⟩ := RdF.nth hF_a i (by omega) (by omega)
      obtain ⟨A5, cap5, rfl, hd5, ho5⟩ := openCh hr5
      have hln5 := RdF.lens hd5
      have hsq5 := ho5.seq
      refine JA_p 2 19 10 rfl rfl rfl rfl (by kernel_rfl) (by kernel_rfl) (fun _ => Q_iaE hA5 rfl rfl rfl Try.underlying43 Try.sizeOf55 (by omega) (by omega)) ?_
      refine JA_q 3 20 rfl rfl rfl rfl (by kernel_rfl) (by kernel_rfl) hS4 (fun _ hI => Q_ldCK' (chL (nth a i) A5 cap5) (hc5 _ (hI.get (k := 0) rfl)) rfl rfl Try.isAgg55 Try.sizeOf55 rfl rfl) ?_
      refine JA_p 4 21 10 rfl rfl rfl rfl (by kernel_rfl) (by kernel_rfl) (fun _ => Q_move rfl rfl) ?_
      refine JA_p 5 22 10 rfl rfl rfl rfl (by kernel_rfl) (by kernel_rfl) (fun _ => Q_move rfl rfl) ?_
      obtain ⟨ad6, es6, hA6, hr6, hc6⟩ := RdF.nth hF_b i (by omega) (by omega)
      obtain ⟨A6, cap6, rfl, hd6, ho6⟩ := openCh hr6
      have hln6 := RdF.lens hd6
      have hsq6 := ho6.seq
      refine JA_p 6 23 10 rfl rfl rfl rfl (by kernel_rfl) (by kernel_rfl) (fun _ => Q_iaE hA6 rfl rfl rfl Try.underlying43 Try.sizeOf55 (by omega) (by omega)) ?_
      refine JA_q 7 24 rfl rfl rfl rfl (by kernel_rfl) (by kernel_rfl) hS4 (fun _ hI => Q_ldCK' (chL (nth b i) A6 cap6) (hc6 _ (hI.get (k := 0) rfl)) rfl rfl Try.isAgg55 Try.sizeOf55 rfl rfl) ?_
      refine JA_call 8 25 rfl rfl rfl rfl (by kernel_rfl) (T_call rfl rfl rfl Try.call29) (RSame5_calls _ _ _ (hS4.rd 0 rfl hr5) _ _ (hS4.rd 0 rfl hr6)) ?_
      rintro _ w7 ⟨rfl, hk7⟩
      have hS7 := hS4.kp0 hk7
      refine ⟨_, rfl, (fun _ => hS7), ?_⟩
      refine JA_p 9 26 10 rfl rfl rfl rfl (by kernel_rfl) (by kernel_rfl) (fun _ => Q_not rfl rfl) ?_
      refine JA_end (by kernel_rfl) (K_seq ?_)
      refine C_ifN rfl (fun h8 => ?_) (fun h8 => ?_)
      · refine C_seq ?_
        refine C_region ?_
        refine J_q 4 rfl rfl rfl rfl (Q_assign rfl rfl) ?_
        refine J_nil (K_seq ?_)
        refine C_ret (R_blk (R_then (R_then (R_blk (R_then (body_ret (res1 rfl rfl) ?_))))))
        exact ⟨congrArg Ending.returned (eqB (by first | (refine (decide_eq_false fun hab => ?_).symm; subst hab; first | omega | (exfalso; exact absurd rfl (by assumption))) | (exact (decide_eq_true (nth_ext (by omega) (hu.full (by omega)))).symm))), hS7.kept (k := 0) rfl⟩
      · refine C_skip (N_blk (K_seq ?_))
        refine C_region ?_
        refine J_q 15 rfl rfl rfl rfl (Q_move rfl rfl) ?_
        refine J_q 16 rfl rfl rfl rfl (Q_add rfl rfl rfl (by omega) (by omega)) ?_
        refine J_q 5 rfl rfl rfl rfl (Q_assign rfl rfl) ?_
        exact J_nil (K_round1 (x0 := i) (i + 1) ⟨(by first | omega | (exact Up.snoc hu (by assumption))), (by first | omega | (exact Up.snoc hu (by assumption))), (by first | omega | (exact Up.snoc hu (by assumption))), hS7⟩ (by omega) ⟨rfl, rfl, rfl, rfl, rfl, rfl, rfl, rfl, trivial⟩)
    · refine C_exit (X_then (X_then (X_hit (K_seq ?_))))
      refine C_seq ?_
      refine C_region ?_
      refine J_q 4 rfl rfl rfl rfl (Q_assign rfl rfl) ?_
      refine J_nil (K_seq ?_)
      refine C_ret (body_ret (res1 rfl rfl) ?_)
      exact ⟨congrArg Ending.returned (eqB (by first | (refine (decide_eq_false fun hab => ?_).symm; subst hab; first | omega | (exfalso; exact absurd rfl (by assumption))) | (exact (decide_eq_true (nth_ext (by omega) (hu.full (by omega)))).symm))), hS2.kept (k := 0) rfl⟩

theorem deps_calls (w : World) (l_c : List Value) (c : Change) (h_c : tCh.rd w l_c c) (hq : 1 ≤ c.seq) :
    Calls Try.prog 96 #[.agg l_c.toArray] w fun e w' => e = .returned (.int .i64 (deps5 c)) ∧ Kp no w w' := by
  have hS0 := St.start w
  have hF_c := RdF.of_rd h_c
  obtain ⟨A_c, cap_c, rfl, hd_c, ho_c⟩ := openCh hF_c
  have hln_c := RdF.lens hd_c
  have hsq_c := ho_c.seq
  refine fn_calls' 37 (args := [_]) Try.func96 rfl rfl rfl ?_
  refine C_seq ?_
  refine C_region ?_
  refine J_do 1 rfl rfl rfl rfl (D_box 1 hS0 rfl rfl (fun g1 w1 hS1 => ?_))
  refine J_q 2 rfl rfl rfl rfl (Q_assign rfl rfl) ?_
  refine J_nil (K_seq ?_)
  refine C_seq ?_
  refine C_seq ?_
  refine C_region ?_
  refine J_q 5 rfl rfl rfl rfl (Q_fa0 rfl rfl fo55_2) ?_
  refine J_q 6 rfl rfl rfl rfl (Q_ldB1 (k := 1) hS1 rfl rfl rfl Try.isAgg44 rfl) ?_
  refine J_call 7 rfl rfl rfl rfl (T_call rfl rfl rfl Try.call65) (CCheck_calls _ _ c.deps (hS1.rd 0 rfl hd_c)) ?_
  rintro _ w2 ⟨rfl, hk2⟩
  have hS2 := hS1.kp0 hk2
  refine ⟨_, rfl, ?_⟩
  refine J_q 3 rfl rfl rfl rfl (Q_assign rfl rfl) ?_
  refine J_nil (K_seq ?_)
  refine C_seq ?_
  refine C_region ?_
  refine J_q 8 rfl rfl rfl rfl (Q_move rfl rfl) ?_
  refine J_q 9 rfl rfl rfl rfl (Q_neqN rfl rfl rfl) ?_
  refine J_nil (K_seq ?_)
  refine C_ifN rfl (fun h3 => ?_) (fun h3 => ?_)
  · refine C_seq ?_
    refine C_region ?_
    refine J_q 10 rfl rfl rfl rfl (Q_move rfl rfl) ?_
    refine J_q 2 rfl rfl rfl rfl (Q_assign rfl rfl) ?_
    refine J_nil (K_seq ?_)
    refine C_ret (R_then (body_ret (res1 rfl rfl) ?_))
    exact ⟨congrArg Ending.returned (eqI (by first | (exact (deps5_1 (by assumption)).symm) | (exact (deps5_2 (by assumption) (by omega)).symm) | (exact (deps5_0 (by assumption) (by omega) (by omega)).symm))), hS2.kept (k := 0) rfl⟩
  · refine C_skip (K_seq ?_)
    refine C_seq ?_
    refine C_seq ?_
    refine C_region ?_
    refine J_q 11 rfl rfl rfl rfl (Q_fa0 rfl rfl fo55_2) ?_
    refine J_q 12 rfl rfl rfl rfl (Q_ldB1 (k := 1) hS2 rfl rfl rfl Try.isAgg44 rfl) ?_
    refine J_q 13 rfl rfl rfl rfl (Q_len rfl rfl Try.underlying44) ?_
    refine J_q 4 rfl rfl rfl rfl (Q_assign rfl rfl) ?_
    refine J_nil (K_seq ?_)
    refine C_seq ?_
    refine C_draw (fun w' => St w w' [(1, blkL g1 (chL c A_c cap_c) 55), (0, fz w (lt_ w))]) 23 mixedOrders 23 rfl (fun w4 hk4 => ?_)
    have hS4 := hS2.kp0 hk4
    refine JA_p 0 14 23 rfl rfl rfl rfl (by kernel_rfl) (by kernel_rfl) (fun _ => Q_move rfl rfl) ?_
    refine JA_p 1 15 23 rfl rfl rfl rfl (by kernel_rfl) (by kernel_rfl) (fun _ => Q_gtr rfl rfl rfl) ?_
    refine JA_p 2 16 23 rfl rfl rfl rfl (by kernel_rfl) (by kernel_rfl) (fun _ => Q_move rfl rfl) ?_
    refine JA_split 16 rfl (fun h5 => ?_) (fun h5 => ?_)
    · refine JA_p 3 17 23 rfl rfl rfl rfl (by kernel_rfl) (by kernel_rfl) (fun _ => Q_fa0 rfl rfl fo55_2) ?_
      refine JA_q 4 18 rfl rfl rfl rfl (by kernel_rfl) (by kernel_rfl) hS4 (fun _ hI => Q_ldB1 (k := 1) hI rfl rfl rfl Try.isAgg44 rfl) ?_
      refine JA_p 5 19 23 rfl rfl rfl rfl (by kernel_rfl) (by kernel_rfl) (fun _ => Q_move rfl rfl) ?_
      refine JA_p 6 20 23 rfl rfl rfl rfl (by kernel_rfl) (by kernel_rfl) (fun _ => Q_sub rfl rfl rfl (by omega) (by omega)) ?_
      obtain ⟨ad6, es6, hA6, hr6, hc6⟩ := RdF.nth hd_c ((c.deps.length : Int) - 1) (by omega) (by omega)
      obtain ⟨rfl, ho6⟩ := openI hr6
      refine JA_p 7 21 23 rfl rfl rfl rfl (by kernel_rfl) (by kernel_rfl) (fun _ => Q_iaE hA6 rfl rfl rfl Try.underlying44 Try.sizeOf3 (by omega) (by omega)) ?_
      refine JA_q 8 22 rfl rfl rfl rfl (by kernel_rfl) (by kernel_rfl) hS4 (fun _ hI => Q_ldC1' (hc6 _ (hI.get (k := 0) rfl)) rfl rfl Try.isAgg3 rfl) ?_
      refine JA_p 9 23 23 rfl rfl rfl rfl (by kernel_rfl) (by kernel_rfl) (fun _ => Q_eql rfl rfl rfl) ?_
      refine JA_p 10 24 23 rfl rfl rfl rfl (by kernel_rfl) (by kernel_rfl) (fun _ => Q_pickT rfl rfl rfl) ?_
      refine JA_p 11 25 23 rfl rfl rfl rfl (by kernel_rfl) (by kernel_rfl) (fun _ => Q_move rfl rfl) ?_
      refine JA_split 25 rfl (fun h7 => ?_) (fun h7 => ?_)
      · refine JA_no 12 23 rfl rfl rfl (by kernel_rfl) (by kernel_rfl) (fun _ h => by cases h; rfl) ?_
        refine JA_no 13 23 rfl rfl rfl (by kernel_rfl) (by kernel_rfl) (fun _ h => by cases h; rfl) ?_
        refine JA_no 14 23 rfl rfl rfl (by kernel_rfl) (by kernel_rfl) (fun _ h => by cases h; rfl) ?_
        refine JA_no 15 23 rfl rfl rfl (by kernel_rfl) (by kernel_rfl) (fun _ h => by cases h; rfl) ?_
        refine JA_no 16 23 rfl rfl rfl (by kernel_rfl) (by kernel_rfl) (fun _ h => by cases h; rfl) ?_
        refine JA_no 17 23 rfl rfl rfl (by kernel_rfl) (by kernel_rfl) (fun _ h => by cases h; rfl) ?_
        refine JA_no 18 23 rfl rfl rfl (by kernel_rfl) (by kernel_rfl) (fun _ h => by cases h; rfl) ?_
        refine JA_no 19 23 rfl rfl rfl (by kernel_rfl) (by kernel_rfl) (fun _ h => by cases h; rfl) ?_
        refine JA_no 20 23 rfl rfl rfl (by kernel_rfl) (by kernel_rfl) (fun _ h => by cases h; rfl) ?_
        refine JA_no 21 23 rfl rfl rfl (by kernel_rfl) (by kernel_rfl) (fun _ h => by cases h; rfl) ?_
        refine JA_p 22 36 23 rfl rfl rfl rfl (by kernel_rfl) (by kernel_rfl) (fun _ => Q_pickT rfl rfl rfl) ?_
        refine JA_end (by kernel_rfl) (K_seq ?_)
        refine C_true rfl ?_
        refine C_seq ?_
        refine C_region ?_
        refine J_q 2 rfl rfl rfl rfl (Q_assign rfl rfl) ?_
        refine J_nil (K_seq ?_)
        refine C_ret (R_then (body_ret (res1 rfl rfl) ?_))
        exact ⟨congrArg Ending.returned (eqI (by first | (exact (deps5_1 (by assumption)).symm) | (exact (deps5_2 (by assumption) (by omega)).symm) | (exact (deps5_0 (by assumption) (by omega) (by omega)).symm))), hS4.kept (k := 0) rfl⟩
      · refine JA_p 12 26 23 rfl rfl rfl rfl (by kernel_rfl) (by kernel_rfl) (fun _ => Q_fa0 rfl rfl fo55_2) ?_
        refine JA_q 13 27 rfl rfl rfl rfl (by kernel_rfl) (by kernel_rfl) hS4 (fun _ hI => Q_ldB1 (k := 1) hI rfl rfl rfl Try.isAgg44 rfl) ?_
        refine JA_p 14 28 23 rfl rfl rfl rfl (by kernel_rfl) (by kernel_rfl) (fun _ => Q_fa0 rfl rfl fo55_0) ?_
        refine JA_p 15 29 23 rfl rfl rfl rfl (by kernel_rfl) (by kernel_rfl) (fun _ => Q_fa rfl rfl fo23_1 rfl) ?_
        refine JA_q 16 30 rfl rfl rfl rfl (by kernel_rfl) (by kernel_rfl) hS4 (fun _ hI => Q_ldB1 (k := 1) hI rfl rfl rfl Try.isAgg3 rfl) ?_
        refine JA_p 18 32 23 rfl rfl rfl rfl (by kernel_rfl) (by kernel_rfl) (fun _ => Q_fa0 rfl rfl fo55_1) ?_
        refine JA_q 19 33 rfl rfl rfl rfl (by kernel_rfl) (by kernel_rfl) hS4 (fun _ hI => Q_ldB1 (k := 1) hI rfl rfl rfl Try.isAgg3 rfl) ?_
        refine JA_p 20 34 23 rfl rfl rfl rfl (by kernel_rfl) (by kernel_rfl) (fun _ => Q_sub rfl rfl rfl (by omega) (by omega)) ?_
        refine JA_call 17 31 rfl rfl rfl rfl (by kernel_rfl) (T_call rfl rfl rfl Try.call66) (At_calls _ _ c.deps (hS4.rd 0 rfl hd_c) c.at_.r) ?_
        rintro _ w8 ⟨rfl, hk8⟩
        have hS8 := hS4.kp0 hk8
        refine ⟨_, rfl, (fun _ => hS8), ?_⟩
        refine JA_p 21 35 23 rfl rfl rfl rfl (by kernel_rfl) (by kernel_rfl) (fun _ => Q_neqN rfl rfl rfl) ?_
        refine JA_p 22 36 23 rfl rfl rfl rfl (by kernel_rfl) (by kernel_rfl) (fun _ => Q_pickF rfl rfl rfl) ?_
        refine JA_end (by kernel_rfl) (K_seq ?_)
        refine C_ifN rfl (fun h9 => ?_) (fun h9 => ?_)
        · refine C_seq ?_
          refine C_region ?_
          refine J_q 2 rfl rfl rfl rfl (Q_assign rfl rfl) ?_
          refine J_nil (K_seq ?_)
          refine C_ret (R_then (body_ret (res1 rfl rfl) ?_))
          exact ⟨congrArg Ending.returned (eqI (by first | (exact (deps5_1 (by assumption)).symm) | (exact (deps5_2 (by assumption) (by omega)).symm) | (exact (deps5_0 (by assumption) (by omega) (by omega)).symm))), hS8.kept (k := 0) rfl⟩
        · refine C_skip (K_seq ?_)
          refine C_seq ?_
          refine C_region ?_
          refine J_q 2 rfl rfl rfl rfl (Q_assign rfl rfl) ?_
          refine J_nil (K_seq ?_)
          refine C_ret (body_ret (res1 rfl rfl) ?_)
          exact ⟨congrArg Ending.returned (eqI (by first | (exact (deps5_1 (by assumption)).symm) | (exact (deps5_2 (by assumption) (by omega)).symm) | (exact (deps5_0 (by assumption) (by omega) (by omega)).symm))), hS8.kept (k := 0) rfl⟩
    · refine JA_no 3 23 rfl rfl rfl (by kernel_rfl) (by kernel_rfl) (fun _ h => by cases h; rfl) ?_
      refine JA_no 4 23 rfl rfl rfl (by kernel_rfl) (by kernel_rfl) (fun _ h => by cases h; rfl) ?_
      refine JA_no 5 23 rfl rfl rfl (by kernel_rfl) (by kernel_rfl) (fun _ h => by cases h; rfl) ?_
      refine JA_no 6 23 rfl rfl rfl (by kernel_rfl) (by kernel_rfl) (fun _ h => by cases h; rfl) ?_
      refine JA_no 7 23 rfl rfl rfl (by kernel_rfl) (by kernel_rfl) (fun _ h => by cases h; rfl) ?_
      refine JA_no 8 23 rfl rfl rfl (by kernel_rfl) (by kernel_rfl) (fun _ h => by cases h; rfl) ?_
      refine JA_no 9 23 rfl rfl rfl (by kernel_rfl) (by kernel_rfl) (fun _ h => by cases h; rfl) ?_
      refine JA_p 10 24 23 rfl rfl rfl rfl (by kernel_rfl) (by kernel_rfl) (fun _ => Q_pickF rfl rfl rfl) ?_
      refine JA_p 11 25 23 rfl rfl rfl rfl (by kernel_rfl) (by kernel_rfl) (fun _ => Q_move rfl rfl) ?_
      refine JA_p 12 26 23 rfl rfl rfl rfl (by kernel_rfl) (by kernel_rfl) (fun _ => Q_fa0 rfl rfl fo55_2) ?_
      refine JA_q 13 27 rfl rfl rfl rfl (by kernel_rfl) (by kernel_rfl) hS4 (fun _ hI => Q_ldB1 (k := 1) hI rfl rfl rfl Try.isAgg44 rfl) ?_
      refine JA_p 14 28 23 rfl rfl rfl rfl (by kernel_rfl) (by kernel_rfl) (fun _ => Q_fa0 rfl rfl fo55_0) ?_
      refine JA_p 15 29 23 rfl rfl rfl rfl (by kernel_rfl) (by kernel_rfl) (fun _ => Q_fa rfl rfl fo23_1 rfl) ?_
      refine JA_q 16 30 rfl rfl rfl rfl (by kernel_rfl) (by kernel_rfl) hS4 (fun _ hI => Q_ldB1 (k := 1) hI rfl rfl rfl Try.isAgg3 rfl) ?_
      refine JA_p 18 32 23 rfl rfl rfl rfl (by kernel_rfl) (by kernel_rfl) (fun _ => Q_fa0 rfl rfl fo55_1) ?_
      refine JA_q 19 33 rfl rfl rfl rfl (by kernel_rfl) (by kernel_rfl) hS4 (fun _ hI => Q_ldB1 (k := 1) hI rfl rfl rfl Try.isAgg3 rfl) ?_
      refine JA_p 20 34 23 rfl rfl rfl rfl (by kernel_rfl) (by kernel_rfl) (fun _ => Q_sub rfl rfl rfl (by omega) (by omega)) ?_
      refine JA_call 17 31 rfl rfl rfl rfl (by kernel_rfl) (T_call rfl rfl rfl Try.call66) (At_calls _ _ c.deps (hS4.rd 0 rfl hd_c) c.at_.r) ?_
      rintro _ w10 ⟨rfl, hk10⟩
      have hS10 := hS4.kp0 hk10
      refine ⟨_, rfl, (fun _ => hS10), ?_⟩
      refine JA_p 21 35 23 rfl rfl rfl rfl (by kernel_rfl) (by kernel_rfl) (fun _ => Q_neqN rfl rfl rfl) ?_
      refine JA_p 22 36 23 rfl rfl rfl rfl (by kernel_rfl) (by kernel_rfl) (fun _ => Q_pickF rfl rfl rfl) ?_
      refine JA_end (by kernel_rfl) (K_seq ?_)
      refine C_ifN rfl (fun h11 => ?_) (fun h11 => ?_)
      · refine C_seq ?_
        refine C_region ?_
        refine J_q 2 rfl rfl rfl rfl (Q_assign rfl rfl) ?_
        refine J_nil (K_seq ?_)
        refine C_ret (R_then (body_ret (res1 rfl rfl) ?_))
        exact ⟨congrArg Ending.returned (eqI (by first | (exact (deps5_1 (by assumption)).symm) | (exact (deps5_2 (by assumption) (by omega)).symm) | (exact (deps5_0 (by assumption) (by omega) (by omega)).symm))), hS10.kept (k := 0) rfl⟩
      · refine C_skip (K_seq ?_)
        refine C_seq ?_
        refine C_region ?_
        refine J_q 2 rfl rfl rfl rfl (Q_assign rfl rfl) ?_
        refine J_nil (K_seq ?_)
        refine C_ret (body_ret (res1 rfl rfl) ?_)
        exact ⟨congrArg Ending.returned (eqI (by first | (exact (deps5_1 (by assumption)).symm) | (exact (deps5_2 (by assumption) (by omega)).symm) | (exact (deps5_0 (by assumption) (by omega) (by omega)).symm))), hS10.kept (k := 0) rfl⟩

theorem words_calls (w : World) (l_c : List Value) (c : Change) (h_c : tCh.rd w l_c c) :
    Calls Try.prog 99 #[.agg l_c.toArray] w fun e w' => e = .returned (.int .i64 (words5 c)) ∧ Kp no w w' := by
  have hS0 := St.start w
  have hF_c := RdF.of_rd h_c
  obtain ⟨A_c, cap_c, rfl, hd_c, ho_c⟩ := openCh hF_c
  have hln_c := RdF.lens hd_c
  have hsq_c := ho_c.seq
  refine fn_calls' 42 (args := [_]) Try.func99 rfl rfl rfl ?_
  refine C_seq ?_
  refine C_region ?_
  refine J_do 1 rfl rfl rfl rfl (D_box 1 hS0 rfl rfl (fun g1 w1 hS1 => ?_))
  refine J_q 2 rfl rfl rfl rfl (Q_assign rfl rfl) ?_
  refine J_nil (K_seq ?_)
  refine C_seq ?_
  refine C_region ?_
  refine J_q 3 rfl rfl rfl rfl (Q_assign rfl rfl) ?_
  refine J_q 4 rfl rfl rfl rfl (Q_assign rfl rfl) ?_
  refine J_nil (K_seq ?_)
  refine C_seq ?_
  refine C_seq ?_
  refine C_region ?_
  refine J_q 5 rfl rfl rfl rfl (Q_fa0 rfl rfl fo55_3) ?_
  refine J_q 6 rfl rfl rfl rfl (Q_ldB1 (k := 1) hS1 rfl rfl rfl Try.isAgg3 rfl) ?_
  refine J_nil (K_seq ?_)
  refine C_block ?_
  refine C_seq ?_
  refine C_block ?_
  refine C_seq ?_
  refine C_block ?_
  refine C_seq ?_
  refine C_block ?_
  refine C_seq ?_
  refine C_seq ?_
  refine C_seq ?_
  refine C_region ?_
  refine J_q 8 rfl rfl rfl rfl (Q_eql rfl rfl rfl) ?_
  refine J_q 7 rfl rfl rfl rfl (Q_assign rfl rfl) ?_
  refine J_nil (K_seq ?_)
  refine C_if rfl (fun h2 => ?_) (fun h2 => ?_)
  · refine C_exit (X_then (X_then (X_hit (K_seq ?_))))
    refine C_region ?_
    refine J_q 4 rfl rfl rfl rfl (Q_assign rfl rfl) ?_
    refine J_nil (N_blk (K_seq ?_))
    refine C_seq ?_
    refine C_region ?_
    refine J_q 3 rfl rfl rfl rfl (Q_assign rfl rfl) ?_
    refine J_nil (K_seq ?_)
    refine C_exit (X_miss rfl (X_then (X_hit (K_seq ?_))))
    refine C_seq ?_
    refine C_block ?_
    refine C_seq ?_
    refine C_seq ?_
    refine C_region ?_
    refine J_q 15 rfl rfl rfl rfl (Q_move rfl rfl) ?_
    refine J_q 16 rfl rfl rfl rfl (Q_move rfl rfl) ?_
    refine J_q 17 rfl rfl rfl rfl (Q_fa0 rfl rfl fo55_7) ?_
    refine J_q 18 rfl rfl rfl rfl (Q_ldB1 (k := 1) hS1 rfl rfl rfl Try.isAgg9 rfl) ?_
    refine J_call 19 rfl rfl rfl rfl (T_call rfl rfl rfl Try.call123) (Name_calls _ c.name ho_c.name) ?_
    rintro _ w3 ⟨rfl, hk3⟩
    have hS3 := hS1.kp0 hk3
    refine ⟨_, rfl, ?_⟩
    refine J_q 20 rfl rfl rfl rfl (Q_not rfl rfl) ?_
    refine J_q 21 rfl rfl rfl rfl (Q_pickT rfl rfl rfl) ?_
    refine J_q 14 rfl rfl rfl rfl (Q_assign rfl rfl) ?_
    refine J_nil (K_seq ?_)
    refine C_ifN rfl (fun h4 => ?_) (fun h4 => ?_)
    · refine C_skip (K_seq ?_)
      refine C_ifNT rfl h4 ?_
      refine C_seq ?_
      refine C_region ?_
      refine J_q 2 rfl rfl rfl rfl (Q_assign rfl rfl) ?_
      refine J_nil (K_seq ?_)
      refine C_ret (R_blk (R_then (body_ret (res1 rfl rfl) ?_)))
      exact ⟨congrArg Ending.returned (eqI (by simp only [words5, named, valued]; grind)), hS3.kept (k := 0) rfl⟩
    · refine C_region ?_
      refine J_q 22 rfl rfl rfl rfl (Q_move rfl rfl) ?_
      refine J_q 23 rfl rfl rfl rfl (Q_not rfl rfl) ?_
      refine J_q 24 rfl rfl rfl rfl (Q_move rfl rfl) ?_
      refine J_no rfl rfl rfl ?_
      refine J_no rfl rfl rfl ?_
      refine J_no rfl rfl rfl ?_
      refine J_q 28 rfl rfl rfl rfl (Q_pickF rfl rfl rfl) ?_
      refine J_q 14 rfl rfl rfl rfl (Q_assign rfl rfl) ?_
      refine J_nil (K_seq ?_)
      refine C_false rfl ?_
      refine C_seq ?_
      refine C_region ?_
      refine J_q 30 rfl rfl rfl rfl (Q_fa0 rfl rfl fo55_8) ?_
      refine J_q 31 rfl rfl rfl rfl (Q_ldB1 (k := 1) hS3 rfl rfl rfl Try.isAgg9 rfl) ?_
      refine J_q 32 rfl rfl rfl rfl (Q_lenS rfl rfl Try.underlying9) ?_
      refine J_q 33 rfl rfl rfl rfl (Q_gtr rfl rfl rfl) ?_
      refine J_q 29 rfl rfl rfl rfl (Q_assign rfl rfl) ?_
      refine J_nil (K_seq ?_)
      refine C_if rfl (fun h5 => ?_) (fun h5 => ?_)
      · refine C_seq ?_
        refine C_region ?_
        refine J_q 2 rfl rfl rfl rfl (Q_assign rfl rfl) ?_
        refine J_nil (K_seq ?_)
        refine C_ret (R_blk (R_then (body_ret (res1 rfl rfl) ?_)))
        exact ⟨congrArg Ending.returned (eqI (by simp only [words5, named, valued]; grind)), hS3.kept (k := 0) rfl⟩
      · refine C_seq ?_
        refine C_region ?_
        refine J_q 35 rfl rfl rfl rfl (Q_move rfl rfl) ?_
        refine J_q 36 rfl rfl rfl rfl (Q_not rfl rfl) ?_
        refine J_q 37 rfl rfl rfl rfl (Q_move rfl rfl) ?_
        refine J_no rfl rfl rfl ?_
        refine J_no rfl rfl rfl ?_
        refine J_no rfl rfl rfl ?_
        refine J_q 41 rfl rfl rfl rfl (Q_pickF rfl rfl rfl) ?_
        refine J_q 34 rfl rfl rfl rfl (Q_assign rfl rfl) ?_
        refine J_nil (K_seq ?_)
        refine C_false rfl ?_
        refine C_skip (N_blk (K_seq ?_))
        refine C_seq ?_
        refine C_region ?_
        refine J_q 2 rfl rfl rfl rfl (Q_assign rfl rfl) ?_
        refine J_nil (K_seq ?_)
        refine C_ret (body_ret (res1 rfl rfl) ?_)
        exact ⟨congrArg Ending.returned (eqI (by simp only [words5, named, valued]; grind)), hS3.kept (k := 0) rfl⟩
  · refine C_skip (K_seq ?_)
    refine C_seq ?_
    refine C_seq ?_
    refine C_seq ?_
    refine C_region ?_
    refine J_q 10 rfl rfl rfl rfl (Q_eql rfl rfl rfl) ?_
    refine J_q 9 rfl rfl rfl rfl (Q_assign rfl rfl) ?_
    refine J_nil (K_seq ?_)
    refine C_if rfl (fun h6 => ?_) (fun h6 => ?_)
    · refine C_skip (K_seq ?_)
      refine C_ifT rfl h6 ?_
      refine C_exit (X_then (X_then (X_miss rfl (X_then (X_hit (K_seq ?_))))))
      refine C_seq ?_
      refine C_region ?_
      refine J_q 3 rfl rfl rfl rfl (Q_assign rfl rfl) ?_
      refine J_nil (K_seq ?_)
      refine C_exit (X_miss rfl (X_then (X_hit (K_seq ?_))))
      refine C_seq ?_
      refine C_block ?_
      refine C_seq ?_
      refine C_seq ?_
      refine C_region ?_
      refine J_q 15 rfl rfl rfl rfl (Q_move rfl rfl) ?_
      refine J_q 16 rfl rfl rfl rfl (Q_move rfl rfl) ?_
      refine J_q 17 rfl rfl rfl rfl (Q_fa0 rfl rfl fo55_7) ?_
      refine J_q 18 rfl rfl rfl rfl (Q_ldB1 (k := 1) hS1 rfl rfl rfl Try.isAgg9 rfl) ?_
      refine J_call 19 rfl rfl rfl rfl (T_call rfl rfl rfl Try.call123) (Name_calls _ c.name ho_c.name) ?_
      rintro _ w7 ⟨rfl, hk7⟩
      have hS7 := hS1.kp0 hk7
      refine ⟨_, rfl, ?_⟩
      refine J_q 20 rfl rfl rfl rfl (Q_not rfl rfl) ?_
      refine J_q 21 rfl rfl rfl rfl (Q_pickT rfl rfl rfl) ?_
      refine J_q 14 rfl rfl rfl rfl (Q_assign rfl rfl) ?_
      refine J_nil (K_seq ?_)
      refine C_ifN rfl (fun h8 => ?_) (fun h8 => ?_)
      · refine C_skip (K_seq ?_)
        refine C_ifNT rfl h8 ?_
        refine C_seq ?_
        refine C_region ?_
        refine J_q 2 rfl rfl rfl rfl (Q_assign rfl rfl) ?_
        refine J_nil (K_seq ?_)
        refine C_ret (R_blk (R_then (body_ret (res1 rfl rfl) ?_)))
        exact ⟨congrArg Ending.returned (eqI (by simp only [words5, named, valued]; grind)), hS7.kept (k := 0) rfl⟩
      · refine C_region ?_
        refine J_q 22 rfl rfl rfl rfl (Q_move rfl rfl) ?_
        refine J_q 23 rfl rfl rfl rfl (Q_not rfl rfl) ?_
        refine J_q 24 rfl rfl rfl rfl (Q_move rfl rfl) ?_
        refine J_no rfl rfl rfl ?_
        refine J_no rfl rfl rfl ?_
        refine J_no rfl rfl rfl ?_
        refine J_q 28 rfl rfl rfl rfl (Q_pickF rfl rfl rfl) ?_
        refine J_q 14 rfl rfl rfl rfl (Q_assign rfl rfl) ?_
        refine J_nil (K_seq ?_)
        refine C_false rfl ?_
        refine C_seq ?_
        refine C_region ?_
        refine J_q 30 rfl rfl rfl rfl (Q_fa0 rfl rfl fo55_8) ?_
        refine J_q 31 rfl rfl rfl rfl (Q_ldB1 (k := 1) hS7 rfl rfl rfl Try.isAgg9 rfl) ?_
        refine J_q 32 rfl rfl rfl rfl (Q_lenS rfl rfl Try.underlying9) ?_
        refine J_q 33 rfl rfl rfl rfl (Q_gtr rfl rfl rfl) ?_
        refine J_q 29 rfl rfl rfl rfl (Q_assign rfl rfl) ?_
        refine J_nil (K_seq ?_)
        refine C_if rfl (fun h9 => ?_) (fun h9 => ?_)
        · refine C_seq ?_
          refine C_region ?_
          refine J_q 2 rfl rfl rfl rfl (Q_assign rfl rfl) ?_
          refine J_nil (K_seq ?_)
          refine C_ret (R_blk (R_then (body_ret (res1 rfl rfl) ?_)))
          exact ⟨congrArg Ending.returned (eqI (by simp only [words5, named, valued]; grind)), hS7.kept (k := 0) rfl⟩
        · refine C_seq ?_
          refine C_region ?_
          refine J_q 35 rfl rfl rfl rfl (Q_move rfl rfl) ?_
          refine J_q 36 rfl rfl rfl rfl (Q_not rfl rfl) ?_
          refine J_q 37 rfl rfl rfl rfl (Q_move rfl rfl) ?_
          refine J_q 38 rfl rfl rfl rfl (Q_fa0 rfl rfl fo55_8) ?_
          refine J_q 39 rfl rfl rfl rfl (Q_ldB1 (k := 1) hS7 rfl rfl rfl Try.isAgg9 rfl) ?_
          refine J_q 40 rfl rfl rfl rfl (Q_neqSN rfl rfl rfl) ?_
          refine J_q 41 rfl rfl rfl rfl (Q_pickT rfl rfl rfl) ?_
          refine J_q 34 rfl rfl rfl rfl (Q_assign rfl rfl) ?_
          refine J_nil (K_seq ?_)
          refine C_ifN rfl (fun h10 => ?_) (fun h10 => ?_)
          · refine C_seq ?_
            refine C_region ?_
            refine J_q 2 rfl rfl rfl rfl (Q_assign rfl rfl) ?_
            refine J_nil (K_seq ?_)
            refine C_ret (R_blk (R_then (body_ret (res1 rfl rfl) ?_)))
            exact ⟨congrArg Ending.returned (eqI (by simp only [words5, named, valued]; grind)), hS7.kept (k := 0) rfl⟩
          · refine C_skip (N_blk (K_seq ?_))
            refine C_seq ?_
            refine C_region ?_
            refine J_q 2 rfl rfl rfl rfl (Q_assign rfl rfl) ?_
            refine J_nil (K_seq ?_)
            refine C_ret (body_ret (res1 rfl rfl) ?_)
            exact ⟨congrArg Ending.returned (eqI (by simp only [words5, named, valued]; grind)), hS7.kept (k := 0) rfl⟩
    · refine C_region ?_
      refine J_q 11 rfl rfl rfl rfl (Q_eql rfl rfl rfl) ?_
      refine J_q 9 rfl rfl rfl rfl (Q_assign rfl rfl) ?_
      refine J_nil (K_seq ?_)
      refine C_if rfl (fun h11 => ?_) (fun h11 => ?_)
      · refine C_exit (X_then (X_then (X_miss rfl (X_then (X_hit (K_seq ?_))))))
        refine C_seq ?_
        refine C_region ?_
        refine J_q 3 rfl rfl rfl rfl (Q_assign rfl rfl) ?_
        refine J_nil (K_seq ?_)
        refine C_exit (X_miss rfl (X_then (X_hit (K_seq ?_))))
        refine C_seq ?_
        refine C_block ?_
        refine C_seq ?_
        refine C_seq ?_
        refine C_region ?_
        refine J_q 15 rfl rfl rfl rfl (Q_move rfl rfl) ?_
        refine J_q 16 rfl rfl rfl rfl (Q_move rfl rfl) ?_
        refine J_q 17 rfl rfl rfl rfl (Q_fa0 rfl rfl fo55_7) ?_
        refine J_q 18 rfl rfl rfl rfl (Q_ldB1 (k := 1) hS1 rfl rfl rfl Try.isAgg9 rfl) ?_
        refine J_call 19 rfl rfl rfl rfl (T_call rfl rfl rfl Try.call123) (Name_calls _ c.name ho_c.name) ?_
        rintro _ w12 ⟨rfl, hk12⟩
        have hS12 := hS1.kp0 hk12
        refine ⟨_, rfl, ?_⟩
        refine J_q 20 rfl rfl rfl rfl (Q_not rfl rfl) ?_
        refine J_q 21 rfl rfl rfl rfl (Q_pickT rfl rfl rfl) ?_
        refine J_q 14 rfl rfl rfl rfl (Q_assign rfl rfl) ?_
        refine J_nil (K_seq ?_)
        refine C_ifN rfl (fun h13 => ?_) (fun h13 => ?_)
        · refine C_skip (K_seq ?_)
          refine C_ifNT rfl h13 ?_
          refine C_seq ?_
          refine C_region ?_
          refine J_q 2 rfl rfl rfl rfl (Q_assign rfl rfl) ?_
          refine J_nil (K_seq ?_)
          refine C_ret (R_blk (R_then (body_ret (res1 rfl rfl) ?_)))
          exact ⟨congrArg Ending.returned (eqI (by simp only [words5, named, valued]; grind)), hS12.kept (k := 0) rfl⟩
        · refine C_region ?_
          refine J_q 22 rfl rfl rfl rfl (Q_move rfl rfl) ?_
          refine J_q 23 rfl rfl rfl rfl (Q_not rfl rfl) ?_
          refine J_q 24 rfl rfl rfl rfl (Q_move rfl rfl) ?_
          refine J_no rfl rfl rfl ?_
          refine J_no rfl rfl rfl ?_
          refine J_no rfl rfl rfl ?_
          refine J_q 28 rfl rfl rfl rfl (Q_pickF rfl rfl rfl) ?_
          refine J_q 14 rfl rfl rfl rfl (Q_assign rfl rfl) ?_
          refine J_nil (K_seq ?_)
          refine C_false rfl ?_
          refine C_seq ?_
          refine C_region ?_
          refine J_q 30 rfl rfl rfl rfl (Q_fa0 rfl rfl fo55_8) ?_
          refine J_q 31 rfl rfl rfl rfl (Q_ldB1 (k := 1) hS12 rfl rfl rfl Try.isAgg9 rfl) ?_
          refine J_q 32 rfl rfl rfl rfl (Q_lenS rfl rfl Try.underlying9) ?_
          refine J_q 33 rfl rfl rfl rfl (Q_gtr rfl rfl rfl) ?_
          refine J_q 29 rfl rfl rfl rfl (Q_assign rfl rfl) ?_
          refine J_nil (K_seq ?_)
          refine C_if rfl (fun h14 => ?_) (fun h14 => ?_)
          · refine C_seq ?_
            refine C_region ?_
            refine J_q 2 rfl rfl rfl rfl (Q_assign rfl rfl) ?_
            refine J_nil (K_seq ?_)
            refine C_ret (R_blk (R_then (body_ret (res1 rfl rfl) ?_)))
            exact ⟨congrArg Ending.returned (eqI (by simp only [words5, named, valued]; grind)), hS12.kept (k := 0) rfl⟩
          · refine C_seq ?_
            refine C_region ?_
            refine J_q 35 rfl rfl rfl rfl (Q_move rfl rfl) ?_
            refine J_q 36 rfl rfl rfl rfl (Q_not rfl rfl) ?_
            refine J_q 37 rfl rfl rfl rfl (Q_move rfl rfl) ?_
            refine J_q 38 rfl rfl rfl rfl (Q_fa0 rfl rfl fo55_8) ?_
            refine J_q 39 rfl rfl rfl rfl (Q_ldB1 (k := 1) hS12 rfl rfl rfl Try.isAgg9 rfl) ?_
            refine J_q 40 rfl rfl rfl rfl (Q_neqSN rfl rfl rfl) ?_
            refine J_q 41 rfl rfl rfl rfl (Q_pickT rfl rfl rfl) ?_
            refine J_q 34 rfl rfl rfl rfl (Q_assign rfl rfl) ?_
            refine J_nil (K_seq ?_)
            refine C_ifN rfl (fun h15 => ?_) (fun h15 => ?_)
            · refine C_seq ?_
              refine C_region ?_
              refine J_q 2 rfl rfl rfl rfl (Q_assign rfl rfl) ?_
              refine J_nil (K_seq ?_)
              refine C_ret (R_blk (R_then (body_ret (res1 rfl rfl) ?_)))
              exact ⟨congrArg Ending.returned (eqI (by simp only [words5, named, valued]; grind)), hS12.kept (k := 0) rfl⟩
            · refine C_skip (N_blk (K_seq ?_))
              refine C_seq ?_
              refine C_region ?_
              refine J_q 2 rfl rfl rfl rfl (Q_assign rfl rfl) ?_
              refine J_nil (K_seq ?_)
              refine C_ret (body_ret (res1 rfl rfl) ?_)
              exact ⟨congrArg Ending.returned (eqI (by simp only [words5, named, valued]; grind)), hS12.kept (k := 0) rfl⟩
      · refine C_skip (K_seq ?_)
        refine C_seq ?_
        refine C_region ?_
        refine J_q 13 rfl rfl rfl rfl (Q_eql rfl rfl rfl) ?_
        refine J_q 12 rfl rfl rfl rfl (Q_assign rfl rfl) ?_
        refine J_nil (K_seq ?_)
        refine C_if rfl (fun h16 => ?_) (fun h16 => ?_)
        · refine C_exit (X_then (X_miss rfl (X_then (X_miss rfl (X_then (X_hit (K_seq ?_)))))))
          refine C_seq ?_
          refine C_region ?_
          refine J_q 4 rfl rfl rfl rfl (Q_assign rfl rfl) ?_
          refine J_nil (K_seq ?_)
          refine C_exit (X_hit (K_seq ?_))
          refine C_seq ?_
          refine C_block ?_
          refine C_seq ?_
          refine C_seq ?_
          refine C_region ?_
          refine J_q 15 rfl rfl rfl rfl (Q_move rfl rfl) ?_
          refine J_q 16 rfl rfl rfl rfl (Q_move rfl rfl) ?_
          refine J_no rfl rfl rfl ?_
          refine J_no rfl rfl rfl ?_
          refine J_no rfl rfl rfl ?_
          refine J_no rfl rfl rfl ?_
          refine J_q 21 rfl rfl rfl rfl (Q_pickF rfl rfl rfl) ?_
          refine J_q 14 rfl rfl rfl rfl (Q_assign rfl rfl) ?_
          refine J_nil (K_seq ?_)
          refine C_false rfl ?_
          refine C_region ?_
          refine J_q 22 rfl rfl rfl rfl (Q_move rfl rfl) ?_
          refine J_q 23 rfl rfl rfl rfl (Q_not rfl rfl) ?_
          refine J_q 24 rfl rfl rfl rfl (Q_move rfl rfl) ?_
          refine J_q 25 rfl rfl rfl rfl (Q_fa0 rfl rfl fo55_7) ?_
          refine J_q 26 rfl rfl rfl rfl (Q_ldB1 (k := 1) hS1 rfl rfl rfl Try.isAgg9 rfl) ?_
          refine J_q 27 rfl rfl rfl rfl (Q_neqSN rfl rfl rfl) ?_
          refine J_q 28 rfl rfl rfl rfl (Q_pickT rfl rfl rfl) ?_
          refine J_q 14 rfl rfl rfl rfl (Q_assign rfl rfl) ?_
          refine J_nil (K_seq ?_)
          refine C_ifN rfl (fun h17 => ?_) (fun h17 => ?_)
          · refine C_seq ?_
            refine C_region ?_
            refine J_q 2 rfl rfl rfl rfl (Q_assign rfl rfl) ?_
            refine J_nil (K_seq ?_)
            refine C_ret (R_blk (R_then (body_ret (res1 rfl rfl) ?_)))
            exact ⟨congrArg Ending.returned (eqI (by simp only [words5, named, valued]; grind)), hS1.kept (k := 0) rfl⟩
          · refine C_seq ?_
            refine C_region ?_
            refine J_q 30 rfl rfl rfl rfl (Q_fa0 rfl rfl fo55_8) ?_
            refine J_q 31 rfl rfl rfl rfl (Q_ldB1 (k := 1) hS1 rfl rfl rfl Try.isAgg9 rfl) ?_
            refine J_q 32 rfl rfl rfl rfl (Q_lenS rfl rfl Try.underlying9) ?_
            refine J_q 33 rfl rfl rfl rfl (Q_gtr rfl rfl rfl) ?_
            refine J_q 29 rfl rfl rfl rfl (Q_assign rfl rfl) ?_
            refine J_nil (K_seq ?_)
            refine C_if rfl (fun h18 => ?_) (fun h18 => ?_)
            · refine C_seq ?_
              refine C_region ?_
              refine J_q 2 rfl rfl rfl rfl (Q_assign rfl rfl) ?_
              refine J_nil (K_seq ?_)
              refine C_ret (R_blk (R_then (body_ret (res1 rfl rfl) ?_)))
              exact ⟨congrArg Ending.returned (eqI (by simp only [words5, named, valued]; grind)), hS1.kept (k := 0) rfl⟩
            · refine C_seq ?_
              refine C_region ?_
              refine J_q 35 rfl rfl rfl rfl (Q_move rfl rfl) ?_
              refine J_q 36 rfl rfl rfl rfl (Q_not rfl rfl) ?_
              refine J_q 37 rfl rfl rfl rfl (Q_move rfl rfl) ?_
              refine J_no rfl rfl rfl ?_
              refine J_no rfl rfl rfl ?_
              refine J_no rfl rfl rfl ?_
              refine J_q 41 rfl rfl rfl rfl (Q_pickF rfl rfl rfl) ?_
              refine J_q 34 rfl rfl rfl rfl (Q_assign rfl rfl) ?_
              refine J_nil (K_seq ?_)
              refine C_false rfl ?_
              refine C_skip (N_blk (K_seq ?_))
              refine C_seq ?_
              refine C_region ?_
              refine J_q 2 rfl rfl rfl rfl (Q_assign rfl rfl) ?_
              refine J_nil (K_seq ?_)
              refine C_ret (body_ret (res1 rfl rfl) ?_)
              exact ⟨congrArg Ending.returned (eqI (by simp only [words5, named, valued]; grind)), hS1.kept (k := 0) rfl⟩
        · refine C_skip (K_seq ?_)
          refine C_exit (X_miss rfl (X_then (X_miss rfl (X_then (X_miss rfl (X_then (X_hit (K_seq ?_))))))))
          refine C_seq ?_
          refine C_block ?_
          refine C_seq ?_
          refine C_seq ?_
          refine C_region ?_
          refine J_q 15 rfl rfl rfl rfl (Q_move rfl rfl) ?_
          refine J_q 16 rfl rfl rfl rfl (Q_move rfl rfl) ?_
          refine J_no rfl rfl rfl ?_
          refine J_no rfl rfl rfl ?_
          refine J_no rfl rfl rfl ?_
          refine J_no rfl rfl rfl ?_
          refine J_q 21 rfl rfl rfl rfl (Q_pickF rfl rfl rfl) ?_
          refine J_q 14 rfl rfl rfl rfl (Q_assign rfl rfl) ?_
          refine J_nil (K_seq ?_)
          refine C_false rfl ?_
          refine C_region ?_
          refine J_q 22 rfl rfl rfl rfl (Q_move rfl rfl) ?_
          refine J_q 23 rfl rfl rfl rfl (Q_not rfl rfl) ?_
          refine J_q 24 rfl rfl rfl rfl (Q_move rfl rfl) ?_
          refine J_q 25 rfl rfl rfl rfl (Q_fa0 rfl rfl fo55_7) ?_
          refine J_q 26 rfl rfl rfl rfl (Q_ldB1 (k := 1) hS1 rfl rfl rfl Try.isAgg9 rfl) ?_
          refine J_q 27 rfl rfl rfl rfl (Q_neqSN rfl rfl rfl) ?_
          refine J_q 28 rfl rfl rfl rfl (Q_pickT rfl rfl rfl) ?_
          refine J_q 14 rfl rfl rfl rfl (Q_assign rfl rfl) ?_
          refine J_nil (K_seq ?_)
          refine C_ifN rfl (fun h19 => ?_) (fun h19 => ?_)
          · refine C_seq ?_
            refine C_region ?_
            refine J_q 2 rfl rfl rfl rfl (Q_assign rfl rfl) ?_
            refine J_nil (K_seq ?_)
            refine C_ret (R_blk (R_then (body_ret (res1 rfl rfl) ?_)))
            exact ⟨congrArg Ending.returned (eqI (by simp only [words5, named, valued]; grind)), hS1.kept (k := 0) rfl⟩
          · refine C_seq ?_
            refine C_region ?_
            refine J_q 30 rfl rfl rfl rfl (Q_fa0 rfl rfl fo55_8) ?_
            refine J_q 31 rfl rfl rfl rfl (Q_ldB1 (k := 1) hS1 rfl rfl rfl Try.isAgg9 rfl) ?_
            refine J_q 32 rfl rfl rfl rfl (Q_lenS rfl rfl Try.underlying9) ?_
            refine J_q 33 rfl rfl rfl rfl (Q_gtr rfl rfl rfl) ?_
            refine J_q 29 rfl rfl rfl rfl (Q_assign rfl rfl) ?_
            refine J_nil (K_seq ?_)
            refine C_if rfl (fun h20 => ?_) (fun h20 => ?_)
            · refine C_seq ?_
              refine C_region ?_
              refine J_q 2 rfl rfl rfl rfl (Q_assign rfl rfl) ?_
              refine J_nil (K_seq ?_)
              refine C_ret (R_blk (R_then (body_ret (res1 rfl rfl) ?_)))
              exact ⟨congrArg Ending.returned (eqI (by simp only [words5, named, valued]; grind)), hS1.kept (k := 0) rfl⟩
            · refine C_seq ?_
              refine C_region ?_
              refine J_q 35 rfl rfl rfl rfl (Q_move rfl rfl) ?_
              refine J_q 36 rfl rfl rfl rfl (Q_not rfl rfl) ?_
              refine J_q 37 rfl rfl rfl rfl (Q_move rfl rfl) ?_
              refine J_q 38 rfl rfl rfl rfl (Q_fa0 rfl rfl fo55_8) ?_
              refine J_q 39 rfl rfl rfl rfl (Q_ldB1 (k := 1) hS1 rfl rfl rfl Try.isAgg9 rfl) ?_
              refine J_q 40 rfl rfl rfl rfl (Q_neqSN rfl rfl rfl) ?_
              refine J_q 41 rfl rfl rfl rfl (Q_pickT rfl rfl rfl) ?_
              refine J_q 34 rfl rfl rfl rfl (Q_assign rfl rfl) ?_
              refine J_nil (K_seq ?_)
              refine C_ifN rfl (fun h21 => ?_) (fun h21 => ?_)
              · refine C_seq ?_
                refine C_region ?_
                refine J_q 2 rfl rfl rfl rfl (Q_assign rfl rfl) ?_
                refine J_nil (K_seq ?_)
                refine C_ret (R_blk (R_then (body_ret (res1 rfl rfl) ?_)))
                exact ⟨congrArg Ending.returned (eqI (by simp only [words5, named, valued]; grind)), hS1.kept (k := 0) rfl⟩
              · refine C_skip (N_blk (K_seq ?_))
                refine C_seq ?_
                refine C_region ?_
                refine J_q 2 rfl rfl rfl rfl (Q_assign rfl rfl) ?_
                refine J_nil (K_seq ?_)
                refine C_ret (body_ret (res1 rfl rfl) ?_)
                exact ⟨congrArg Ending.returned (eqI (by simp only [words5, named, valued]; grind)), hS1.kept (k := 0) rfl⟩

theorem Check5_calls (w : World) (l_c : List Value) (c : Change) (h_c : tCh.rd w l_c c) :
    Calls Try.prog 69 #[.agg l_c.toArray] w fun e w' => e = .returned (.int .i64 (chk5 c)) ∧ Kp no w w' := by
  have hS0 := St.start w
  have hF_c := RdF.of_rd h_c
  obtain ⟨A_c, cap_c, rfl, hd_c, ho_c⟩ := openCh hF_c
  have hln_c := RdF.lens hd_c
  have hsq_c := ho_c.seq
  refine fn_calls' 45 (args := [_]) Try.func69 rfl rfl rfl ?_
  refine C_seq ?_
  refine C_region ?_
  refine J_do 1 rfl rfl rfl rfl (D_box 1 hS0 rfl rfl (fun g1 w1 hS1 => ?_))
  refine J_q 2 rfl rfl rfl rfl (Q_assign rfl rfl) ?_
  refine J_nil (K_seq ?_)
  refine C_seq ?_
  refine C_block ?_
  refine C_seq ?_
  refine C_region ?_
  refine J_q 5 rfl rfl rfl rfl (Q_fa0 rfl rfl fo55_3) ?_
  refine J_q 6 rfl rfl rfl rfl (Q_ldB1 (k := 1) hS1 rfl rfl rfl Try.isAgg3 rfl) ?_
  refine J_q 7 rfl rfl rfl rfl (Q_lss rfl rfl rfl) ?_
  refine J_q 8 rfl rfl rfl rfl (Q_move rfl rfl) ?_
  refine J_split 8 rfl (fun h2 => ?_) (fun h2 => ?_)
  · refine J_no rfl rfl rfl ?_
    refine J_no rfl rfl rfl ?_
    refine J_no rfl rfl rfl ?_
    refine J_q 12 rfl rfl rfl rfl (Q_pickT rfl rfl rfl) ?_
    refine J_q 4 rfl rfl rfl rfl (Q_assign rfl rfl) ?_
    refine J_nil (K_seq ?_)
    refine C_true rfl ?_
    refine C_seq ?_
    refine C_region ?_
    refine J_q 2 rfl rfl rfl rfl (Q_assign rfl rfl) ?_
    refine J_nil (K_seq ?_)
    refine C_ret (R_blk (R_then (body_ret (res1 rfl rfl) ?_)))
    exact ⟨congrArg Ending.returned (eqI (by first | (exact (chk5_1 (by omega)).symm) | (exact (chk5_2 (by omega) (by assumption)).symm) | (exact (chk5_3 (by omega) (by assumption) (by omega)).symm) | (exact (chk5_4 (by omega) (by assumption) (by omega) (by assumption)).symm) | (exact (chk5_5 (by omega) (by assumption) (by omega) (by assumption) (by first | (exact .inl (by assumption)) | (exact .inr (by assumption)))).symm) | (exact (chk5_6 (by omega) (by assumption) (by omega) (by assumption) (by assumption) (by assumption)).symm))), hS1.kept (k := 0) rfl⟩
  · refine J_q 9 rfl rfl rfl rfl (Q_fa0 rfl rfl fo55_3) ?_
    refine J_q 10 rfl rfl rfl rfl (Q_ldB1 (k := 1) hS1 rfl rfl rfl Try.isAgg3 rfl) ?_
    refine J_q 11 rfl rfl rfl rfl (Q_gtr rfl rfl rfl) ?_
    refine J_q 12 rfl rfl rfl rfl (Q_pickF rfl rfl rfl) ?_
    refine J_q 4 rfl rfl rfl rfl (Q_assign rfl rfl) ?_
    refine J_nil (K_seq ?_)
    refine C_if rfl (fun h3 => ?_) (fun h3 => ?_)
    · refine C_seq ?_
      refine C_region ?_
      refine J_q 2 rfl rfl rfl rfl (Q_assign rfl rfl) ?_
      refine J_nil (K_seq ?_)
      refine C_ret (R_blk (R_then (body_ret (res1 rfl rfl) ?_)))
      exact ⟨congrArg Ending.returned (eqI (by first | (exact (chk5_1 (by omega)).symm) | (exact (chk5_2 (by omega) (by assumption)).symm) | (exact (chk5_3 (by omega) (by assumption) (by omega)).symm) | (exact (chk5_4 (by omega) (by assumption) (by omega) (by assumption)).symm) | (exact (chk5_5 (by omega) (by assumption) (by omega) (by assumption) (by first | (exact .inl (by assumption)) | (exact .inr (by assumption)))).symm) | (exact (chk5_6 (by omega) (by assumption) (by omega) (by assumption) (by assumption) (by assumption)).symm))), hS1.kept (k := 0) rfl⟩
    · refine C_seq ?_
      refine C_region ?_
      refine J_q 14 rfl rfl rfl rfl (Q_fa0 rfl rfl fo55_0) ?_
      refine J_q 15 rfl rfl rfl rfl (Q_ldBK (k := 1) (stL c.at_) hS1 rfl rfl rfl Try.isAgg23 Try.sizeOf23 rfl rfl) ?_
      refine J_call 16 rfl rfl rfl rfl (T_call rfl rfl rfl Try.call54) (Right_calls _ c.at_) ?_
      rintro _ w4 ⟨rfl, hk4⟩
      have hS4 := hS1.kp0 hk4
      refine ⟨_, rfl, ?_⟩
      refine J_q 17 rfl rfl rfl rfl (Q_not rfl rfl) ?_
      refine J_q 13 rfl rfl rfl rfl (Q_assign rfl rfl) ?_
      refine J_nil (K_seq ?_)
      refine C_ifN rfl (fun h5 => ?_) (fun h5 => ?_)
      · refine C_seq ?_
        refine C_region ?_
        refine J_q 2 rfl rfl rfl rfl (Q_assign rfl rfl) ?_
        refine J_nil (K_seq ?_)
        refine C_ret (R_blk (R_then (body_ret (res1 rfl rfl) ?_)))
        exact ⟨congrArg Ending.returned (eqI (by first | (exact (chk5_1 (by omega)).symm) | (exact (chk5_2 (by omega) (by assumption)).symm) | (exact (chk5_3 (by omega) (by assumption) (by omega)).symm) | (exact (chk5_4 (by omega) (by assumption) (by omega) (by assumption)).symm) | (exact (chk5_5 (by omega) (by assumption) (by omega) (by assumption) (by first | (exact .inl (by assumption)) | (exact .inr (by assumption)))).symm) | (exact (chk5_6 (by omega) (by assumption) (by omega) (by assumption) (by assumption) (by assumption)).symm))), hS4.kept (k := 0) rfl⟩
      · refine C_seq ?_
        refine C_region ?_
        refine J_q 19 rfl rfl rfl rfl (Q_fa0 rfl rfl fo55_1) ?_
        refine J_q 20 rfl rfl rfl rfl (Q_ldB1 (k := 1) hS4 rfl rfl rfl Try.isAgg3 rfl) ?_
        refine J_q 21 rfl rfl rfl rfl (Q_lss rfl rfl rfl) ?_
        refine J_q 22 rfl rfl rfl rfl (Q_move rfl rfl) ?_
        refine J_split 22 rfl (fun h6 => ?_) (fun h6 => ?_)
        · refine J_no rfl rfl rfl ?_
          refine J_no rfl rfl rfl ?_
          refine J_no rfl rfl rfl ?_
          refine J_no rfl rfl rfl ?_
          refine J_no rfl rfl rfl ?_
          refine J_no rfl rfl rfl ?_
          refine J_q 29 rfl rfl rfl rfl (Q_pickT rfl rfl rfl) ?_
          refine J_q 18 rfl rfl rfl rfl (Q_assign rfl rfl) ?_
          refine J_nil (K_seq ?_)
          refine C_true rfl ?_
          refine C_seq ?_
          refine C_region ?_
          refine J_q 2 rfl rfl rfl rfl (Q_assign rfl rfl) ?_
          refine J_nil (K_seq ?_)
          refine C_ret (R_blk (R_then (body_ret (res1 rfl rfl) ?_)))
          exact ⟨congrArg Ending.returned (eqI (by first | (exact (chk5_1 (by omega)).symm) | (exact (chk5_2 (by omega) (by assumption)).symm) | (exact (chk5_3 (by omega) (by assumption) (by omega)).symm) | (exact (chk5_4 (by omega) (by assumption) (by omega) (by assumption)).symm) | (exact (chk5_5 (by omega) (by assumption) (by omega) (by assumption) (by first | (exact .inl (by assumption)) | (exact .inr (by assumption)))).symm) | (exact (chk5_6 (by omega) (by assumption) (by omega) (by assumption) (by assumption) (by assumption)).symm))), hS4.kept (k := 0) rfl⟩
        · refine J_q 23 rfl rfl rfl rfl (Q_fa0 rfl rfl fo55_1) ?_
          refine J_q 24 rfl rfl rfl rfl (Q_ldB1 (k := 1) hS4 rfl rfl rfl Try.isAgg3 rfl) ?_
          refine J_q 25 rfl rfl rfl rfl (Q_fa0 rfl rfl fo55_0) ?_
          refine J_q 26 rfl rfl rfl rfl (Q_fa rfl rfl fo23_0 rfl) ?_
          refine J_q 27 rfl rfl rfl rfl (Q_ldB1 (k := 1) hS4 rfl rfl rfl Try.isAgg3 rfl) ?_
          refine J_q 28 rfl rfl rfl rfl (Q_gtr rfl rfl rfl) ?_
          refine J_q 29 rfl rfl rfl rfl (Q_pickF rfl rfl rfl) ?_
          refine J_q 18 rfl rfl rfl rfl (Q_assign rfl rfl) ?_
          refine J_nil (K_seq ?_)
          refine C_if rfl (fun h7 => ?_) (fun h7 => ?_)
          · refine C_seq ?_
            refine C_region ?_
            refine J_q 2 rfl rfl rfl rfl (Q_assign rfl rfl) ?_
            refine J_nil (K_seq ?_)
            refine C_ret (R_blk (R_then (body_ret (res1 rfl rfl) ?_)))
            exact ⟨congrArg Ending.returned (eqI (by first | (exact (chk5_1 (by omega)).symm) | (exact (chk5_2 (by omega) (by assumption)).symm) | (exact (chk5_3 (by omega) (by assumption) (by omega)).symm) | (exact (chk5_4 (by omega) (by assumption) (by omega) (by assumption)).symm) | (exact (chk5_5 (by omega) (by assumption) (by omega) (by assumption) (by first | (exact .inl (by assumption)) | (exact .inr (by assumption)))).symm) | (exact (chk5_6 (by omega) (by assumption) (by omega) (by assumption) (by assumption) (by assumption)).symm))), hS4.kept (k := 0) rfl⟩
          · refine C_skip (N_blk (K_seq ?_))
            refine C_seq ?_
            refine C_seq ?_
            refine C_region ?_
            refine J_q 30 rfl rfl rfl rfl (Q_ldBK' (k := 1) (chL c A_c cap_c) hS4 rfl rfl rfl Try.isAgg55 Try.sizeOf55 rfl rfl) ?_
            refine J_call 31 rfl rfl rfl rfl (T_call rfl rfl rfl Try.call96) (deps_calls _ _ c (hS4.rd 0 rfl hF_c) (by omega)) ?_
            rintro _ w8 ⟨rfl, hk8⟩
            have hS8 := hS4.kp0 hk8
            refine ⟨_, rfl, ?_⟩
            refine J_q 3 rfl rfl rfl rfl (Q_assign rfl rfl) ?_
            refine J_nil (K_seq ?_)
            refine C_seq ?_
            refine C_region ?_
            refine J_q 32 rfl rfl rfl rfl (Q_move rfl rfl) ?_
            refine J_q 33 rfl rfl rfl rfl (Q_neqN rfl rfl rfl) ?_
            refine J_nil (K_seq ?_)
            refine C_ifN rfl (fun h9 => ?_) (fun h9 => ?_)
            · refine C_seq ?_
              refine C_region ?_
              refine J_q 34 rfl rfl rfl rfl (Q_move rfl rfl) ?_
              refine J_q 2 rfl rfl rfl rfl (Q_assign rfl rfl) ?_
              refine J_nil (K_seq ?_)
              refine C_ret (R_then (body_ret (res1 rfl rfl) ?_))
              exact ⟨congrArg Ending.returned (eqI (by first | (exact (chk5_1 (by omega)).symm) | (exact (chk5_2 (by omega) (by assumption)).symm) | (exact (chk5_3 (by omega) (by assumption) (by omega)).symm) | (exact (chk5_4 (by omega) (by assumption) (by omega) (by assumption)).symm) | (exact (chk5_5 (by omega) (by assumption) (by omega) (by assumption) (by first | (exact .inl (by assumption)) | (exact .inr (by assumption)))).symm) | (exact (chk5_6 (by omega) (by assumption) (by omega) (by assumption) (by assumption) (by assumption)).symm))), hS8.kept (k := 0) rfl⟩
            · refine C_skip (K_seq ?_)
              refine C_seq ?_
              refine C_seq ?_
              refine C_region ?_
              refine J_q 35 rfl rfl rfl rfl (Q_ldBK' (k := 1) (chL c A_c cap_c) hS8 rfl rfl rfl Try.isAgg55 Try.sizeOf55 rfl rfl) ?_
              refine J_call 36 rfl rfl rfl rfl (T_call rfl rfl rfl Try.call97) (node_calls _ _ c (hS8.rd 0 rfl hF_c)) ?_
              rintro _ w10 ⟨rfl, hk10⟩
              have hS10 := hS8.kp0 hk10
              refine ⟨_, rfl, ?_⟩
              refine J_q 37 rfl rfl rfl rfl (Q_not rfl rfl) ?_
              refine J_q 38 rfl rfl rfl rfl (Q_move rfl rfl) ?_
              refine J_splitN 38 rfl (fun h11 => ?_) (fun h11 => ?_)
              · refine J_no rfl rfl rfl ?_
                refine J_no rfl rfl rfl ?_
                refine J_no rfl rfl rfl ?_
                refine J_q 42 rfl rfl rfl rfl (Q_pickT rfl rfl rfl) ?_
                refine J_nil (K_seq ?_)
                refine C_true rfl ?_
                refine C_seq ?_
                refine C_region ?_
                refine J_q 2 rfl rfl rfl rfl (Q_assign rfl rfl) ?_
                refine J_nil (K_seq ?_)
                refine C_ret (R_then (body_ret (res1 rfl rfl) ?_))
                exact ⟨congrArg Ending.returned (eqI (by first | (exact (chk5_1 (by omega)).symm) | (exact (chk5_2 (by omega) (by assumption)).symm) | (exact (chk5_3 (by omega) (by assumption) (by omega)).symm) | (exact (chk5_4 (by omega) (by assumption) (by omega) (by assumption)).symm) | (exact (chk5_5 (by omega) (by assumption) (by omega) (by assumption) (by first | (exact .inl (by assumption)) | (exact .inr (by assumption)))).symm) | (exact (chk5_6 (by omega) (by assumption) (by omega) (by assumption) (by assumption) (by assumption)).symm))), hS10.kept (k := 0) rfl⟩
              · refine J_q 39 rfl rfl rfl rfl (Q_ldBK' (k := 1) (chL c A_c cap_c) hS10 rfl rfl rfl Try.isAgg55 Try.sizeOf55 rfl rfl) ?_
                refine J_call 40 rfl rfl rfl rfl (T_call rfl rfl rfl Try.call98) (place_calls _ _ c (hS10.rd 0 rfl hF_c)) ?_
                rintro _ w12 ⟨rfl, hk12⟩
                have hS12 := hS10.kp0 hk12
                refine ⟨_, rfl, ?_⟩
                refine J_q 41 rfl rfl rfl rfl (Q_not rfl rfl) ?_
                refine J_q 42 rfl rfl rfl rfl (Q_pickF rfl rfl rfl) ?_
                refine J_nil (K_seq ?_)
                refine C_ifN rfl (fun h13 => ?_) (fun h13 => ?_)
                · refine C_seq ?_
                  refine C_region ?_
                  refine J_q 2 rfl rfl rfl rfl (Q_assign rfl rfl) ?_
                  refine J_nil (K_seq ?_)
                  refine C_ret (R_then (body_ret (res1 rfl rfl) ?_))
                  exact ⟨congrArg Ending.returned (eqI (by first | (exact (chk5_1 (by omega)).symm) | (exact (chk5_2 (by omega) (by assumption)).symm) | (exact (chk5_3 (by omega) (by assumption) (by omega)).symm) | (exact (chk5_4 (by omega) (by assumption) (by omega) (by assumption)).symm) | (exact (chk5_5 (by omega) (by assumption) (by omega) (by assumption) (by first | (exact .inl (by assumption)) | (exact .inr (by assumption)))).symm) | (exact (chk5_6 (by omega) (by assumption) (by omega) (by assumption) (by assumption) (by assumption)).symm))), hS12.kept (k := 0) rfl⟩
                · refine C_skip (K_seq ?_)
                  refine C_seq ?_
                  refine C_region ?_
                  refine J_q 43 rfl rfl rfl rfl (Q_ldBK' (k := 1) (chL c A_c cap_c) hS12 rfl rfl rfl Try.isAgg55 Try.sizeOf55 rfl rfl) ?_
                  refine J_call 44 rfl rfl rfl rfl (T_call rfl rfl rfl Try.call99) (words_calls _ _ c (hS12.rd 0 rfl hF_c)) ?_
                  rintro _ w14 ⟨rfl, hk14⟩
                  have hS14 := hS12.kp0 hk14
                  refine ⟨_, rfl, ?_⟩
                  refine J_q 2 rfl rfl rfl rfl (Q_assign rfl rfl) ?_
                  refine J_nil (K_seq ?_)
                  refine C_ret (body_ret (res1 rfl rfl) ?_)
                  exact ⟨congrArg Ending.returned (eqI (by first | (exact (chk5_1 (by omega)).symm) | (exact (chk5_2 (by omega) (by assumption)).symm) | (exact (chk5_3 (by omega) (by assumption) (by omega)).symm) | (exact (chk5_4 (by omega) (by assumption) (by omega) (by assumption)).symm) | (exact (chk5_5 (by omega) (by assumption) (by omega) (by assumption) (by first | (exact .inl (by assumption)) | (exact .inr (by assumption)))).symm) | (exact (chk5_6 (by omega) (by assumption) (by omega) (by assumption) (by assumption) (by assumption)).symm))), hS14.kept (k := 0) rfl⟩
end Go.Proofs.Ytceeellnjckmiaa

/- Printed by a program of mine (gen.py). -/
set_option maxRecDepth 100000
namespace Go.Proofs.Ytceeellnjckmiaa
open Go Go.Sl
theorem RCheck5_calls (w : World) (l_c : List Value) (c : Change) (h_c : tCh.rd w l_c c) :
    Calls Try.prog 86 #[.agg l_c.toArray] w fun e w' => e = .returned (.int .i64 (chk5 c)) ∧ Kp no w w' := by
  have hS0 := St.start w
  have hF_c := RdF.of_rd h_c
  obtain ⟨A_c, cap_c, rfl, hd_c, ho_c⟩ := openCh hF_c
  have hln_c := RdF.lens hd_c
  have hsq_c := ho_c.seq
  refine fn_calls' 105 (args := [_]) Try.func86 rfl rfl rfl ?_
  refine C_seq ?_
  refine C_region ?_
  refine J_do 1 rfl rfl rfl rfl (D_box 1 hS0 rfl rfl (fun g1 w1 hS1 => ?_))
  refine J_q 2 rfl rfl rfl rfl (Q_assign rfl rfl) ?_
  refine J_nil (K_seq ?_)
  refine C_seq ?_
  refine C_seq ?_
  refine C_region ?_
  refine J_q 4 rfl rfl rfl rfl (Q_fa0 rfl rfl fo55_3) ?_
  refine J_q 5 rfl rfl rfl rfl (Q_ldB1 (k := 1) hS1 rfl rfl rfl Try.isAgg3 rfl) ?_
  refine J_q 6 rfl rfl rfl rfl (Q_lss rfl rfl rfl) ?_
  refine J_q 7 rfl rfl rfl rfl (Q_move rfl rfl) ?_
  refine J_split 7 rfl (fun h2 => ?_) (fun h2 => ?_)
  · refine J_no rfl rfl rfl ?_
    refine J_no rfl rfl rfl ?_
    refine J_no rfl rfl rfl ?_
    refine J_q 11 rfl rfl rfl rfl (Q_pickT rfl rfl rfl) ?_
    refine J_nil (K_seq ?_)
    refine C_true rfl ?_
    refine C_seq ?_
    refine C_region ?_
    refine J_q 2 rfl rfl rfl rfl (Q_assign rfl rfl) ?_
    refine J_nil (K_seq ?_)
    refine C_ret (R_then (body_ret (res1 rfl rfl) ?_))
    exact ⟨congrArg Ending.returned (eqI (by first | (exact (chk5_1 (by omega)).symm) | (exact (chk5_2 (by omega) (by assumption)).symm) | (exact (chk5_3 (by omega) (by assumption) (by omega)).symm) | (exact (chk5_4R (by omega) (by assumption) (by omega) (by assumption)).symm) | (exact (chk5_5R (by omega) (by assumption) (by omega) (by assumption) (by first | (exact .inl (by assumption)) | (exact .inr (.inl (by assumption))) | (exact .inr (.inr (by assumption))))).symm) | (rw [chk5_6R (by omega) (by assumption) (by omega) (by assumption) (by assumption) (by assumption) (by assumption)]; simp only [words5, named, valued]; grind))), hS1.kept (k := 0) rfl⟩
  · refine J_q 8 rfl rfl rfl rfl (Q_fa0 rfl rfl fo55_3) ?_
    refine J_q 9 rfl rfl rfl rfl (Q_ldB1 (k := 1) hS1 rfl rfl rfl Try.isAgg3 rfl) ?_
    refine J_q 10 rfl rfl rfl rfl (Q_gtr rfl rfl rfl) ?_
    refine J_q 11 rfl rfl rfl rfl (Q_pickF rfl rfl rfl) ?_
    refine J_nil (K_seq ?_)
    refine C_if rfl (fun h3 => ?_) (fun h3 => ?_)
    · refine C_seq ?_
      refine C_region ?_
      refine J_q 2 rfl rfl rfl rfl (Q_assign rfl rfl) ?_
      refine J_nil (K_seq ?_)
      refine C_ret (R_then (body_ret (res1 rfl rfl) ?_))
      exact ⟨congrArg Ending.returned (eqI (by first | (exact (chk5_1 (by omega)).symm) | (exact (chk5_2 (by omega) (by assumption)).symm) | (exact (chk5_3 (by omega) (by assumption) (by omega)).symm) | (exact (chk5_4R (by omega) (by assumption) (by omega) (by assumption)).symm) | (exact (chk5_5R (by omega) (by assumption) (by omega) (by assumption) (by first | (exact .inl (by assumption)) | (exact .inr (.inl (by assumption))) | (exact .inr (.inr (by assumption))))).symm) | (rw [chk5_6R (by omega) (by assumption) (by omega) (by assumption) (by assumption) (by assumption) (by assumption)]; simp only [words5, named, valued]; grind))), hS1.kept (k := 0) rfl⟩
    · refine C_skip (K_seq ?_)
      refine C_seq ?_
      refine C_seq ?_
      refine C_region ?_
      refine J_q 12 rfl rfl rfl rfl (Q_fa0 rfl rfl fo55_0) ?_
      refine J_q 13 rfl rfl rfl rfl (Q_ldBK (k := 1) (stL c.at_) hS1 rfl rfl rfl Try.isAgg23 Try.sizeOf23 rfl rfl) ?_
      refine J_call 14 rfl rfl rfl rfl (T_call rfl rfl rfl Try.call79) (RRight_calls _ c.at_) ?_
      rintro _ w4 ⟨rfl, hk4⟩
      have hS4 := hS1.kp0 hk4
      refine ⟨_, rfl, ?_⟩
      refine J_q 15 rfl rfl rfl rfl (Q_not rfl rfl) ?_
      refine J_nil (K_seq ?_)
      refine C_ifN rfl (fun h5 => ?_) (fun h5 => ?_)
      · refine C_seq ?_
        refine C_region ?_
        refine J_q 2 rfl rfl rfl rfl (Q_assign rfl rfl) ?_
        refine J_nil (K_seq ?_)
        refine C_ret (R_then (body_ret (res1 rfl rfl) ?_))
        exact ⟨congrArg Ending.returned (eqI (by first | (exact (chk5_1 (by omega)).symm) | (exact (chk5_2 (by omega) (by assumption)).symm) | (exact (chk5_3 (by omega) (by assumption) (by omega)).symm) | (exact (chk5_4R (by omega) (by assumption) (by omega) (by assumption)).symm) | (exact (chk5_5R (by omega) (by assumption) (by omega) (by assumption) (by first | (exact .inl (by assumption)) | (exact .inr (.inl (by assumption))) | (exact .inr (.inr (by assumption))))).symm) | (rw [chk5_6R (by omega) (by assumption) (by omega) (by assumption) (by assumption) (by assumption) (by assumption)]; simp only [words5, named, valued]; grind))), hS4.kept (k := 0) rfl⟩
      · refine C_skip (K_seq ?_)
        refine C_seq ?_
        refine C_seq ?_
        refine C_region ?_
        refine J_q 16 rfl rfl rfl rfl (Q_fa0 rfl rfl fo55_1) ?_
        refine J_q 17 rfl rfl rfl rfl (Q_ldB1 (k := 1) hS4 rfl rfl rfl Try.isAgg3 rfl) ?_
        refine J_q 18 rfl rfl rfl rfl (Q_lss rfl rfl rfl) ?_
        refine J_q 19 rfl rfl rfl rfl (Q_move rfl rfl) ?_
        refine J_split 19 rfl (fun h6 => ?_) (fun h6 => ?_)
        · refine J_no rfl rfl rfl ?_
          refine J_no rfl rfl rfl ?_
          refine J_no rfl rfl rfl ?_
          refine J_no rfl rfl rfl ?_
          refine J_no rfl rfl rfl ?_
          refine J_no rfl rfl rfl ?_
          refine J_q 26 rfl rfl rfl rfl (Q_pickT rfl rfl rfl) ?_
          refine J_nil (K_seq ?_)
          refine C_true rfl ?_
          refine C_seq ?_
          refine C_region ?_
          refine J_q 2 rfl rfl rfl rfl (Q_assign rfl rfl) ?_
          refine J_nil (K_seq ?_)
          refine C_ret (R_then (body_ret (res1 rfl rfl) ?_))
          exact ⟨congrArg Ending.returned (eqI (by first | (exact (chk5_1 (by omega)).symm) | (exact (chk5_2 (by omega) (by assumption)).symm) | (exact (chk5_3 (by omega) (by assumption) (by omega)).symm) | (exact (chk5_4R (by omega) (by assumption) (by omega) (by assumption)).symm) | (exact (chk5_5R (by omega) (by assumption) (by omega) (by assumption) (by first | (exact .inl (by assumption)) | (exact .inr (.inl (by assumption))) | (exact .inr (.inr (by assumption))))).symm) | (rw [chk5_6R (by omega) (by assumption) (by omega) (by assumption) (by assumption) (by assumption) (by assumption)]; simp only [words5, named, valued]; grind))), hS4.kept (k := 0) rfl⟩
        · refine J_q 20 rfl rfl rfl rfl (Q_fa0 rfl rfl fo55_1) ?_
          refine J_q 21 rfl rfl rfl rfl (Q_ldB1 (k := 1) hS4 rfl rfl rfl Try.isAgg3 rfl) ?_
          refine J_q 22 rfl rfl rfl rfl (Q_fa0 rfl rfl fo55_0) ?_
          refine J_q 23 rfl rfl rfl rfl (Q_fa rfl rfl fo23_0 rfl) ?_
          refine J_q 24 rfl rfl rfl rfl (Q_ldB1 (k := 1) hS4 rfl rfl rfl Try.isAgg3 rfl) ?_
          refine J_q 25 rfl rfl rfl rfl (Q_gtr rfl rfl rfl) ?_
          refine J_q 26 rfl rfl rfl rfl (Q_pickF rfl rfl rfl) ?_
          refine J_nil (K_seq ?_)
          refine C_if rfl (fun h7 => ?_) (fun h7 => ?_)
          · refine C_seq ?_
            refine C_region ?_
            refine J_q 2 rfl rfl rfl rfl (Q_assign rfl rfl) ?_
            refine J_nil (K_seq ?_)
            refine C_ret (R_then (body_ret (res1 rfl rfl) ?_))
            exact ⟨congrArg Ending.returned (eqI (by first | (exact (chk5_1 (by omega)).symm) | (exact (chk5_2 (by omega) (by assumption)).symm) | (exact (chk5_3 (by omega) (by assumption) (by omega)).symm) | (exact (chk5_4R (by omega) (by assumption) (by omega) (by assumption)).symm) | (exact (chk5_5R (by omega) (by assumption) (by omega) (by assumption) (by first | (exact .inl (by assumption)) | (exact .inr (.inl (by assumption))) | (exact .inr (.inr (by assumption))))).symm) | (rw [chk5_6R (by omega) (by assumption) (by omega) (by assumption) (by assumption) (by assumption) (by assumption)]; simp only [words5, named, valued]; grind))), hS4.kept (k := 0) rfl⟩
          · refine C_skip (K_seq ?_)
            refine C_seq ?_
            refine C_seq ?_
            refine C_region ?_
            refine J_q 27 rfl rfl rfl rfl (Q_fa0 rfl rfl fo55_2) ?_
            refine J_q 28 rfl rfl rfl rfl (Q_ldB1 (k := 1) hS4 rfl rfl rfl Try.isAgg44 rfl) ?_
            refine J_call 29 rfl rfl rfl rfl (T_call rfl rfl rfl Try.call27) (RCheck_calls _ _ c.deps (hS4.rd 0 rfl hd_c)) ?_
            rintro _ w8 ⟨rfl, hk8⟩
            have hS8 := hS4.kp0 hk8
            refine ⟨_, rfl, ?_⟩
            refine J_q 30 rfl rfl rfl rfl (Q_neqN rfl rfl rfl) ?_
            refine J_nil (K_seq ?_)
            refine C_ifN rfl (fun h9 => ?_) (fun h9 => ?_)
            · refine C_seq ?_
              refine C_region ?_
              refine J_q 31 rfl rfl rfl rfl (Q_fa0 rfl rfl fo55_2) ?_
              refine J_q 32 rfl rfl rfl rfl (Q_ldB1 (k := 1) hS8 rfl rfl rfl Try.isAgg44 rfl) ?_
              refine J_call 33 rfl rfl rfl rfl (T_call rfl rfl rfl Try.call27) (RCheck_calls _ _ c.deps (hS8.rd 0 rfl hd_c)) ?_
              rintro _ w10 ⟨rfl, hk10⟩
              have hS10 := hS8.kp0 hk10
              refine ⟨_, rfl, ?_⟩
              refine J_q 2 rfl rfl rfl rfl (Q_assign rfl rfl) ?_
              refine J_nil (K_seq ?_)
              refine C_ret (R_then (body_ret (res1 rfl rfl) ?_))
              exact ⟨congrArg Ending.returned (eqI (by first | (exact (chk5_1 (by omega)).symm) | (exact (chk5_2 (by omega) (by assumption)).symm) | (exact (chk5_3 (by omega) (by assumption) (by omega)).symm) | (exact (chk5_4R (by omega) (by assumption) (by omega) (by assumption)).symm) | (exact (chk5_5R (by omega) (by assumption) (by omega) (by assumption) (by first | (exact .inl (by assumption)) | (exact .inr (.inl (by assumption))) | (exact .inr (.inr (by assumption))))).symm) | (rw [chk5_6R (by omega) (by assumption) (by omega) (by assumption) (by assumption) (by assumption) (by assumption)]; simp only [words5, named, valued]; grind))), hS10.kept (k := 0) rfl⟩
            · refine C_skip (K_seq ?_)
              refine C_seq ?_
              refine C_seq ?_
              refine C_draw (fun w' => St w w' [(1, blkL g1 (chL c A_c cap_c) 55), (0, fz w (lt_ w))]) 25 mixedOrders 25 rfl (fun w11 hk11 => ?_)
              have hS11 := hS8.kp0 hk11
              refine JA_p 0 34 25 rfl rfl rfl rfl (by kernel_rfl) (by kernel_rfl) (fun _ => Q_fa0 rfl rfl fo55_2) ?_
              refine JA_q 1 35 rfl rfl rfl rfl (by kernel_rfl) (by kernel_rfl) hS11 (fun _ hI => Q_ldB1 (k := 1) hI rfl rfl rfl Try.isAgg44 rfl) ?_
              refine JA_p 4 38 25 rfl rfl rfl rfl (by kernel_rfl) (by kernel_rfl) (fun _ => Q_fa0 rfl rfl fo55_2) ?_
              refine JA_q 5 39 rfl rfl rfl rfl (by kernel_rfl) (by kernel_rfl) hS11 (fun _ hI => Q_ldB1 (k := 1) hI rfl rfl rfl Try.isAgg44 rfl) ?_
              refine JA_p 6 40 25 rfl rfl rfl rfl (by kernel_rfl) (by kernel_rfl) (fun _ => Q_len rfl rfl Try.underlying44) ?_
              refine JA_call 2 36 rfl rfl rfl rfl (by kernel_rfl) (T_call rfl rfl rfl Try.call78) (RTrim_calls _ _ c.deps (hS11.rd 0 rfl hd_c)) ?_
              rintro _ w12 ⟨vv12_0, rfl, hk12, hr12_0⟩
              have hS12 := hS11.call hk12 2
              obtain ⟨A12_0, cap12_0, rfl, hc12_0, hm12_0⟩ := hr12_0.slice
              refine ⟨_, rfl, (fun _ => (hS12.pick [1, 0] ⟨rfl, rfl, rfl, rfl, trivial⟩)), ?_⟩
              refine JA_p 3 37 25 rfl rfl rfl rfl (by kernel_rfl) (by kernel_rfl) (fun _ => Q_len rfl rfl Try.underlying44) ?_
              refine JA_p 7 41 25 rfl rfl rfl rfl (by kernel_rfl) (by kernel_rfl) (fun _ => Q_neqN rfl rfl rfl) ?_
              refine JA_p 8 42 25 rfl rfl rfl rfl (by kernel_rfl) (by kernel_rfl) (fun _ => Q_move rfl rfl) ?_
              refine JA_splitN 42 rfl (fun h13 => ?_) (fun h13 => ?_)
              · refine JA_no 9 25 rfl rfl rfl (by kernel_rfl) (by kernel_rfl) (fun _ h => by cases h; rfl) ?_
                refine JA_no 10 25 rfl rfl rfl (by kernel_rfl) (by kernel_rfl) (fun _ h => by cases h; rfl) ?_
                refine JA_no 11 25 rfl rfl rfl (by kernel_rfl) (by kernel_rfl) (fun _ h => by cases h; rfl) ?_
                refine JA_no 12 25 rfl rfl rfl (by kernel_rfl) (by kernel_rfl) (fun _ h => by cases h; rfl) ?_
                refine JA_no 13 25 rfl rfl rfl (by kernel_rfl) (by kernel_rfl) (fun _ h => by cases h; rfl) ?_
                refine JA_no 14 25 rfl rfl rfl (by kernel_rfl) (by kernel_rfl) (fun _ h => by cases h; rfl) ?_
                refine JA_no 15 25 rfl rfl rfl (by kernel_rfl) (by kernel_rfl) (fun _ h => by cases h; rfl) ?_
                refine JA_no 16 25 rfl rfl rfl (by kernel_rfl) (by kernel_rfl) (fun _ h => by cases h; rfl) ?_
                refine JA_no 17 25 rfl rfl rfl (by kernel_rfl) (by kernel_rfl) (fun _ h => by cases h; rfl) ?_
                refine JA_no 18 25 rfl rfl rfl (by kernel_rfl) (by kernel_rfl) (fun _ h => by cases h; rfl) ?_
                refine JA_p 19 53 25 rfl rfl rfl rfl (by kernel_rfl) (by kernel_rfl) (fun _ => Q_pickT rfl rfl rfl) ?_
                refine JA_p 20 54 25 rfl rfl rfl rfl (by kernel_rfl) (by kernel_rfl) (fun _ => Q_move rfl rfl) ?_
                refine JA_no 21 25 rfl rfl rfl (by kernel_rfl) (by kernel_rfl) (fun _ h => by cases h; rfl) ?_
                refine JA_no 22 25 rfl rfl rfl (by kernel_rfl) (by kernel_rfl) (fun _ h => by cases h; rfl) ?_
                refine JA_no 23 25 rfl rfl rfl (by kernel_rfl) (by kernel_rfl) (fun _ h => by cases h; rfl) ?_
                refine JA_p 24 58 25 rfl rfl rfl rfl (by kernel_rfl) (by kernel_rfl) (fun _ => Q_pickT rfl rfl rfl) ?_
                refine JA_end (by kernel_rfl) (K_seq ?_)
                refine C_true rfl ?_
                refine C_seq ?_
                refine C_region ?_
                refine J_q 2 rfl rfl rfl rfl (Q_assign rfl rfl) ?_
                refine J_nil (K_seq ?_)
                refine C_ret (R_then (body_ret (res1 rfl rfl) ?_))
                exact ⟨congrArg Ending.returned (eqI (by first | (exact (chk5_1 (by omega)).symm) | (exact (chk5_2 (by omega) (by assumption)).symm) | (exact (chk5_3 (by omega) (by assumption) (by omega)).symm) | (exact (chk5_4R (by omega) (by assumption) (by omega) (by assumption)).symm) | (exact (chk5_5R (by omega) (by assumption) (by omega) (by assumption) (by first | (exact .inl (by assumption)) | (exact .inr (.inl (by assumption))) | (exact .inr (.inr (by assumption))))).symm) | (rw [chk5_6R (by omega) (by assumption) (by omega) (by assumption) (by assumption) (by assumption) (by assumption)]; simp only [words5, named, valued]; grind))), hS12.kept (k := 0) rfl⟩
              · refine JA_p 9 43 25 rfl rfl rfl rfl (by kernel_rfl) (by kernel_rfl) (fun _ => Q_fa0 rfl rfl fo55_2) ?_
                refine JA_q 10 44 rfl rfl rfl rfl (by kernel_rfl) (by kernel_rfl) (hS12.pick [1, 0] ⟨rfl, rfl, rfl, rfl, trivial⟩) (fun _ hI => Q_ldB1 (k := 1) hI rfl rfl rfl Try.isAgg44 rfl) ?_
                refine JA_p 11 45 25 rfl rfl rfl rfl (by kernel_rfl) (by kernel_rfl) (fun _ => Q_fa0 rfl rfl fo55_0) ?_
                refine JA_p 12 46 25 rfl rfl rfl rfl (by kernel_rfl) (by kernel_rfl) (fun _ => Q_fa rfl rfl fo23_1 rfl) ?_
                refine JA_q 13 47 rfl rfl rfl rfl (by kernel_rfl) (by kernel_rfl) (hS12.pick [1, 0] ⟨rfl, rfl, rfl, rfl, trivial⟩) (fun _ hI => Q_ldB1 (k := 1) hI rfl rfl rfl Try.isAgg3 rfl) ?_
                refine JA_p 15 49 25 rfl rfl rfl rfl (by kernel_rfl) (by kernel_rfl) (fun _ => Q_fa0 rfl rfl fo55_1) ?_
                refine JA_q 16 50 rfl rfl rfl rfl (by kernel_rfl) (by kernel_rfl) (hS12.pick [1, 0] ⟨rfl, rfl, rfl, rfl, trivial⟩) (fun _ hI => Q_ldB1 (k := 1) hI rfl rfl rfl Try.isAgg3 rfl) ?_
                refine JA_p 17 51 25 rfl rfl rfl rfl (by kernel_rfl) (by kernel_rfl) (fun _ => Q_sub rfl rfl rfl (by omega) (by omega)) ?_
                refine JA_call 14 48 rfl rfl rfl rfl (by kernel_rfl) (T_call rfl rfl rfl Try.call40) (RAt_calls _ _ c.deps (hS12.rd 0 rfl hd_c) c.at_.r) ?_
                rintro _ w14 ⟨rfl, hk14⟩
                have hS14 := hS12.kp0 hk14
                refine ⟨_, rfl, (fun _ => (hS14.pick [1, 0] ⟨rfl, rfl, rfl, rfl, trivial⟩)), ?_⟩
                refine JA_p 18 52 25 rfl rfl rfl rfl (by kernel_rfl) (by kernel_rfl) (fun _ => Q_neqN rfl rfl rfl) ?_
                refine JA_p 19 53 25 rfl rfl rfl rfl (by kernel_rfl) (by kernel_rfl) (fun _ => Q_pickF rfl rfl rfl) ?_
                refine JA_p 20 54 25 rfl rfl rfl rfl (by kernel_rfl) (by kernel_rfl) (fun _ => Q_move rfl rfl) ?_
                refine JA_splitN 54 rfl (fun h15 => ?_) (fun h15 => ?_)
                · refine JA_no 21 25 rfl rfl rfl (by kernel_rfl) (by kernel_rfl) (fun _ h => by cases h; rfl) ?_
                  refine JA_no 22 25 rfl rfl rfl (by kernel_rfl) (by kernel_rfl) (fun _ h => by cases h; rfl) ?_
                  refine JA_no 23 25 rfl rfl rfl (by kernel_rfl) (by kernel_rfl) (fun _ h => by cases h; rfl) ?_
                  refine JA_p 24 58 25 rfl rfl rfl rfl (by kernel_rfl) (by kernel_rfl) (fun _ => Q_pickT rfl rfl rfl) ?_
                  refine JA_end (by kernel_rfl) (K_seq ?_)
                  refine C_true rfl ?_
                  refine C_seq ?_
                  refine C_region ?_
                  refine J_q 2 rfl rfl rfl rfl (Q_assign rfl rfl) ?_
                  refine J_nil (K_seq ?_)
                  refine C_ret (R_then (body_ret (res1 rfl rfl) ?_))
                  exact ⟨congrArg Ending.returned (eqI (by first | (exact (chk5_1 (by omega)).symm) | (exact (chk5_2 (by omega) (by assumption)).symm) | (exact (chk5_3 (by omega) (by assumption) (by omega)).symm) | (exact (chk5_4R (by omega) (by assumption) (by omega) (by assumption)).symm) | (exact (chk5_5R (by omega) (by assumption) (by omega) (by assumption) (by first | (exact .inl (by assumption)) | (exact .inr (.inl (by assumption))) | (exact .inr (.inr (by assumption))))).symm) | (rw [chk5_6R (by omega) (by assumption) (by omega) (by assumption) (by assumption) (by assumption) (by assumption)]; simp only [words5, named, valued]; grind))), hS14.kept (k := 0) rfl⟩
                · refine JA_q 21 55 rfl rfl rfl rfl (by kernel_rfl) (by kernel_rfl) (hS14.pick [1, 0] ⟨rfl, rfl, rfl, rfl, trivial⟩) (fun _ hI => Q_ldBK' (k := 1) (chL c A_c cap_c) hI rfl rfl rfl Try.isAgg55 Try.sizeOf55 rfl rfl) ?_
                  refine JA_call 22 56 rfl rfl rfl rfl (by kernel_rfl) (T_call rfl rfl rfl Try.call110) (placed_calls _ _ c (hS14.rd 0 rfl hF_c)) ?_
                  rintro _ w16 ⟨rfl, hk16⟩
                  have hS16 := hS14.kp0 hk16
                  refine ⟨_, rfl, (fun _ => (hS16.pick [1, 0] ⟨rfl, rfl, rfl, rfl, trivial⟩)), ?_⟩
                  refine JA_p 23 57 25 rfl rfl rfl rfl (by kernel_rfl) (by kernel_rfl) (fun _ => Q_not rfl rfl) ?_
                  refine JA_p 24 58 25 rfl rfl rfl rfl (by kernel_rfl) (by kernel_rfl) (fun _ => Q_pickF rfl rfl rfl) ?_
                  refine JA_end (by kernel_rfl) (K_seq ?_)
                  refine C_ifN rfl (fun h17 => ?_) (fun h17 => ?_)
                  · refine C_seq ?_
                    refine C_region ?_
                    refine J_q 2 rfl rfl rfl rfl (Q_assign rfl rfl) ?_
                    refine J_nil (K_seq ?_)
                    refine C_ret (R_then (body_ret (res1 rfl rfl) ?_))
                    exact ⟨congrArg Ending.returned (eqI (by first | (exact (chk5_1 (by omega)).symm) | (exact (chk5_2 (by omega) (by assumption)).symm) | (exact (chk5_3 (by omega) (by assumption) (by omega)).symm) | (exact (chk5_4R (by omega) (by assumption) (by omega) (by assumption)).symm) | (exact (chk5_5R (by omega) (by assumption) (by omega) (by assumption) (by first | (exact .inl (by assumption)) | (exact .inr (.inl (by assumption))) | (exact .inr (.inr (by assumption))))).symm) | (rw [chk5_6R (by omega) (by assumption) (by omega) (by assumption) (by assumption) (by assumption) (by assumption)]; simp only [words5, named, valued]; grind))), hS16.kept (k := 0) rfl⟩
                  · refine C_skip (K_seq ?_)
                    refine C_seq ?_
                    refine C_region ?_
                    refine J_q 59 rfl rfl rfl rfl (Q_fa0 rfl rfl fo55_3) ?_
                    refine J_q 60 rfl rfl rfl rfl (Q_ldB1 (k := 1) hS16 rfl rfl rfl Try.isAgg3 rfl) ?_
                    refine J_q 61 rfl rfl rfl rfl (Q_eql rfl rfl rfl) ?_
                    refine J_q 62 rfl rfl rfl rfl (Q_move rfl rfl) ?_
                    refine J_split 62 rfl (fun h18 => ?_) (fun h18 => ?_)
                    · refine J_no rfl rfl rfl ?_
                      refine J_no rfl rfl rfl ?_
                      refine J_no rfl rfl rfl ?_
                      refine J_q 66 rfl rfl rfl rfl (Q_pickT rfl rfl rfl) ?_
                      refine J_q 67 rfl rfl rfl rfl (Q_move rfl rfl) ?_
                      refine J_no rfl rfl rfl ?_
                      refine J_no rfl rfl rfl ?_
                      refine J_no rfl rfl rfl ?_
                      refine J_q 71 rfl rfl rfl rfl (Q_pickT rfl rfl rfl) ?_
                      refine J_q 3 rfl rfl rfl rfl (Q_assign rfl rfl) ?_
                      refine J_nil (K_seq ?_)
                      refine C_seq ?_
                      refine C_seq ?_
                      refine C_region ?_
                      refine J_q 72 rfl rfl rfl rfl (Q_move rfl rfl) ?_
                      refine J_q 73 rfl rfl rfl rfl (Q_move rfl rfl) ?_
                      refine J_q 74 rfl rfl rfl rfl (Q_fa0 rfl rfl fo55_7) ?_
                      refine J_q 75 rfl rfl rfl rfl (Q_ldB1 (k := 1) hS16 rfl rfl rfl Try.isAgg9 rfl) ?_
                      refine J_call 76 rfl rfl rfl rfl (T_call rfl rfl rfl Try.call111) (RName_calls _ c.name ho_c.name) ?_
                      rintro _ w19 ⟨rfl, hk19⟩
                      have hS19 := hS16.kp0 hk19
                      refine ⟨_, rfl, ?_⟩
                      refine J_q 77 rfl rfl rfl rfl (Q_not rfl rfl) ?_
                      refine J_q 78 rfl rfl rfl rfl (Q_pickT rfl rfl rfl) ?_
                      refine J_q 79 rfl rfl rfl rfl (Q_move rfl rfl) ?_
                      refine J_splitN 79 rfl (fun h20 => ?_) (fun h20 => ?_)
                      · refine J_no rfl rfl rfl ?_
                        refine J_no rfl rfl rfl ?_
                        refine J_noU 82 rfl rfl rfl rfl ?_
                        refine J_no rfl rfl rfl ?_
                        refine J_no rfl rfl rfl ?_
                        refine J_no rfl rfl rfl ?_
                        refine J_no rfl rfl rfl ?_
                        refine J_q 87 rfl rfl rfl rfl (Q_pickT rfl rfl rfl) ?_
                        refine J_nil (K_seq ?_)
                        refine C_true rfl ?_
                        refine C_seq ?_
                        refine C_region ?_
                        refine J_q 2 rfl rfl rfl rfl (Q_assign rfl rfl) ?_
                        refine J_nil (K_seq ?_)
                        refine C_ret (R_then (body_ret (res1 rfl rfl) ?_))
                        exact ⟨congrArg Ending.returned (eqI (by first | (exact (chk5_1 (by omega)).symm) | (exact (chk5_2 (by omega) (by assumption)).symm) | (exact (chk5_3 (by omega) (by assumption) (by omega)).symm) | (exact (chk5_4R (by omega) (by assumption) (by omega) (by assumption)).symm) | (exact (chk5_5R (by omega) (by assumption) (by omega) (by assumption) (by first | (exact .inl (by assumption)) | (exact .inr (.inl (by assumption))) | (exact .inr (.inr (by assumption))))).symm) | (rw [chk5_6R (by omega) (by assumption) (by omega) (by assumption) (by assumption) (by assumption) (by assumption)]; simp only [words5, named, valued]; grind))), hS19.kept (k := 0) rfl⟩
                      · refine J_q 80 rfl rfl rfl rfl (Q_move rfl rfl) ?_
                        refine J_q 81 rfl rfl rfl rfl (Q_not rfl rfl) ?_
                        refine J_q 82 rfl rfl rfl rfl (Q_move rfl rfl) ?_
                        refine J_no rfl rfl rfl ?_
                        refine J_no rfl rfl rfl ?_
                        refine J_no rfl rfl rfl ?_
                        refine J_q 86 rfl rfl rfl rfl (Q_pickF rfl rfl rfl) ?_
                        refine J_q 87 rfl rfl rfl rfl (Q_pickF rfl rfl rfl) ?_
                        refine J_nil (K_seq ?_)
                        refine C_false rfl ?_
                        refine C_skip (K_seq ?_)
                        refine C_seq ?_
                        refine C_seq ?_
                        refine C_region ?_
                        refine J_q 88 rfl rfl rfl rfl (Q_fa0 rfl rfl fo55_8) ?_
                        refine J_q 89 rfl rfl rfl rfl (Q_ldB1 (k := 1) hS19 rfl rfl rfl Try.isAgg9 rfl) ?_
                        refine J_q 90 rfl rfl rfl rfl (Q_lenS rfl rfl Try.underlying9) ?_
                        refine J_q 91 rfl rfl rfl rfl (Q_gtr rfl rfl rfl) ?_
                        refine J_nil (K_seq ?_)
                        refine C_if rfl (fun h21 => ?_) (fun h21 => ?_)
                        · refine C_seq ?_
                          refine C_region ?_
                          refine J_q 2 rfl rfl rfl rfl (Q_assign rfl rfl) ?_
                          refine J_nil (K_seq ?_)
                          refine C_ret (R_then (body_ret (res1 rfl rfl) ?_))
                          exact ⟨congrArg Ending.returned (eqI (by first | (exact (chk5_1 (by omega)).symm) | (exact (chk5_2 (by omega) (by assumption)).symm) | (exact (chk5_3 (by omega) (by assumption) (by omega)).symm) | (exact (chk5_4R (by omega) (by assumption) (by omega) (by assumption)).symm) | (exact (chk5_5R (by omega) (by assumption) (by omega) (by assumption) (by first | (exact .inl (by assumption)) | (exact .inr (.inl (by assumption))) | (exact .inr (.inr (by assumption))))).symm) | (rw [chk5_6R (by omega) (by assumption) (by omega) (by assumption) (by assumption) (by assumption) (by assumption)]; simp only [words5, named, valued]; grind))), hS19.kept (k := 0) rfl⟩
                        · refine C_skip (K_seq ?_)
                          refine C_seq ?_
                          refine C_seq ?_
                          refine C_region ?_
                          refine J_q 92 rfl rfl rfl rfl (Q_fa0 rfl rfl fo55_3) ?_
                          refine J_q 93 rfl rfl rfl rfl (Q_ldB1 (k := 1) hS19 rfl rfl rfl Try.isAgg3 rfl) ?_
                          refine J_q 94 rfl rfl rfl rfl (Q_neqN rfl rfl rfl) ?_
                          refine J_q 95 rfl rfl rfl rfl (Q_move rfl rfl) ?_
                          refine J_splitN 95 rfl (fun h22 => ?_) (fun h22 => ?_)
                          · refine J_q 96 rfl rfl rfl rfl (Q_fa0 rfl rfl fo55_3) ?_
                            refine J_q 97 rfl rfl rfl rfl (Q_ldB1 (k := 1) hS19 rfl rfl rfl Try.isAgg3 rfl) ?_
                            refine J_q 98 rfl rfl rfl rfl (Q_neqN rfl rfl rfl) ?_
                            refine J_q 99 rfl rfl rfl rfl (Q_pickT rfl rfl rfl) ?_
                            refine J_q 100 rfl rfl rfl rfl (Q_move rfl rfl) ?_
                            refine J_splitN 100 rfl (fun h23 => ?_) (fun h23 => ?_)
                            · refine J_q 101 rfl rfl rfl rfl (Q_fa0 rfl rfl fo55_8) ?_
                              refine J_q 102 rfl rfl rfl rfl (Q_ldB1 (k := 1) hS19 rfl rfl rfl Try.isAgg9 rfl) ?_
                              refine J_q 103 rfl rfl rfl rfl (Q_neqSN rfl rfl rfl) ?_
                              refine J_q 104 rfl rfl rfl rfl (Q_pickT rfl rfl rfl) ?_
                              refine J_nil (K_seq ?_)
                              refine C_ifN rfl (fun h24 => ?_) (fun h24 => ?_)
                              · refine C_seq ?_
                                refine C_region ?_
                                refine J_q 2 rfl rfl rfl rfl (Q_assign rfl rfl) ?_
                                refine J_nil (K_seq ?_)
                                refine C_ret (R_then (body_ret (res1 rfl rfl) ?_))
                                exact ⟨congrArg Ending.returned (eqI (by first | (exact (chk5_1 (by omega)).symm) | (exact (chk5_2 (by omega) (by assumption)).symm) | (exact (chk5_3 (by omega) (by assumption) (by omega)).symm) | (exact (chk5_4R (by omega) (by assumption) (by omega) (by assumption)).symm) | (exact (chk5_5R (by omega) (by assumption) (by omega) (by assumption) (by first | (exact .inl (by assumption)) | (exact .inr (.inl (by assumption))) | (exact .inr (.inr (by assumption))))).symm) | (rw [chk5_6R (by omega) (by assumption) (by omega) (by assumption) (by assumption) (by assumption) (by assumption)]; simp only [words5, named, valued]; grind))), hS19.kept (k := 0) rfl⟩
                              · refine C_skip (K_seq ?_)
                                refine C_seq ?_
                                refine C_region ?_
                                refine J_q 2 rfl rfl rfl rfl (Q_assign rfl rfl) ?_
                                refine J_nil (K_seq ?_)
                                refine C_ret (body_ret (res1 rfl rfl) ?_)
                                exact ⟨congrArg Ending.returned (eqI (by first | (exact (chk5_1 (by omega)).symm) | (exact (chk5_2 (by omega) (by assumption)).symm) | (exact (chk5_3 (by omega) (by assumption) (by omega)).symm) | (exact (chk5_4R (by omega) (by assumption) (by omega) (by assumption)).symm) | (exact (chk5_5R (by omega) (by assumption) (by omega) (by assumption) (by first | (exact .inl (by assumption)) | (exact .inr (.inl (by assumption))) | (exact .inr (.inr (by assumption))))).symm) | (rw [chk5_6R (by omega) (by assumption) (by omega) (by assumption) (by assumption) (by assumption) (by assumption)]; simp only [words5, named, valued]; grind))), hS19.kept (k := 0) rfl⟩
                            · refine J_no rfl rfl rfl ?_
                              refine J_no rfl rfl rfl ?_
                              refine J_no rfl rfl rfl ?_
                              refine J_q 104 rfl rfl rfl rfl (Q_pickF rfl rfl rfl) ?_
                              refine J_nil (K_seq ?_)
                              refine C_false rfl ?_
                              refine C_skip (K_seq ?_)
                              refine C_seq ?_
                              refine C_region ?_
                              refine J_q 2 rfl rfl rfl rfl (Q_assign rfl rfl) ?_
                              refine J_nil (K_seq ?_)
                              refine C_ret (body_ret (res1 rfl rfl) ?_)
                              exact ⟨congrArg Ending.returned (eqI (by first | (exact (chk5_1 (by omega)).symm) | (exact (chk5_2 (by omega) (by assumption)).symm) | (exact (chk5_3 (by omega) (by assumption) (by omega)).symm) | (exact (chk5_4R (by omega) (by assumption) (by omega) (by assumption)).symm) | (exact (chk5_5R (by omega) (by assumption) (by omega) (by assumption) (by first | (exact .inl (by assumption)) | (exact .inr (.inl (by assumption))) | (exact .inr (.inr (by assumption))))).symm) | (rw [chk5_6R (by omega) (by assumption) (by omega) (by assumption) (by assumption) (by assumption) (by assumption)]; simp only [words5, named, valued]; grind))), hS19.kept (k := 0) rfl⟩
                          · refine J_no rfl rfl rfl ?_
                            refine J_no rfl rfl rfl ?_
                            refine J_no rfl rfl rfl ?_
                            refine J_q 99 rfl rfl rfl rfl (Q_pickF rfl rfl rfl) ?_
                            refine J_q 100 rfl rfl rfl rfl (Q_move rfl rfl) ?_
                            refine J_no rfl rfl rfl ?_
                            refine J_no rfl rfl rfl ?_
                            refine J_no rfl rfl rfl ?_
                            refine J_q 104 rfl rfl rfl rfl (Q_pickF rfl rfl rfl) ?_
                            refine J_nil (K_seq ?_)
                            refine C_false rfl ?_
                            refine C_skip (K_seq ?_)
                            refine C_seq ?_
                            refine C_region ?_
                            refine J_q 2 rfl rfl rfl rfl (Q_assign rfl rfl) ?_
                            refine J_nil (K_seq ?_)
                            refine C_ret (body_ret (res1 rfl rfl) ?_)
                            exact ⟨congrArg Ending.returned (eqI (by first | (exact (chk5_1 (by omega)).symm) | (exact (chk5_2 (by omega) (by assumption)).symm) | (exact (chk5_3 (by omega) (by assumption) (by omega)).symm) | (exact (chk5_4R (by omega) (by assumption) (by omega) (by assumption)).symm) | (exact (chk5_5R (by omega) (by assumption) (by omega) (by assumption) (by first | (exact .inl (by assumption)) | (exact .inr (.inl (by assumption))) | (exact .inr (.inr (by assumption))))).symm) | (rw [chk5_6R (by omega) (by assumption) (by omega) (by assumption) (by assumption) (by assumption) (by assumption)]; simp only [words5, named, valued]; grind))), hS19.kept (k := 0) rfl⟩
                    · refine J_q 63 rfl rfl rfl rfl (Q_fa0 rfl rfl fo55_3) ?_
                      refine J_q 64 rfl rfl rfl rfl (Q_ldB1 (k := 1) hS16 rfl rfl rfl Try.isAgg3 rfl) ?_
                      refine J_q 65 rfl rfl rfl rfl (Q_eql rfl rfl rfl) ?_
                      refine J_q 66 rfl rfl rfl rfl (Q_pickF rfl rfl rfl) ?_
                      refine J_q 67 rfl rfl rfl rfl (Q_move rfl rfl) ?_
                      refine J_split 67 rfl (fun h25 => ?_) (fun h25 => ?_)
                      · refine J_no rfl rfl rfl ?_
                        refine J_no rfl rfl rfl ?_
                        refine J_no rfl rfl rfl ?_
                        refine J_q 71 rfl rfl rfl rfl (Q_pickT rfl rfl rfl) ?_
                        refine J_q 3 rfl rfl rfl rfl (Q_assign rfl rfl) ?_
                        refine J_nil (K_seq ?_)
                        refine C_seq ?_
                        refine C_seq ?_
                        refine C_region ?_
                        refine J_q 72 rfl rfl rfl rfl (Q_move rfl rfl) ?_
                        refine J_q 73 rfl rfl rfl rfl (Q_move rfl rfl) ?_
                        refine J_q 74 rfl rfl rfl rfl (Q_fa0 rfl rfl fo55_7) ?_
                        refine J_q 75 rfl rfl rfl rfl (Q_ldB1 (k := 1) hS16 rfl rfl rfl Try.isAgg9 rfl) ?_
                        refine J_call 76 rfl rfl rfl rfl (T_call rfl rfl rfl Try.call111) (RName_calls _ c.name ho_c.name) ?_
                        rintro _ w26 ⟨rfl, hk26⟩
                        have hS26 := hS16.kp0 hk26
                        refine ⟨_, rfl, ?_⟩
                        refine J_q 77 rfl rfl rfl rfl (Q_not rfl rfl) ?_
                        refine J_q 78 rfl rfl rfl rfl (Q_pickT rfl rfl rfl) ?_
                        refine J_q 79 rfl rfl rfl rfl (Q_move rfl rfl) ?_
                        refine J_splitN 79 rfl (fun h27 => ?_) (fun h27 => ?_)
                        · refine J_no rfl rfl rfl ?_
                          refine J_no rfl rfl rfl ?_
                          refine J_noU 82 rfl rfl rfl rfl ?_
                          refine J_no rfl rfl rfl ?_
                          refine J_no rfl rfl rfl ?_
                          refine J_no rfl rfl rfl ?_
                          refine J_no rfl rfl rfl ?_
                          refine J_q 87 rfl rfl rfl rfl (Q_pickT rfl rfl rfl) ?_
                          refine J_nil (K_seq ?_)
                          refine C_true rfl ?_
                          refine C_seq ?_
                          refine C_region ?_
                          refine J_q 2 rfl rfl rfl rfl (Q_assign rfl rfl) ?_
                          refine J_nil (K_seq ?_)
                          refine C_ret (R_then (body_ret (res1 rfl rfl) ?_))
                          exact ⟨congrArg Ending.returned (eqI (by first | (exact (chk5_1 (by omega)).symm) | (exact (chk5_2 (by omega) (by assumption)).symm) | (exact (chk5_3 (by omega) (by assumption) (by omega)).symm) | (exact (chk5_4R (by omega) (by assumption) (by omega) (by assumption)).symm) | (exact (chk5_5R (by omega) (by assumption) (by omega) (by assumption) (by first | (exact .inl (by assumption)) | (exact .inr (.inl (by assumption))) | (exact .inr (.inr (by assumption))))).symm) | (rw [chk5_6R (by omega) (by assumption) (by omega) (by assumption) (by assumption) (by assumption) (by assumption)]; simp only [words5, named, valued]; grind))), hS26.kept (k := 0) rfl⟩
                        · refine J_q 80 rfl rfl rfl rfl (Q_move rfl rfl) ?_
                          refine J_q 81 rfl rfl rfl rfl (Q_not rfl rfl) ?_
                          refine J_q 82 rfl rfl rfl rfl (Q_move rfl rfl) ?_
                          refine J_no rfl rfl rfl ?_
                          refine J_no rfl rfl rfl ?_
                          refine J_no rfl rfl rfl ?_
                          refine J_q 86 rfl rfl rfl rfl (Q_pickF rfl rfl rfl) ?_
                          refine J_q 87 rfl rfl rfl rfl (Q_pickF rfl rfl rfl) ?_
                          refine J_nil (K_seq ?_)
                          refine C_false rfl ?_
                          refine C_skip (K_seq ?_)
                          refine C_seq ?_
                          refine C_seq ?_
                          refine C_region ?_
                          refine J_q 88 rfl rfl rfl rfl (Q_fa0 rfl rfl fo55_8) ?_
                          refine J_q 89 rfl rfl rfl rfl (Q_ldB1 (k := 1) hS26 rfl rfl rfl Try.isAgg9 rfl) ?_
                          refine J_q 90 rfl rfl rfl rfl (Q_lenS rfl rfl Try.underlying9) ?_
                          refine J_q 91 rfl rfl rfl rfl (Q_gtr rfl rfl rfl) ?_
                          refine J_nil (K_seq ?_)
                          refine C_if rfl (fun h28 => ?_) (fun h28 => ?_)
                          · refine C_seq ?_
                            refine C_region ?_
                            refine J_q 2 rfl rfl rfl rfl (Q_assign rfl rfl) ?_
                            refine J_nil (K_seq ?_)
                            refine C_ret (R_then (body_ret (res1 rfl rfl) ?_))
                            exact ⟨congrArg Ending.returned (eqI (by first | (exact (chk5_1 (by omega)).symm) | (exact (chk5_2 (by omega) (by assumption)).symm) | (exact (chk5_3 (by omega) (by assumption) (by omega)).symm) | (exact (chk5_4R (by omega) (by assumption) (by omega) (by assumption)).symm) | (exact (chk5_5R (by omega) (by assumption) (by omega) (by assumption) (by first | (exact .inl (by assumption)) | (exact .inr (.inl (by assumption))) | (exact .inr (.inr (by assumption))))).symm) | (rw [chk5_6R (by omega) (by assumption) (by omega) (by assumption) (by assumption) (by assumption) (by assumption)]; simp only [words5, named, valued]; grind))), hS26.kept (k := 0) rfl⟩
                          · refine C_skip (K_seq ?_)
                            refine C_seq ?_
                            refine C_seq ?_
                            refine C_region ?_
                            refine J_q 92 rfl rfl rfl rfl (Q_fa0 rfl rfl fo55_3) ?_
                            refine J_q 93 rfl rfl rfl rfl (Q_ldB1 (k := 1) hS26 rfl rfl rfl Try.isAgg3 rfl) ?_
                            refine J_q 94 rfl rfl rfl rfl (Q_neqN rfl rfl rfl) ?_
                            refine J_q 95 rfl rfl rfl rfl (Q_move rfl rfl) ?_
                            refine J_setNF 95 rfl h25 ?_
                            refine J_no rfl rfl rfl ?_
                            refine J_no rfl rfl rfl ?_
                            refine J_no rfl rfl rfl ?_
                            refine J_q 99 rfl rfl rfl rfl (Q_pickF rfl rfl rfl) ?_
                            refine J_q 100 rfl rfl rfl rfl (Q_move rfl rfl) ?_
                            refine J_no rfl rfl rfl ?_
                            refine J_no rfl rfl rfl ?_
                            refine J_no rfl rfl rfl ?_
                            refine J_q 104 rfl rfl rfl rfl (Q_pickF rfl rfl rfl) ?_
                            refine J_nil (K_seq ?_)
                            refine C_false rfl ?_
                            refine C_skip (K_seq ?_)
                            refine C_seq ?_
                            refine C_region ?_
                            refine J_q 2 rfl rfl rfl rfl (Q_assign rfl rfl) ?_
                            refine J_nil (K_seq ?_)
                            refine C_ret (body_ret (res1 rfl rfl) ?_)
                            exact ⟨congrArg Ending.returned (eqI (by first | (exact (chk5_1 (by omega)).symm) | (exact (chk5_2 (by omega) (by assumption)).symm) | (exact (chk5_3 (by omega) (by assumption) (by omega)).symm) | (exact (chk5_4R (by omega) (by assumption) (by omega) (by assumption)).symm) | (exact (chk5_5R (by omega) (by assumption) (by omega) (by assumption) (by first | (exact .inl (by assumption)) | (exact .inr (.inl (by assumption))) | (exact .inr (.inr (by assumption))))).symm) | (rw [chk5_6R (by omega) (by assumption) (by omega) (by assumption) (by assumption) (by assumption) (by assumption)]; simp only [words5, named, valued]; grind))), hS26.kept (k := 0) rfl⟩
                      · refine J_q 68 rfl rfl rfl rfl (Q_fa0 rfl rfl fo55_3) ?_
                        refine J_q 69 rfl rfl rfl rfl (Q_ldB1 (k := 1) hS16 rfl rfl rfl Try.isAgg3 rfl) ?_
                        refine J_q 70 rfl rfl rfl rfl (Q_eql rfl rfl rfl) ?_
                        refine J_q 71 rfl rfl rfl rfl (Q_pickF rfl rfl rfl) ?_
                        refine J_q 3 rfl rfl rfl rfl (Q_assign rfl rfl) ?_
                        refine J_nil (K_seq ?_)
                        refine C_seq ?_
                        refine C_seq ?_
                        refine C_region ?_
                        refine J_q 72 rfl rfl rfl rfl (Q_move rfl rfl) ?_
                        refine J_q 73 rfl rfl rfl rfl (Q_move rfl rfl) ?_
                        refine J_split 73 rfl (fun h29 => ?_) (fun h29 => ?_)
                        · refine J_q 74 rfl rfl rfl rfl (Q_fa0 rfl rfl fo55_7) ?_
                          refine J_q 75 rfl rfl rfl rfl (Q_ldB1 (k := 1) hS16 rfl rfl rfl Try.isAgg9 rfl) ?_
                          refine J_call 76 rfl rfl rfl rfl (T_call rfl rfl rfl Try.call111) (RName_calls _ c.name ho_c.name) ?_
                          rintro _ w30 ⟨rfl, hk30⟩
                          have hS30 := hS16.kp0 hk30
                          refine ⟨_, rfl, ?_⟩
                          refine J_q 77 rfl rfl rfl rfl (Q_not rfl rfl) ?_
                          refine J_q 78 rfl rfl rfl rfl (Q_pickT rfl rfl rfl) ?_
                          refine J_q 79 rfl rfl rfl rfl (Q_move rfl rfl) ?_
                          refine J_splitN 79 rfl (fun h31 => ?_) (fun h31 => ?_)
                          · refine J_no rfl rfl rfl ?_
                            refine J_no rfl rfl rfl ?_
                            refine J_noU 82 rfl rfl rfl rfl ?_
                            refine J_no rfl rfl rfl ?_
                            refine J_no rfl rfl rfl ?_
                            refine J_no rfl rfl rfl ?_
                            refine J_no rfl rfl rfl ?_
                            refine J_q 87 rfl rfl rfl rfl (Q_pickT rfl rfl rfl) ?_
                            refine J_nil (K_seq ?_)
                            refine C_true rfl ?_
                            refine C_seq ?_
                            refine C_region ?_
                            refine J_q 2 rfl rfl rfl rfl (Q_assign rfl rfl) ?_
                            refine J_nil (K_seq ?_)
                            refine C_ret (R_then (body_ret (res1 rfl rfl) ?_))
                            exact ⟨congrArg Ending.returned (eqI (by first | (exact (chk5_1 (by omega)).symm) | (exact (chk5_2 (by omega) (by assumption)).symm) | (exact (chk5_3 (by omega) (by assumption) (by omega)).symm) | (exact (chk5_4R (by omega) (by assumption) (by omega) (by assumption)).symm) | (exact (chk5_5R (by omega) (by assumption) (by omega) (by assumption) (by first | (exact .inl (by assumption)) | (exact .inr (.inl (by assumption))) | (exact .inr (.inr (by assumption))))).symm) | (rw [chk5_6R (by omega) (by assumption) (by omega) (by assumption) (by assumption) (by assumption) (by assumption)]; simp only [words5, named, valued]; grind))), hS30.kept (k := 0) rfl⟩
                          · refine J_q 80 rfl rfl rfl rfl (Q_move rfl rfl) ?_
                            refine J_q 81 rfl rfl rfl rfl (Q_not rfl rfl) ?_
                            refine J_q 82 rfl rfl rfl rfl (Q_move rfl rfl) ?_
                            refine J_setNF 82 rfl h29 ?_
                            refine J_no rfl rfl rfl ?_
                            refine J_no rfl rfl rfl ?_
                            refine J_no rfl rfl rfl ?_
                            refine J_q 86 rfl rfl rfl rfl (Q_pickF rfl rfl rfl) ?_
                            refine J_q 87 rfl rfl rfl rfl (Q_pickF rfl rfl rfl) ?_
                            refine J_nil (K_seq ?_)
                            refine C_false rfl ?_
                            refine C_skip (K_seq ?_)
                            refine C_seq ?_
                            refine C_seq ?_
                            refine C_region ?_
                            refine J_q 88 rfl rfl rfl rfl (Q_fa0 rfl rfl fo55_8) ?_
                            refine J_q 89 rfl rfl rfl rfl (Q_ldB1 (k := 1) hS30 rfl rfl rfl Try.isAgg9 rfl) ?_
                            refine J_q 90 rfl rfl rfl rfl (Q_lenS rfl rfl Try.underlying9) ?_
                            refine J_q 91 rfl rfl rfl rfl (Q_gtr rfl rfl rfl) ?_
                            refine J_nil (K_seq ?_)
                            refine C_if rfl (fun h32 => ?_) (fun h32 => ?_)
                            · refine C_seq ?_
                              refine C_region ?_
                              refine J_q 2 rfl rfl rfl rfl (Q_assign rfl rfl) ?_
                              refine J_nil (K_seq ?_)
                              refine C_ret (R_then (body_ret (res1 rfl rfl) ?_))
                              exact ⟨congrArg Ending.returned (eqI (by first | (exact (chk5_1 (by omega)).symm) | (exact (chk5_2 (by omega) (by assumption)).symm) | (exact (chk5_3 (by omega) (by assumption) (by omega)).symm) | (exact (chk5_4R (by omega) (by assumption) (by omega) (by assumption)).symm) | (exact (chk5_5R (by omega) (by assumption) (by omega) (by assumption) (by first | (exact .inl (by assumption)) | (exact .inr (.inl (by assumption))) | (exact .inr (.inr (by assumption))))).symm) | (rw [chk5_6R (by omega) (by assumption) (by omega) (by assumption) (by assumption) (by assumption) (by assumption)]; simp only [words5, named, valued]; grind))), hS30.kept (k := 0) rfl⟩
                            · refine C_skip (K_seq ?_)
                              refine C_seq ?_
                              refine C_seq ?_
                              refine C_region ?_
                              refine J_q 92 rfl rfl rfl rfl (Q_fa0 rfl rfl fo55_3) ?_
                              refine J_q 93 rfl rfl rfl rfl (Q_ldB1 (k := 1) hS30 rfl rfl rfl Try.isAgg3 rfl) ?_
                              refine J_q 94 rfl rfl rfl rfl (Q_neqN rfl rfl rfl) ?_
                              refine J_q 95 rfl rfl rfl rfl (Q_move rfl rfl) ?_
                              refine J_setNT 95 rfl h25 ?_
                              refine J_q 96 rfl rfl rfl rfl (Q_fa0 rfl rfl fo55_3) ?_
                              refine J_q 97 rfl rfl rfl rfl (Q_ldB1 (k := 1) hS30 rfl rfl rfl Try.isAgg3 rfl) ?_
                              refine J_q 98 rfl rfl rfl rfl (Q_neqN rfl rfl rfl) ?_
                              refine J_q 99 rfl rfl rfl rfl (Q_pickT rfl rfl rfl) ?_
                              refine J_q 100 rfl rfl rfl rfl (Q_move rfl rfl) ?_
                              refine J_splitN 100 rfl (fun h33 => ?_) (fun h33 => ?_)
                              · refine J_q 101 rfl rfl rfl rfl (Q_fa0 rfl rfl fo55_8) ?_
                                refine J_q 102 rfl rfl rfl rfl (Q_ldB1 (k := 1) hS30 rfl rfl rfl Try.isAgg9 rfl) ?_
                                refine J_q 103 rfl rfl rfl rfl (Q_neqSN rfl rfl rfl) ?_
                                refine J_q 104 rfl rfl rfl rfl (Q_pickT rfl rfl rfl) ?_
                                refine J_nil (K_seq ?_)
                                refine C_ifN rfl (fun h34 => ?_) (fun h34 => ?_)
                                · refine C_seq ?_
                                  refine C_region ?_
                                  refine J_q 2 rfl rfl rfl rfl (Q_assign rfl rfl) ?_
                                  refine J_nil (K_seq ?_)
                                  refine C_ret (R_then (body_ret (res1 rfl rfl) ?_))
                                  exact ⟨congrArg Ending.returned (eqI (by first | (exact (chk5_1 (by omega)).symm) | (exact (chk5_2 (by omega) (by assumption)).symm) | (exact (chk5_3 (by omega) (by assumption) (by omega)).symm) | (exact (chk5_4R (by omega) (by assumption) (by omega) (by assumption)).symm) | (exact (chk5_5R (by omega) (by assumption) (by omega) (by assumption) (by first | (exact .inl (by assumption)) | (exact .inr (.inl (by assumption))) | (exact .inr (.inr (by assumption))))).symm) | (rw [chk5_6R (by omega) (by assumption) (by omega) (by assumption) (by assumption) (by assumption) (by assumption)]; simp only [words5, named, valued]; grind))), hS30.kept (k := 0) rfl⟩
                                · refine C_skip (K_seq ?_)
                                  refine C_seq ?_
                                  refine C_region ?_
                                  refine J_q 2 rfl rfl rfl rfl (Q_assign rfl rfl) ?_
                                  refine J_nil (K_seq ?_)
                                  refine C_ret (body_ret (res1 rfl rfl) ?_)
                                  exact ⟨congrArg Ending.returned (eqI (by first | (exact (chk5_1 (by omega)).symm) | (exact (chk5_2 (by omega) (by assumption)).symm) | (exact (chk5_3 (by omega) (by assumption) (by omega)).symm) | (exact (chk5_4R (by omega) (by assumption) (by omega) (by assumption)).symm) | (exact (chk5_5R (by omega) (by assumption) (by omega) (by assumption) (by first | (exact .inl (by assumption)) | (exact .inr (.inl (by assumption))) | (exact .inr (.inr (by assumption))))).symm) | (rw [chk5_6R (by omega) (by assumption) (by omega) (by assumption) (by assumption) (by assumption) (by assumption)]; simp only [words5, named, valued]; grind))), hS30.kept (k := 0) rfl⟩
                              · refine J_no rfl rfl rfl ?_
                                refine J_no rfl rfl rfl ?_
                                refine J_no rfl rfl rfl ?_
                                refine J_q 104 rfl rfl rfl rfl (Q_pickF rfl rfl rfl) ?_
                                refine J_nil (K_seq ?_)
                                refine C_false rfl ?_
                                refine C_skip (K_seq ?_)
                                refine C_seq ?_
                                refine C_region ?_
                                refine J_q 2 rfl rfl rfl rfl (Q_assign rfl rfl) ?_
                                refine J_nil (K_seq ?_)
                                refine C_ret (body_ret (res1 rfl rfl) ?_)
                                exact ⟨congrArg Ending.returned (eqI (by first | (exact (chk5_1 (by omega)).symm) | (exact (chk5_2 (by omega) (by assumption)).symm) | (exact (chk5_3 (by omega) (by assumption) (by omega)).symm) | (exact (chk5_4R (by omega) (by assumption) (by omega) (by assumption)).symm) | (exact (chk5_5R (by omega) (by assumption) (by omega) (by assumption) (by first | (exact .inl (by assumption)) | (exact .inr (.inl (by assumption))) | (exact .inr (.inr (by assumption))))).symm) | (rw [chk5_6R (by omega) (by assumption) (by omega) (by assumption) (by assumption) (by assumption) (by assumption)]; simp only [words5, named, valued]; grind))), hS30.kept (k := 0) rfl⟩
                        · refine J_no rfl rfl rfl ?_
                          refine J_no rfl rfl rfl ?_
                          refine J_no rfl rfl rfl ?_
                          refine J_no rfl rfl rfl ?_
                          refine J_q 78 rfl rfl rfl rfl (Q_pickF rfl rfl rfl) ?_
                          refine J_q 79 rfl rfl rfl rfl (Q_move rfl rfl) ?_
                          refine J_q 80 rfl rfl rfl rfl (Q_move rfl rfl) ?_
                          refine J_q 81 rfl rfl rfl rfl (Q_not rfl rfl) ?_
                          refine J_q 82 rfl rfl rfl rfl (Q_move rfl rfl) ?_
                          refine J_setNT 82 rfl h29 ?_
                          refine J_q 83 rfl rfl rfl rfl (Q_fa0 rfl rfl fo55_7) ?_
                          refine J_q 84 rfl rfl rfl rfl (Q_ldB1 (k := 1) hS16 rfl rfl rfl Try.isAgg9 rfl) ?_
                          refine J_q 85 rfl rfl rfl rfl (Q_neqSN rfl rfl rfl) ?_
                          refine J_q 86 rfl rfl rfl rfl (Q_pickT rfl rfl rfl) ?_
                          refine J_q 87 rfl rfl rfl rfl (Q_pickF rfl rfl rfl) ?_
                          refine J_nil (K_seq ?_)
                          refine C_ifN rfl (fun h35 => ?_) (fun h35 => ?_)
                          · refine C_seq ?_
                            refine C_region ?_
                            refine J_q 2 rfl rfl rfl rfl (Q_assign rfl rfl) ?_
                            refine J_nil (K_seq ?_)
                            refine C_ret (R_then (body_ret (res1 rfl rfl) ?_))
                            exact ⟨congrArg Ending.returned (eqI (by first | (exact (chk5_1 (by omega)).symm) | (exact (chk5_2 (by omega) (by assumption)).symm) | (exact (chk5_3 (by omega) (by assumption) (by omega)).symm) | (exact (chk5_4R (by omega) (by assumption) (by omega) (by assumption)).symm) | (exact (chk5_5R (by omega) (by assumption) (by omega) (by assumption) (by first | (exact .inl (by assumption)) | (exact .inr (.inl (by assumption))) | (exact .inr (.inr (by assumption))))).symm) | (rw [chk5_6R (by omega) (by assumption) (by omega) (by assumption) (by assumption) (by assumption) (by assumption)]; simp only [words5, named, valued]; grind))), hS16.kept (k := 0) rfl⟩
                          · refine C_skip (K_seq ?_)
                            refine C_seq ?_
                            refine C_seq ?_
                            refine C_region ?_
                            refine J_q 88 rfl rfl rfl rfl (Q_fa0 rfl rfl fo55_8) ?_
                            refine J_q 89 rfl rfl rfl rfl (Q_ldB1 (k := 1) hS16 rfl rfl rfl Try.isAgg9 rfl) ?_
                            refine J_q 90 rfl rfl rfl rfl (Q_lenS rfl rfl Try.underlying9) ?_
                            refine J_q 91 rfl rfl rfl rfl (Q_gtr rfl rfl rfl) ?_
                            refine J_nil (K_seq ?_)
                            refine C_if rfl (fun h36 => ?_) (fun h36 => ?_)
                            · refine C_seq ?_
                              refine C_region ?_
                              refine J_q 2 rfl rfl rfl rfl (Q_assign rfl rfl) ?_
                              refine J_nil (K_seq ?_)
                              refine C_ret (R_then (body_ret (res1 rfl rfl) ?_))
                              exact ⟨congrArg Ending.returned (eqI (by first | (exact (chk5_1 (by omega)).symm) | (exact (chk5_2 (by omega) (by assumption)).symm) | (exact (chk5_3 (by omega) (by assumption) (by omega)).symm) | (exact (chk5_4R (by omega) (by assumption) (by omega) (by assumption)).symm) | (exact (chk5_5R (by omega) (by assumption) (by omega) (by assumption) (by first | (exact .inl (by assumption)) | (exact .inr (.inl (by assumption))) | (exact .inr (.inr (by assumption))))).symm) | (rw [chk5_6R (by omega) (by assumption) (by omega) (by assumption) (by assumption) (by assumption) (by assumption)]; simp only [words5, named, valued]; grind))), hS16.kept (k := 0) rfl⟩
                            · refine C_skip (K_seq ?_)
                              refine C_seq ?_
                              refine C_seq ?_
                              refine C_region ?_
                              refine J_q 92 rfl rfl rfl rfl (Q_fa0 rfl rfl fo55_3) ?_
                              refine J_q 93 rfl rfl rfl rfl (Q_ldB1 (k := 1) hS16 rfl rfl rfl Try.isAgg3 rfl) ?_
                              refine J_q 94 rfl rfl rfl rfl (Q_neqN rfl rfl rfl) ?_
                              refine J_q 95 rfl rfl rfl rfl (Q_move rfl rfl) ?_
                              refine J_setNT 95 rfl h25 ?_
                              refine J_q 96 rfl rfl rfl rfl (Q_fa0 rfl rfl fo55_3) ?_
                              refine J_q 97 rfl rfl rfl rfl (Q_ldB1 (k := 1) hS16 rfl rfl rfl Try.isAgg3 rfl) ?_
                              refine J_q 98 rfl rfl rfl rfl (Q_neqN rfl rfl rfl) ?_
                              refine J_q 99 rfl rfl rfl rfl (Q_pickT rfl rfl rfl) ?_
                              refine J_q 100 rfl rfl rfl rfl (Q_move rfl rfl) ?_
                              refine J_splitN 100 rfl (fun h37 => ?_) (fun h37 => ?_)
                              · refine J_q 101 rfl rfl rfl rfl (Q_fa0 rfl rfl fo55_8) ?_
                                refine J_q 102 rfl rfl rfl rfl (Q_ldB1 (k := 1) hS16 rfl rfl rfl Try.isAgg9 rfl) ?_
                                refine J_q 103 rfl rfl rfl rfl (Q_neqSN rfl rfl rfl) ?_
                                refine J_q 104 rfl rfl rfl rfl (Q_pickT rfl rfl rfl) ?_
                                refine J_nil (K_seq ?_)
                                refine C_ifN rfl (fun h38 => ?_) (fun h38 => ?_)
                                · refine C_seq ?_
                                  refine C_region ?_
                                  refine J_q 2 rfl rfl rfl rfl (Q_assign rfl rfl) ?_
                                  refine J_nil (K_seq ?_)
                                  refine C_ret (R_then (body_ret (res1 rfl rfl) ?_))
                                  exact ⟨congrArg Ending.returned (eqI (by first | (exact (chk5_1 (by omega)).symm) | (exact (chk5_2 (by omega) (by assumption)).symm) | (exact (chk5_3 (by omega) (by assumption) (by omega)).symm) | (exact (chk5_4R (by omega) (by assumption) (by omega) (by assumption)).symm) | (exact (chk5_5R (by omega) (by assumption) (by omega) (by assumption) (by first | (exact .inl (by assumption)) | (exact .inr (.inl (by assumption))) | (exact .inr (.inr (by assumption))))).symm) | (rw [chk5_6R (by omega) (by assumption) (by omega) (by assumption) (by assumption) (by assumption) (by assumption)]; simp only [words5, named, valued]; grind))), hS16.kept (k := 0) rfl⟩
                                · refine C_skip (K_seq ?_)
                                  refine C_seq ?_
                                  refine C_region ?_
                                  refine J_q 2 rfl rfl rfl rfl (Q_assign rfl rfl) ?_
                                  refine J_nil (K_seq ?_)
                                  refine C_ret (body_ret (res1 rfl rfl) ?_)
                                  exact ⟨congrArg Ending.returned (eqI (by first | (exact (chk5_1 (by omega)).symm) | (exact (chk5_2 (by omega) (by assumption)).symm) | (exact (chk5_3 (by omega) (by assumption) (by omega)).symm) | (exact (chk5_4R (by omega) (by assumption) (by omega) (by assumption)).symm) | (exact (chk5_5R (by omega) (by assumption) (by omega) (by assumption) (by first | (exact .inl (by assumption)) | (exact .inr (.inl (by assumption))) | (exact .inr (.inr (by assumption))))).symm) | (rw [chk5_6R (by omega) (by assumption) (by omega) (by assumption) (by assumption) (by assumption) (by assumption)]; simp only [words5, named, valued]; grind))), hS16.kept (k := 0) rfl⟩
                              · refine J_no rfl rfl rfl ?_
                                refine J_no rfl rfl rfl ?_
                                refine J_no rfl rfl rfl ?_
                                refine J_q 104 rfl rfl rfl rfl (Q_pickF rfl rfl rfl) ?_
                                refine J_nil (K_seq ?_)
                                refine C_false rfl ?_
                                refine C_skip (K_seq ?_)
                                refine C_seq ?_
                                refine C_region ?_
                                refine J_q 2 rfl rfl rfl rfl (Q_assign rfl rfl) ?_
                                refine J_nil (K_seq ?_)
                                refine C_ret (body_ret (res1 rfl rfl) ?_)
                                exact ⟨congrArg Ending.returned (eqI (by first | (exact (chk5_1 (by omega)).symm) | (exact (chk5_2 (by omega) (by assumption)).symm) | (exact (chk5_3 (by omega) (by assumption) (by omega)).symm) | (exact (chk5_4R (by omega) (by assumption) (by omega) (by assumption)).symm) | (exact (chk5_5R (by omega) (by assumption) (by omega) (by assumption) (by first | (exact .inl (by assumption)) | (exact .inr (.inl (by assumption))) | (exact .inr (.inr (by assumption))))).symm) | (rw [chk5_6R (by omega) (by assumption) (by omega) (by assumption) (by assumption) (by assumption) (by assumption)]; simp only [words5, named, valued]; grind))), hS16.kept (k := 0) rfl⟩
end Go.Proofs.Ytceeellnjckmiaa

/- Printed by a program of mine (gen.py). -/
set_option maxRecDepth 100000
namespace Go.Proofs.Ytceeellnjckmiaa
open Go Go.Sl
theorem place1_calls (w : World) (l_c : List Value) (c : Change) (h_c : tCh.rd w l_c c) (s : Stamp) :
    Calls Try.prog 105 #[.agg l_c.toArray, .agg (stL s).toArray] w fun e w' => e = .returned (.int .i64 (cmp c.at_ s)) ∧ Kp no w w' := by
  have hS0 := St.start w
  have hF_c := RdF.of_rd h_c
  obtain ⟨A_c, cap_c, rfl, hd_c, ho_c⟩ := openCh hF_c
  have hln_c := RdF.lens hd_c
  have hsq_c := ho_c.seq
  refine fn_calls' 9 (args := [_, _]) Try.func105 rfl rfl rfl ?_
  refine C_seq ?_
  refine C_region ?_
  refine J_do 2 rfl rfl rfl rfl (D_box 1 hS0 rfl rfl (fun g1 w1 hS1 => ?_))
  refine J_do 3 rfl rfl rfl rfl (D_box 2 hS1 rfl rfl (fun g2 w2 hS2 => ?_))
  refine J_q 4 rfl rfl rfl rfl (Q_assign rfl rfl) ?_
  refine J_nil (K_seq ?_)
  refine C_seq ?_
  refine C_region ?_
  refine J_q 5 rfl rfl rfl rfl (Q_fa0 rfl rfl fo55_0) ?_
  refine J_q 6 rfl rfl rfl rfl (Q_ldBK (k := 1) (stL c.at_) hS2 rfl rfl rfl Try.isAgg23 Try.sizeOf23 rfl rfl) ?_
  refine J_q 7 rfl rfl rfl rfl (Q_ldBK' (k := 2) (stL s) hS2 rfl rfl rfl Try.isAgg23 Try.sizeOf23 rfl rfl) ?_
  refine J_call 8 rfl rfl rfl rfl (T_call rfl rfl rfl Try.call63) (Compare_calls _ c.at_ s) ?_
  rintro _ w3 ⟨rfl, hk3⟩
  have hS3 := hS2.kp0 hk3
  refine ⟨_, rfl, ?_⟩
  refine J_q 4 rfl rfl rfl rfl (Q_assign rfl rfl) ?_
  refine J_nil (K_seq ?_)
  refine C_ret (body_ret (res1 rfl rfl) ?_)
  exact ⟨congrArg Ending.returned (eqI (by rfl)), hS3.kept (k := 0) rfl⟩

theorem BSearch_calls (w : World) (v_l : Value) (l : List Change) (h_l : (tSl tCh).rd w [v_l] l) (s : Stamp) (hr : Rising l) :
    Calls Try.prog 104 #[v_l, .agg (stL s).toArray, .func (.func 105) #[] #[]] w fun e w' => e = .returned (.tuple #[.int .i64 (posAt l s), .bool (decide (0 ≤ findAt l s))]) ∧ Kp no w w' := by
  have hS0 := St.start w
  have hF_l := RdF.of_rd h_l
  obtain ⟨A_l, cap_l, rfl, hc_l, hm_l⟩ := hF_l.slice
  refine fn_calls' 49 (args := [_, _, _]) Try.func104 rfl rfl rfl ?_
  refine C_seq ?_
  refine C_region ?_
  refine J_do 4 rfl rfl rfl rfl (D_box 1 hS0 rfl rfl (fun g1 w1 hS1 => ?_))
  refine J_q 6 rfl rfl rfl rfl (Q_assign rfl rfl) ?_
  refine J_q 7 rfl rfl rfl rfl (Q_assign rfl rfl) ?_
  refine J_nil (K_seq ?_)
  refine C_seq ?_
  refine C_region ?_
  refine J_q 12 rfl rfl rfl rfl (Q_move rfl rfl) ?_
  refine J_q 13 rfl rfl rfl rfl (Q_len rfl rfl Try.underlying43) ?_
  refine J_q 8 rfl rfl rfl rfl (Q_assign rfl rfl) ?_
  refine J_nil (K_seq ?_)
  refine C_seq ?_
  refine C_region ?_
  refine J_q 14 rfl rfl rfl rfl (Q_move rfl rfl) ?_
  refine J_q 9 rfl rfl rfl rfl (Q_assign rfl rfl) ?_
  refine J_q 10 rfl rfl rfl rfl (Q_assign rfl rfl) ?_
  refine J_nil (K_seq ?_)
  refine C_seq ?_
  refine C_block ?_
  refine C_loop2 (fun (i : Int) (j : Int) => (j - i).toNat) (fun (i : Int) (j : Int) => [(0, .slice A_l l.length cap_l), (1, .agg (stL s).toArray), (2, .func (.func 105) #[] #[]), (4, .pointer (some (⟨g1, 0, none⟩ : Addr))), (6, .int .i64 0), (7, .bool false), (12, .slice A_l l.length cap_l), (13, .int .i64 (l.length : Int)), (8, .int .i64 (l.length : Int)), (14, .int .i64 (l.length : Int)), (9, .int .i64 i), (10, .int .i64 j)]) (fun (i : Int) (j : Int) w' => (0 ≤ i) ∧ (i ≤ j) ∧ (j ≤ l.length) ∧ (Up i fun q => less (nth l q).at_ s) ∧ (∀ q : Int, j ≤ q → q < l.length → ¬ less (nth l q).at_ s) ∧ St w w' [(1, blkL g1 (stL s) 23), (0, fz w (lt_ w))]) 0 (l.length : Int) ⟨(by first | omega | exact Up.zero | (intro q hq0 hq1; omega)), (by first | omega | exact Up.zero | (intro q hq0 hq1; omega)), (by first | omega | exact Up.zero | (intro q hq0 hq1; omega)), (by first | omega | exact Up.zero | (intro q hq0 hq1; omega)), (by first | omega | exact Up.zero | (intro q hq0 hq1; omega)), hS1⟩ ⟨rfl, rfl, rfl, rfl, rfl, rfl, rfl, rfl, rfl, rfl, rfl, rfl, trivial⟩ ?_
  rintro i j w2 ⟨h0, hij, h1, hlo, hhi, hS2⟩
  refine C_seq ?_
  refine C_seq ?_
  refine C_region ?_
  refine J_q 15 rfl rfl rfl rfl (Q_move rfl rfl) ?_
  refine J_q 16 rfl rfl rfl rfl (Q_move rfl rfl) ?_
  refine J_q 17 rfl rfl rfl rfl (Q_lss rfl rfl rfl) ?_
  refine J_nil (K_seq ?_)
  refine C_if rfl (fun h3 => ?_) (fun h3 => ?_)
  · refine C_skip (K_seq ?_)
    refine C_block ?_
    refine C_seq ?_
    refine C_region ?_
    refine J_q 18 rfl rfl rfl rfl (Q_move rfl rfl) ?_
    refine J_q 19 rfl rfl rfl rfl (Q_move rfl rfl) ?_
    refine J_q 20 rfl rfl rfl rfl (Q_add rfl rfl rfl (by omega) (by omega)) ?_
    refine J_q 21 rfl rfl rfl rfl (Q_cvU rfl rfl Try.underlying3 Try.underlying88 (by omega)) ?_
    refine J_q 22 rfl rfl rfl rfl (Q_shr1 rfl rfl rfl) ?_
    refine J_q 23 rfl rfl rfl rfl (Q_cvI rfl rfl Try.underlying88 Try.underlying3 (by omega)) ?_
    refine J_q 11 rfl rfl rfl rfl (Q_assign rfl rfl) ?_
    refine J_nil (K_seq ?_)
    refine C_seq ?_
    refine C_draw (fun w' => St w w' [(1, blkL g1 (stL s) 23), (0, fz w (lt_ w))]) 8 mixedOrders 8 rfl (fun w4 hk4 => ?_)
    have hS4 := hS2.kp0 hk4
    refine JA_p 0 24 8 rfl rfl rfl rfl (by kernel_rfl) (by kernel_rfl) (fun _ => Q_move rfl rfl) ?_
    refine JA_p 1 25 8 rfl rfl rfl rfl (by kernel_rfl) (by kernel_rfl) (fun _ => Q_move rfl rfl) ?_
    refine JA_p 2 26 8 rfl rfl rfl rfl (by kernel_rfl) (by kernel_rfl) (fun _ => Q_move rfl rfl) ?_
    obtain ⟨ad5, es5, hA5, hr5, hc5⟩ := RdF.nth hF_l ((i + j) / 2) (by omega) (by omega)
    obtain ⟨A5, cap5, rfl, hd5, ho5⟩ := openCh hr5
    have hln5 := RdF.lens hd5
    have hsq5 := ho5.seq
    refine JA_p 3 27 8 rfl rfl rfl rfl (by kernel_rfl) (by kernel_rfl) (fun _ => Q_iaE hA5 rfl rfl rfl Try.underlying43 Try.sizeOf55 (by omega) (by omega)) ?_
    refine JA_q 4 28 rfl rfl rfl rfl (by kernel_rfl) (by kernel_rfl) hS4 (fun _ hI => Q_ldCK' (chL (nth l ((i + j) / 2)) A5 cap5) (hc5 _ (hI.get (k := 0) rfl)) rfl rfl Try.isAgg55 Try.sizeOf55 rfl rfl) ?_
    refine JA_q 5 29 rfl rfl rfl rfl (by kernel_rfl) (by kernel_rfl) hS4 (fun _ hI => Q_ldBK' (k := 1) (stL s) hI rfl rfl rfl Try.isAgg23 Try.sizeOf23 rfl rfl) ?_
    refine JA_call 6 30 rfl rfl rfl rfl (by kernel_rfl) (T_call rfl rfl rfl Try.call105) (place1_calls _ _ (nth l ((i + j) / 2)) (hS4.rd 0 rfl hr5) s) ?_
    rintro _ w6 ⟨rfl, hk6⟩
    have hS6 := hS4.kp0 hk6
    refine ⟨_, rfl, (fun _ => hS6), ?_⟩
    refine JA_p 7 31 8 rfl rfl rfl rfl (by kernel_rfl) (by kernel_rfl) (fun _ => Q_lss rfl rfl rfl) ?_
    refine JA_end (by kernel_rfl) (K_seq ?_)
    refine C_if rfl (fun h7 => ?_) (fun h7 => ?_)
    · refine C_region ?_
      refine J_q 32 rfl rfl rfl rfl (Q_move rfl rfl) ?_
      refine J_q 33 rfl rfl rfl rfl (Q_add rfl rfl rfl (by omega) (by omega)) ?_
      refine J_q 9 rfl rfl rfl rfl (Q_assign rfl rfl) ?_
      exact J_nil (N_blk (K_round2 (x0 := i) (x1 := j) (((i + j) / 2) + 1) j ⟨(by first | omega | assumption | (exact lo_up hr hlo h0 (by omega) (by omega) (by omega) (cmp_neg.1 (by assumption))) | (exact hi_up hr h0 (by omega) (by omega) (fun hh => absurd (cmp_neg.2 hh) (by assumption)))), (by first | omega | assumption | (exact lo_up hr hlo h0 (by omega) (by omega) (by omega) (cmp_neg.1 (by assumption))) | (exact hi_up hr h0 (by omega) (by omega) (fun hh => absurd (cmp_neg.2 hh) (by assumption)))), (by first | omega | assumption | (exact lo_up hr hlo h0 (by omega) (by omega) (by omega) (cmp_neg.1 (by assumption))) | (exact hi_up hr h0 (by omega) (by omega) (fun hh => absurd (cmp_neg.2 hh) (by assumption)))), (by first | omega | assumption | (exact lo_up hr hlo h0 (by omega) (by omega) (by omega) (cmp_neg.1 (by assumption))) | (exact hi_up hr h0 (by omega) (by omega) (fun hh => absurd (cmp_neg.2 hh) (by assumption)))), (by first | omega | assumption | (exact lo_up hr hlo h0 (by omega) (by omega) (by omega) (cmp_neg.1 (by assumption))) | (exact hi_up hr h0 (by omega) (by omega) (fun hh => absurd (cmp_neg.2 hh) (by assumption)))), hS6⟩ (by omega) ⟨rfl, rfl, rfl, rfl, rfl, rfl, rfl, rfl, rfl, rfl, rfl, rfl, trivial⟩))
    · refine C_region ?_
      refine J_q 34 rfl rfl rfl rfl (Q_move rfl rfl) ?_
      refine J_q 10 rfl rfl rfl rfl (Q_assign rfl rfl) ?_
      exact J_nil (N_blk (K_round2 (x0 := i) (x1 := j) i ((i + j) / 2) ⟨(by first | omega | assumption | (exact lo_up hr hlo h0 (by omega) (by omega) (by omega) (cmp_neg.1 (by assumption))) | (exact hi_up hr h0 (by omega) (by omega) (fun hh => absurd (cmp_neg.2 hh) (by assumption)))), (by first | omega | assumption | (exact lo_up hr hlo h0 (by omega) (by omega) (by omega) (cmp_neg.1 (by assumption))) | (exact hi_up hr h0 (by omega) (by omega) (fun hh => absurd (cmp_neg.2 hh) (by assumption)))), (by first | omega | assumption | (exact lo_up hr hlo h0 (by omega) (by omega) (by omega) (cmp_neg.1 (by assumption))) | (exact hi_up hr h0 (by omega) (by omega) (fun hh => absurd (cmp_neg.2 hh) (by assumption)))), (by first | omega | assumption | (exact lo_up hr hlo h0 (by omega) (by omega) (by omega) (cmp_neg.1 (by assumption))) | (exact hi_up hr h0 (by omega) (by omega) (fun hh => absurd (cmp_neg.2 hh) (by assumption)))), (by first | omega | assumption | (exact lo_up hr hlo h0 (by omega) (by omega) (by omega) (cmp_neg.1 (by assumption))) | (exact hi_up hr h0 (by omega) (by omega) (fun hh => absurd (cmp_neg.2 hh) (by assumption)))), hS6⟩ (by omega) ⟨rfl, rfl, rfl, rfl, rfl, rfl, rfl, rfl, rfl, rfl, rfl, rfl, trivial⟩))
  · refine C_exit (X_then (X_then (X_hit (K_seq ?_))))
    refine C_seq ?_
    refine C_draw (fun w' => St w w' [(1, blkL g1 (stL s) 23), (0, fz w (lt_ w))]) 16 mixedOrders 16 rfl (fun w8 hk8 => ?_)
    have hS8 := hS2.kp0 hk8
    refine JA_p 0 35 16 rfl rfl rfl rfl (by kernel_rfl) (by kernel_rfl) (fun _ => Q_move rfl rfl) ?_
    refine JA_p 1 36 16 rfl rfl rfl rfl (by kernel_rfl) (by kernel_rfl) (fun _ => Q_move rfl rfl) ?_
    refine JA_p 2 37 16 rfl rfl rfl rfl (by kernel_rfl) (by kernel_rfl) (fun _ => Q_move rfl rfl) ?_
    refine JA_p 3 38 16 rfl rfl rfl rfl (by kernel_rfl) (by kernel_rfl) (fun _ => Q_lss rfl rfl rfl) ?_
    refine JA_p 4 39 16 rfl rfl rfl rfl (by kernel_rfl) (by kernel_rfl) (fun _ => Q_move rfl rfl) ?_
    refine JA_split 39 rfl (fun h9 => ?_) (fun h9 => ?_)
    · refine JA_p 5 40 16 rfl rfl rfl rfl (by kernel_rfl) (by kernel_rfl) (fun _ => Q_move rfl rfl) ?_
      refine JA_p 6 41 16 rfl rfl rfl rfl (by kernel_rfl) (by kernel_rfl) (fun _ => Q_move rfl rfl) ?_
      refine JA_p 7 42 16 rfl rfl rfl rfl (by kernel_rfl) (by kernel_rfl) (fun _ => Q_move rfl rfl) ?_
      obtain ⟨ad10, es10, hA10, hr10, hc10⟩ := RdF.nth hF_l i (by omega) (by omega)
      obtain ⟨A10, cap10, rfl, hd10, ho10⟩ := openCh hr10
      have hln10 := RdF.lens hd10
      have hsq10 := ho10.seq
      refine JA_p 8 43 16 rfl rfl rfl rfl (by kernel_rfl) (by kernel_rfl) (fun _ => Q_iaE hA10 rfl rfl rfl Try.underlying43 Try.sizeOf55 (by omega) (by omega)) ?_
      refine JA_q 9 44 rfl rfl rfl rfl (by kernel_rfl) (by kernel_rfl) hS8 (fun _ hI => Q_ldCK' (chL (nth l i) A10 cap10) (hc10 _ (hI.get (k := 0) rfl)) rfl rfl Try.isAgg55 Try.sizeOf55 rfl rfl) ?_
      refine JA_q 10 45 rfl rfl rfl rfl (by kernel_rfl) (by kernel_rfl) hS8 (fun _ hI => Q_ldBK' (k := 1) (stL s) hI rfl rfl rfl Try.isAgg23 Try.sizeOf23 rfl rfl) ?_
      refine JA_call 11 46 rfl rfl rfl rfl (by kernel_rfl) (T_call rfl rfl rfl Try.call105) (place1_calls _ _ (nth l i) (hS8.rd 0 rfl hr10) s) ?_
      rintro _ w11 ⟨rfl, hk11⟩
      have hS11 := hS8.kp0 hk11
      refine ⟨_, rfl, (fun _ => hS11), ?_⟩
      refine JA_p 12 47 16 rfl rfl rfl rfl (by kernel_rfl) (by kernel_rfl) (fun _ => Q_eql rfl rfl rfl) ?_
      refine JA_p 13 48 16 rfl rfl rfl rfl (by kernel_rfl) (by kernel_rfl) (fun _ => Q_pickT rfl rfl rfl) ?_
      refine JA_p 14 6 16 rfl rfl rfl rfl (by kernel_rfl) (by kernel_rfl) (fun _ => Q_assign rfl rfl) ?_
      refine JA_p 15 7 16 rfl rfl rfl rfl (by kernel_rfl) (by kernel_rfl) (fun _ => Q_assign rfl rfl) ?_
      refine JA_end (by kernel_rfl) (K_seq ?_)
      refine C_ret (body_ret (res2 rfl rfl rfl) ?_)
      exact ⟨tup2 (eqI (by exact (posAt_eq h0 (by omega) hlo (fun hn => hhi _ (by omega) hn)).symm)) (eqB (by first | (refine (decide_eq_false ?_).symm; exact found_no hr h0 hlo (fun hn => hhi _ (by omega) hn) (fun hn => by omega)) | (refine decide_eq_decide.2 ⟨fun hc => found_yes h0 (by omega) (cmp_zero.1 hc), fun hf => ?_⟩; by_cases hc : cmp (nth l i).at_ s = 0; exact hc; exact absurd hf (found_no hr h0 hlo (fun hn => hhi _ (by omega) hn) (fun _ he => hc (cmp_zero.2 he)))))), hS11.kept (k := 0) rfl⟩
    · refine JA_no 5 16 rfl rfl rfl (by kernel_rfl) (by kernel_rfl) (fun _ h => by cases h; rfl) ?_
      refine JA_no 6 16 rfl rfl rfl (by kernel_rfl) (by kernel_rfl) (fun _ h => by cases h; rfl) ?_
      refine JA_no 7 16 rfl rfl rfl (by kernel_rfl) (by kernel_rfl) (fun _ h => by cases h; rfl) ?_
      refine JA_no 8 16 rfl rfl rfl (by kernel_rfl) (by kernel_rfl) (fun _ h => by cases h; rfl) ?_
      refine JA_no 9 16 rfl rfl rfl (by kernel_rfl) (by kernel_rfl) (fun _ h => by cases h; rfl) ?_
      refine JA_no 10 16 rfl rfl rfl (by kernel_rfl) (by kernel_rfl) (fun _ h => by cases h; rfl) ?_
      refine JA_no 11 16 rfl rfl rfl (by kernel_rfl) (by kernel_rfl) (fun _ h => by cases h; rfl) ?_
      refine JA_no 12 16 rfl rfl rfl (by kernel_rfl) (by kernel_rfl) (fun _ h => by cases h; rfl) ?_
      refine JA_p 13 48 16 rfl rfl rfl rfl (by kernel_rfl) (by kernel_rfl) (fun _ => Q_pickF rfl rfl rfl) ?_
      refine JA_p 14 6 16 rfl rfl rfl rfl (by kernel_rfl) (by kernel_rfl) (fun _ => Q_assign rfl rfl) ?_
      refine JA_p 15 7 16 rfl rfl rfl rfl (by kernel_rfl) (by kernel_rfl) (fun _ => Q_assign rfl rfl) ?_
      refine JA_end (by kernel_rfl) (K_seq ?_)
      refine C_ret (body_ret (res2 rfl rfl rfl) ?_)
      exact ⟨tup2 (eqI (by exact (posAt_eq h0 (by omega) hlo (fun hn => hhi _ (by omega) hn)).symm)) (eqB (by first | (refine (decide_eq_false ?_).symm; exact found_no hr h0 hlo (fun hn => hhi _ (by omega) hn) (fun hn => by omega)) | (refine decide_eq_decide.2 ⟨fun hc => found_yes h0 (by omega) (cmp_zero.1 hc), fun hf => ?_⟩; by_cases hc : cmp (nth l i).at_ s = 0; exact hc; exact absurd hf (found_no hr h0 hlo (fun hn => hhi _ (by omega) hn) (fun _ he => hc (cmp_zero.2 he)))))), hS8.kept (k := 0) rfl⟩
end Go.Proofs.Ytceeellnjckmiaa

/- Printed by a program of mine (gen.py). -/
set_option maxRecDepth 100000
namespace Go.Proofs.Ytceeellnjckmiaa
open Go Go.Sl
theorem Compact_calls (w : World) (xs_g xs_n xs_cap : Nat) (xs : List Stamp) (hown_xs : w.ownsRow 0 23 2 (.slice (some ⟨xs_g, 0, none⟩) xs_n xs_cap) xs_n (flS xs)) (hn : xs_n = xs.length) (hok : ∀ s ∈ xs, StOk s) (hb : xs_n ≤ 1073741824) :
    Calls Try.prog 127 #[.slice (some ⟨xs_g, 0, none⟩) xs_n xs_cap] w fun e w' => ∃ v ys, e = .returned v ∧ Kp (· = xs_g) w w' ∧ (∀ s : Stamp, s ∈ ys ↔ s ∈ xs) ∧ ys.length ≤ xs.length ∧ RdF (tSl tSt) w' (· = xs_g) [v] ys := by
  obtain ⟨hb_xs, hc_xs, hm_xs⟩ := own_room hown_xs
  have hS0 := St.begin2 (own 23 2 (.slice (some ⟨xs_g, 0, none⟩) xs_n xs_cap) xs_n (flS xs)) hown_xs hb_xs
  refine fn_calls' 61 (args := [_]) Try.func127 rfl rfl rfl ?_
  refine C_seq ?_
  refine C_region ?_
  refine J_q 2 rfl rfl rfl rfl (Q_assign rfl rfl) ?_
  refine J_nil (K_seq ?_)
  refine C_seq ?_
  refine C_seq ?_
  refine C_region ?_
  refine J_q 6 rfl rfl rfl rfl (Q_move rfl rfl) ?_
  refine J_q 7 rfl rfl rfl rfl (Q_len rfl rfl Try.underlying36) ?_
  refine J_q 8 rfl rfl rfl rfl (Q_lss rfl rfl rfl) ?_
  refine J_nil (K_seq ?_)
  refine C_if rfl (fun h1 => ?_) (fun h1 => ?_)
  · refine C_seq ?_
    refine C_region ?_
    refine J_q 9 rfl rfl rfl rfl (Q_move rfl rfl) ?_
    refine J_q 2 rfl rfl rfl rfl (Q_assign rfl rfl) ?_
    refine J_nil (K_seq ?_)
    refine C_ret (R_then (body_ret (res1 rfl rfl) ?_))
    have hR := rdPre (k' := xs_n) (rest := []) (xs := xs) hS0 1 rfl (by simp) (by omega) (by omega) (by omega) hok
    exact ⟨_, xs, rfl, (hS0.keptBut (k := 0) rfl).mono (fun b hb => fpG.1 hb), fun _ => Iff.rfl, Nat.le_refl _, hR⟩
  · refine C_skip (K_seq ?_)
    refine C_seq ?_
    refine C_seq ?_
    refine C_region ?_
    refine J_q 3 rfl rfl rfl rfl (Q_assign rfl rfl) ?_
    refine J_nil (K_seq ?_)
    refine C_block ?_
    refine C_loop1 (fun (k : Int) => (xs.length - k).toNat) (fun (k : Int) => [(0, .slice (some ⟨xs_g, 0, none⟩) xs_n xs_cap), (6, .slice (some ⟨xs_g, 0, none⟩) xs_n xs_cap), (7, .int .i64 (xs_n : Int)), (8, .bool (decide ((xs_n : Int) < 2))), (3, .int .i64 k)]) (fun (k : Int) w' => (1 ≤ k) ∧ (k ≤ xs.length) ∧ St w w' [(1, own 23 2 (.slice (some ⟨xs_g, 0, none⟩) xs_n xs_cap) xs_n (flS xs)), (0, fz w (fun b => b < w.heap.size ∧ ¬ (own 23 2 (.slice (some ⟨xs_g, 0, none⟩) xs_n xs_cap) xs_n (flS xs)).fp b))]) 1 ⟨(by omega), (by omega), hS0⟩ ⟨rfl, rfl, rfl, rfl, rfl, trivial⟩ ?_
    rintro k w2 ⟨h1, h2, hS2⟩
    refine C_seq ?_
    refine C_seq ?_
    refine C_region ?_
    refine J_q 10 rfl rfl rfl rfl (Q_move rfl rfl) ?_
    refine J_q 11 rfl rfl rfl rfl (Q_move rfl rfl) ?_
    refine J_q 12 rfl rfl rfl rfl (Q_len rfl rfl Try.underlying36) ?_
    refine J_q 13 rfl rfl rfl rfl (Q_lss rfl rfl rfl) ?_
    refine J_nil (K_seq ?_)
    refine C_if rfl (fun h3 => ?_) (fun h3 => ?_)
    · refine C_skip (K_seq ?_)
      refine C_seq ?_
      refine C_block ?_
      refine C_seq ?_
      refine C_draw (fun w' => St w w' [(1, own 23 2 (.slice (some ⟨xs_g, 0, none⟩) xs_n xs_cap) xs_n (flS xs)), (0, fz w (fun b => b < w.heap.size ∧ ¬ (own 23 2 (.slice (some ⟨xs_g, 0, none⟩) xs_n xs_cap) xs_n (flS xs)).fp b))]) 10 mixedOrders 10 rfl (fun w4 hk4 => ?_)
      have hS4 := hS2.kp0 hk4
      refine JA_p 0 16 10 rfl rfl rfl rfl (by kernel_rfl) (by kernel_rfl) (fun _ => Q_move rfl rfl) ?_
      refine JA_p 1 17 10 rfl rfl rfl rfl (by kernel_rfl) (by kernel_rfl) (fun _ => Q_move rfl rfl) ?_
      refine JA_p 2 18 10 rfl rfl rfl rfl (by kernel_rfl) (by kernel_rfl) (fun _ => Q_ia rfl rfl rfl Try.underlying36 Try.sizeOf23 (by omega) (by omega)) ?_
      refine JA_q 3 19 rfl rfl rfl rfl (by kernel_rfl) (by kernel_rfl) hS4 (fun _ hI => Q_ldRS (k := 1) k hI rfl rfl rfl Try.isAgg23 Try.sizeOf23 (by omega) (by omega) (by omega)) ?_
      refine JA_p 4 20 10 rfl rfl rfl rfl (by kernel_rfl) (by kernel_rfl) (fun _ => Q_move rfl rfl) ?_
      refine JA_p 5 21 10 rfl rfl rfl rfl (by kernel_rfl) (by kernel_rfl) (fun _ => Q_move rfl rfl) ?_
      refine JA_p 6 22 10 rfl rfl rfl rfl (by kernel_rfl) (by kernel_rfl) (fun _ => Q_sub rfl rfl rfl (by omega) (by omega)) ?_
      refine JA_p 7 23 10 rfl rfl rfl rfl (by kernel_rfl) (by kernel_rfl) (fun _ => Q_ia rfl rfl rfl Try.underlying36 Try.sizeOf23 (by omega) (by omega)) ?_
      refine JA_q 8 24 rfl rfl rfl rfl (by kernel_rfl) (by kernel_rfl) hS4 (fun _ hI => Q_ldRS (k := 1) (k - 1) hI rfl rfl rfl Try.isAgg23 Try.sizeOf23 (by omega) (by omega) (by omega)) ?_
      refine JA_p 9 25 10 rfl rfl rfl rfl (by kernel_rfl) (by kernel_rfl) (fun _ => Q_eqlP rfl rfl rfl pe23) ?_
      refine JA_end (by kernel_rfl) (K_seq ?_)
      refine C_if rfl (fun h5 => ?_) (fun h5 => ?_)
      · refine C_seq ?_
        refine C_region ?_
        refine J_q 26 rfl rfl rfl rfl (Q_move rfl rfl) ?_
        refine J_q 27 rfl rfl rfl rfl (Q_move rfl rfl) ?_
        refine J_q 28 rfl rfl rfl rfl (Q_slFrom rfl rfl rfl Try.underlying36 Try.sizeOf23 (by omega) (by omega) (by omega) (by omega)) ?_
        refine J_q 4 rfl rfl rfl rfl (Q_assign rfl rfl) ?_
        refine J_nil (K_seq ?_)
        refine C_seq ?_
        refine C_seq ?_
        refine C_region ?_
        refine J_q 5 rfl rfl rfl rfl (Q_assign rfl rfl) ?_
        refine J_nil (K_seq ?_)
        refine C_block ?_
        refine C_loop3 (fun (i : Int) (j : Int) (ys : List Stamp) => (xs.length - k - i).toNat) (fun (i : Int) (j : Int) (ys : List Stamp) => [(0, .slice (some ⟨xs_g, 0, none⟩) xs_n xs_cap), (6, .slice (some ⟨xs_g, 0, none⟩) xs_n xs_cap), (7, .int .i64 (xs_n : Int)), (8, .bool (decide ((xs_n : Int) < 2))), (10, .int .i64 k), (11, .slice (some ⟨xs_g, 0, none⟩) xs_n xs_cap), (12, .int .i64 (xs_n : Int)), (13, .bool (decide (k < (xs_n : Int)))), (16, .slice (some ⟨xs_g, 0, none⟩) xs_n xs_cap), (17, .int .i64 k), (18, .pointer (some ((⟨xs_g, 0, none⟩ : Addr).add ((k).toNat * 2)))), (19, .agg (stL (nth xs k)).toArray), (20, .slice (some ⟨xs_g, 0, none⟩) xs_n xs_cap), (21, .int .i64 k), (22, .int .i64 (k - 1)), (23, .pointer (some ((⟨xs_g, 0, none⟩ : Addr).add ((k - 1).toNat * 2)))), (24, .agg (stL (nth xs (k - 1))).toArray), (25, .bool (decide ((nth xs k).c = (nth xs (k - 1)).c ∧ (nth xs k).r = (nth xs (k - 1)).r))), (26, .slice (some ⟨xs_g, 0, none⟩) xs_n xs_cap), (27, .int .i64 k), (28, .slice (some ⟨xs_g, (k).toNat * 2, none⟩) (xs_n - (k).toNat) (xs_cap - (k).toNat)), (4, .slice (some ⟨xs_g, (k).toNat * 2, none⟩) (xs_n - (k).toNat) (xs_cap - (k).toNat)), (5, .int .i64 i), (3, .int .i64 j)]) (fun (i : Int) (j : Int) (ys : List Stamp) w' => (1 ≤ i) ∧ (j + 1 ≤ k + i) ∧ (k ≤ j) ∧ (k + i ≤ xs.length) ∧ (ys.length = xs.length) ∧ (∀ q : Int, k + i - 1 ≤ q → q < xs.length → nth ys q = nth xs q) ∧ (∀ s : Stamp, s ∈ tk ys j ↔ s ∈ tk xs (k + i)) ∧ St w w' [(1, own 23 2 (.slice (some ⟨xs_g, 0, none⟩) xs_n xs_cap) xs_n (flS ys)), (0, fz w (fun b => b < w.heap.size ∧ ¬ (own 23 2 (.slice (some ⟨xs_g, 0, none⟩) xs_n xs_cap) xs_n (flS xs)).fp b))]) 1 k xs ⟨(by first | omega | rfl | (intro q _ _; rfl) | (exact dup_mem (by omega) (by omega) (by assumption))), (by first | omega | rfl | (intro q _ _; rfl) | (exact dup_mem (by omega) (by omega) (by assumption))), (by first | omega | rfl | (intro q _ _; rfl) | (exact dup_mem (by omega) (by omega) (by assumption))), (by first | omega | rfl | (intro q _ _; rfl) | (exact dup_mem (by omega) (by omega) (by assumption))), (by first | omega | rfl | (intro q _ _; rfl) | (exact dup_mem (by omega) (by omega) (by assumption))), (by first | omega | rfl | (intro q _ _; rfl) | (exact dup_mem (by omega) (by omega) (by assumption))), (by first | omega | rfl | (intro q _ _; rfl) | (exact dup_mem (by omega) (by omega) (by assumption))), hS4⟩ ⟨rfl, rfl, rfl, rfl, rfl, rfl, rfl, rfl, rfl, rfl, rfl, rfl, rfl, rfl, rfl, rfl, rfl, rfl, rfl, rfl, rfl, rfl, rfl, rfl, trivial⟩ ?_
        rintro i j ys w6 ⟨hi, hij, hkj, hki, hl, hs, hm, hS6⟩
        refine C_seq ?_
        refine C_seq ?_
        refine C_region ?_
        refine J_q 29 rfl rfl rfl rfl (Q_move rfl rfl) ?_
        refine J_q 30 rfl rfl rfl rfl (Q_move rfl rfl) ?_
        refine J_q 31 rfl rfl rfl rfl (Q_len rfl rfl Try.underlying36) ?_
        refine J_q 32 rfl rfl rfl rfl (Q_lss rfl rfl rfl) ?_
        refine J_nil (K_seq ?_)
        refine C_if rfl (fun h7 => ?_) (fun h7 => ?_)
        · refine C_skip (K_seq ?_)
          refine C_seq ?_
          refine C_block ?_
          refine C_seq ?_
          refine C_draw (fun w' => St w w' [(1, own 23 2 (.slice (some ⟨xs_g, 0, none⟩) xs_n xs_cap) xs_n (flS ys)), (0, fz w (fun b => b < w.heap.size ∧ ¬ (own 23 2 (.slice (some ⟨xs_g, 0, none⟩) xs_n xs_cap) xs_n (flS xs)).fp b))]) 10 mixedOrders 10 rfl (fun w8 hk8 => ?_)
          have hS8 := hS6.kp0 hk8
          refine JA_p 0 35 10 rfl rfl rfl rfl (by kernel_rfl) (by kernel_rfl) (fun _ => Q_move rfl rfl) ?_
          refine JA_p 1 36 10 rfl rfl rfl rfl (by kernel_rfl) (by kernel_rfl) (fun _ => Q_move rfl rfl) ?_
          refine JA_p 2 37 10 rfl rfl rfl rfl (by kernel_rfl) (by kernel_rfl) (fun _ => Q_ia rfl rfl rfl Try.underlying36 Try.sizeOf23 (by omega) (by omega)) ?_
          refine JA_q 3 38 rfl rfl rfl rfl (by kernel_rfl) (by kernel_rfl) hS8 (fun _ hI => Q_ldRS (k := 1) (k + i) hI rfl rfl rfl Try.isAgg23 Try.sizeOf23 (by omega) (by omega) (by omega)) ?_
          refine JA_p 4 39 10 rfl rfl rfl rfl (by kernel_rfl) (by kernel_rfl) (fun _ => Q_move rfl rfl) ?_
          refine JA_p 5 40 10 rfl rfl rfl rfl (by kernel_rfl) (by kernel_rfl) (fun _ => Q_move rfl rfl) ?_
          refine JA_p 6 41 10 rfl rfl rfl rfl (by kernel_rfl) (by kernel_rfl) (fun _ => Q_sub rfl rfl rfl (by omega) (by omega)) ?_
          refine JA_p 7 42 10 rfl rfl rfl rfl (by kernel_rfl) (by kernel_rfl) (fun _ => Q_ia rfl rfl rfl Try.underlying36 Try.sizeOf23 (by omega) (by omega)) ?_
          refine JA_q 8 43 rfl rfl rfl rfl (by kernel_rfl) (by kernel_rfl) hS8 (fun _ hI => Q_ldRS (k := 1) (k + (i - 1)) hI rfl rfl rfl Try.isAgg23 Try.sizeOf23 (by omega) (by omega) (by omega)) ?_
          refine JA_p 9 44 10 rfl rfl rfl rfl (by kernel_rfl) (by kernel_rfl) (fun _ => Q_neqP rfl rfl rfl pe23) ?_
          refine JA_end (by kernel_rfl) (K_seq ?_)
          refine C_ifN rfl (fun h9 => ?_) (fun h9 => ?_)
          · refine C_seq ?_
            refine C_region ?_
            refine J_q 45 rfl rfl rfl rfl (Q_move rfl rfl) ?_
            refine J_q 46 rfl rfl rfl rfl (Q_move rfl rfl) ?_
            refine J_q 47 rfl rfl rfl rfl (Q_move rfl rfl) ?_
            refine J_q 48 rfl rfl rfl rfl (Q_move rfl rfl) ?_
            refine J_q 49 rfl rfl rfl rfl (Q_ia rfl rfl rfl Try.underlying36 Try.sizeOf23 (by omega) (by omega)) ?_
            refine J_q 50 rfl rfl rfl rfl (Q_ldRS (k := 1) (k + i) hS8 rfl rfl rfl Try.isAgg23 Try.sizeOf23 (by omega) (by omega) (by omega)) ?_
            refine J_q 51 rfl rfl rfl rfl (Q_ia rfl rfl rfl Try.underlying36 Try.sizeOf23 (by omega) (by omega)) ?_
            refine J_do0 rfl rfl rfl rfl (D_stRS (k := 1) j (nth ys (k + i)) hS8 rfl rfl rfl rfl Try.sizeOf23 (by omega) (by omega) (by omega) (fun w10 hS10 => ?_))
            refine J_nil (K_seq ?_)
            refine C_region ?_
            refine J_q 52 rfl rfl rfl rfl (Q_move rfl rfl) ?_
            refine J_q 53 rfl rfl rfl rfl (Q_add rfl rfl rfl (by omega) (by omega)) ?_
            refine J_q 3 rfl rfl rfl rfl (Q_assign rfl rfl) ?_
            refine J_nil (N_blk (K_seq ?_))
            refine C_region ?_
            refine J_q 33 rfl rfl rfl rfl (Q_move rfl rfl) ?_
            refine J_q 34 rfl rfl rfl rfl (Q_add rfl rfl rfl (by omega) (by omega)) ?_
            refine J_q 5 rfl rfl rfl rfl (Q_assign rfl rfl) ?_
            exact J_nil (K_round3 (x0 := i) (x1 := j) (x2 := ys) (i + 1) (j + 1) (ys.set (j).toNat (nth ys (k + i))) ⟨(by first | omega | (rw [List.length_set]; exact hl) | (intro q hq0 hq1; rw [nth_setS (by omega) (by omega)]; exact hs q (by omega) hq1) | (exact fun q hq0 hq1 => hs q (by omega) hq1) | (exact put_mem2 (by omega) (by omega) hl (by omega) hm hs) | (exact skip_mem (by omega) (by omega) hm hs (by assumption))), (by first | omega | (rw [List.length_set]; exact hl) | (intro q hq0 hq1; rw [nth_setS (by omega) (by omega)]; exact hs q (by omega) hq1) | (exact fun q hq0 hq1 => hs q (by omega) hq1) | (exact put_mem2 (by omega) (by omega) hl (by omega) hm hs) | (exact skip_mem (by omega) (by omega) hm hs (by assumption))), (by first | omega | (rw [List.length_set]; exact hl) | (intro q hq0 hq1; rw [nth_setS (by omega) (by omega)]; exact hs q (by omega) hq1) | (exact fun q hq0 hq1 => hs q (by omega) hq1) | (exact put_mem2 (by omega) (by omega) hl (by omega) hm hs) | (exact skip_mem (by omega) (by omega) hm hs (by assumption))), (by first | omega | (rw [List.length_set]; exact hl) | (intro q hq0 hq1; rw [nth_setS (by omega) (by omega)]; exact hs q (by omega) hq1) | (exact fun q hq0 hq1 => hs q (by omega) hq1) | (exact put_mem2 (by omega) (by omega) hl (by omega) hm hs) | (exact skip_mem (by omega) (by omega) hm hs (by assumption))), (by first | omega | (rw [List.length_set]; exact hl) | (intro q hq0 hq1; rw [nth_setS (by omega) (by omega)]; exact hs q (by omega) hq1) | (exact fun q hq0 hq1 => hs q (by omega) hq1) | (exact put_mem2 (by omega) (by omega) hl (by omega) hm hs) | (exact skip_mem (by omega) (by omega) hm hs (by assumption))), (by first | omega | (rw [List.length_set]; exact hl) | (intro q hq0 hq1; rw [nth_setS (by omega) (by omega)]; exact hs q (by omega) hq1) | (exact fun q hq0 hq1 => hs q (by omega) hq1) | (exact put_mem2 (by omega) (by omega) hl (by omega) hm hs) | (exact skip_mem (by omega) (by omega) hm hs (by assumption))), (by first | omega | (rw [List.length_set]; exact hl) | (intro q hq0 hq1; rw [nth_setS (by omega) (by omega)]; exact hs q (by omega) hq1) | (exact fun q hq0 hq1 => hs q (by omega) hq1) | (exact put_mem2 (by omega) (by omega) hl (by omega) hm hs) | (exact skip_mem (by omega) (by omega) hm hs (by assumption))), hS10⟩ (by omega) ⟨rfl, rfl, rfl, rfl, rfl, rfl, rfl, rfl, rfl, rfl, rfl, rfl, rfl, rfl, rfl, rfl, rfl, rfl, rfl, rfl, rfl, rfl, rfl, rfl, trivial⟩)
          · refine C_skip (N_blk (K_seq ?_))
            refine C_region ?_
            refine J_q 33 rfl rfl rfl rfl (Q_move rfl rfl) ?_
            refine J_q 34 rfl rfl rfl rfl (Q_add rfl rfl rfl (by omega) (by omega)) ?_
            refine J_q 5 rfl rfl rfl rfl (Q_assign rfl rfl) ?_
            exact J_nil (K_round3 (x0 := i) (x1 := j) (x2 := ys) (i + 1) j ys ⟨(by first | omega | (rw [List.length_set]; exact hl) | (intro q hq0 hq1; rw [nth_setS (by omega) (by omega)]; exact hs q (by omega) hq1) | (exact fun q hq0 hq1 => hs q (by omega) hq1) | (exact put_mem2 (by omega) (by omega) hl (by omega) hm hs) | (exact skip_mem (by omega) (by omega) hm hs (by assumption))), (by first | omega | (rw [List.length_set]; exact hl) | (intro q hq0 hq1; rw [nth_setS (by omega) (by omega)]; exact hs q (by omega) hq1) | (exact fun q hq0 hq1 => hs q (by omega) hq1) | (exact put_mem2 (by omega) (by omega) hl (by omega) hm hs) | (exact skip_mem (by omega) (by omega) hm hs (by assumption))), (by first | omega | (rw [List.length_set]; exact hl) | (intro q hq0 hq1; rw [nth_setS (by omega) (by omega)]; exact hs q (by omega) hq1) | (exact fun q hq0 hq1 => hs q (by omega) hq1) | (exact put_mem2 (by omega) (by omega) hl (by omega) hm hs) | (exact skip_mem (by omega) (by omega) hm hs (by assumption))), (by first | omega | (rw [List.length_set]; exact hl) | (intro q hq0 hq1; rw [nth_setS (by omega) (by omega)]; exact hs q (by omega) hq1) | (exact fun q hq0 hq1 => hs q (by omega) hq1) | (exact put_mem2 (by omega) (by omega) hl (by omega) hm hs) | (exact skip_mem (by omega) (by omega) hm hs (by assumption))), (by first | omega | (rw [List.length_set]; exact hl) | (intro q hq0 hq1; rw [nth_setS (by omega) (by omega)]; exact hs q (by omega) hq1) | (exact fun q hq0 hq1 => hs q (by omega) hq1) | (exact put_mem2 (by omega) (by omega) hl (by omega) hm hs) | (exact skip_mem (by omega) (by omega) hm hs (by assumption))), (by first | omega | (rw [List.length_set]; exact hl) | (intro q hq0 hq1; rw [nth_setS (by omega) (by omega)]; exact hs q (by omega) hq1) | (exact fun q hq0 hq1 => hs q (by omega) hq1) | (exact put_mem2 (by omega) (by omega) hl (by omega) hm hs) | (exact skip_mem (by omega) (by omega) hm hs (by assumption))), (by first | omega | (rw [List.length_set]; exact hl) | (intro q hq0 hq1; rw [nth_setS (by omega) (by omega)]; exact hs q (by omega) hq1) | (exact fun q hq0 hq1 => hs q (by omega) hq1) | (exact put_mem2 (by omega) (by omega) hl (by omega) hm hs) | (exact skip_mem (by omega) (by omega) hm hs (by assumption))), hS8⟩ (by omega) ⟨rfl, rfl, rfl, rfl, rfl, rfl, rfl, rfl, rfl, rfl, rfl, rfl, rfl, rfl, rfl, rfl, rfl, rfl, rfl, rfl, rfl, rfl, rfl, rfl, trivial⟩)
        · refine C_exit (X_then (X_then (X_hit (K_seq ?_))))
          refine C_seq ?_
          refine C_region ?_
          refine J_q 54 rfl rfl rfl rfl (Q_move rfl rfl) ?_
          refine J_q 55 rfl rfl rfl rfl (Q_move rfl rfl) ?_
          refine J_q 56 rfl rfl rfl rfl (Q_slFrom rfl rfl rfl Try.underlying36 Try.sizeOf23 (by omega) (by omega) (by omega) (by omega)) ?_
          refine J_do0 rfl rfl rfl rfl (D_clearO (k := 1) (l := (j).toNat) hS6 rfl rfl rfl Try.underlying36 Try.zeroValue23 rfl (by decide) (by decide) (by omega) (fun g11 w11 hz11 hS11 => ?_))
          refine J_nil (K_seq ?_)
          refine C_seq ?_
          refine C_region ?_
          refine J_q 57 rfl rfl rfl rfl (Q_move rfl rfl) ?_
          refine J_q 58 rfl rfl rfl rfl (Q_move rfl rfl) ?_
          refine J_q 59 rfl rfl rfl rfl (Q_slTo rfl rfl rfl Try.underlying36 Try.sizeOf23 (by omega) (by omega)) ?_
          refine J_q 2 rfl rfl rfl rfl (Q_assign rfl rfl) ?_
          refine J_nil (K_seq ?_)
          refine C_ret (R_blk (R_then (R_then (R_blk (R_then (body_ret (res1 rfl rfl) ?_))))))
          have hj0 := tk_len (l := ys) (i := j) (by omega) (by omega)
          have hmx : ∀ s, s ∈ tk ys j ↔ s ∈ xs := fun s => by rw [hm s, tk_full (by omega)]
          have hR := rdPre (k' := j.toNat) (xs := tk ys j) hS11 1 rfl (by rw [flS_take]; rfl) (by omega) (by omega) (by omega) (fun s hs => hok s ((hmx s).1 hs))
          exact ⟨_, tk ys j, rfl, (hS11.keptBut (k := 0) rfl).mono (fun b hb => fpG.1 hb), hmx, by omega, hR⟩
      · refine C_skip (N_blk (K_seq ?_))
        refine C_region ?_
        refine J_q 14 rfl rfl rfl rfl (Q_move rfl rfl) ?_
        refine J_q 15 rfl rfl rfl rfl (Q_add rfl rfl rfl (by omega) (by omega)) ?_
        refine J_q 3 rfl rfl rfl rfl (Q_assign rfl rfl) ?_
        exact J_nil (K_round1 (x0 := k) (k + 1) ⟨(by omega), (by omega), hS4⟩ (by omega) ⟨rfl, rfl, rfl, rfl, rfl, trivial⟩)
    · refine C_exit (X_then (X_then (X_hit (K_seq ?_))))
      refine C_seq ?_
      refine C_region ?_
      refine J_q 60 rfl rfl rfl rfl (Q_move rfl rfl) ?_
      refine J_q 2 rfl rfl rfl rfl (Q_assign rfl rfl) ?_
      refine J_nil (K_seq ?_)
      refine C_ret (body_ret (res1 rfl rfl) ?_)
      have hR := rdPre (k' := xs_n) (rest := []) (xs := xs) hS2 1 rfl (by simp) (by omega) (by omega) (by omega) hok
      exact ⟨_, xs, rfl, (hS2.keptBut (k := 0) rfl).mono (fun b hb => fpG.1 hb), fun _ => Iff.rfl, Nat.le_refl _, hR⟩

theorem CompactN_calls (w : World) :
    Calls Try.prog 127 #[.slice none 0 0] w fun e w' => e = .returned (.slice none 0 0) ∧ Kp no w w' := by
  have hS0 := St.start w
  refine fn_calls' 61 (args := [_]) Try.func127 rfl rfl rfl ?_
  refine C_seq ?_
  refine C_region ?_
  refine J_q 2 rfl rfl rfl rfl (Q_assign rfl rfl) ?_
  refine J_nil (K_seq ?_)
  refine C_seq ?_
  refine C_seq ?_
  refine C_region ?_
  refine J_q 6 rfl rfl rfl rfl (Q_move rfl rfl) ?_
  refine J_q 7 rfl rfl rfl rfl (Q_toI (i' := 0) (Q_len rfl rfl Try.underlying36) (by decide)) ?_
  refine J_q 8 rfl rfl rfl rfl (Q_toB (c' := true) (Q_lss rfl rfl rfl) (by decide)) ?_
  refine J_nil (K_seq ?_)
  refine C_true rfl ?_
  refine C_seq ?_
  refine C_region ?_
  refine J_q 9 rfl rfl rfl rfl (Q_move rfl rfl) ?_
  refine J_q 2 rfl rfl rfl rfl (Q_assign rfl rfl) ?_
  refine J_nil (K_seq ?_)
  refine C_ret (R_then (body_ret (res1 rfl rfl) ?_))
  exact ⟨rfl, hS0.kept (k := 0) rfl⟩
end Go.Proofs.Ytceeellnjckmiaa

/- slices.SortFunc and slices.Compact over a row of stamps of one's own, nil too. -/
namespace Go.Proofs.Ytceeellnjckmiaa
open Go Go.Sl Go.Shelf Go.RowKit Go.Lib Go.Sort
theorem SortV_calls {w : World} {v : Value} {n : Nat} {xs : List Stamp} (hown : w.ownsRow 0 23 2 v n (flS xs)) (hn : n = xs.length) (hb : n ≤ 1073741824) :
    Calls Try.prog 125 #[v, .func (.func 126) #[] #[]] w fun e w' => e = .returned (.tuple #[]) ∧ Kp (fun b => v.ownBlock = some b) w w' ∧ ∃ ys : List Stamp, ys.Perm xs ∧ w'.ownsRow 0 23 2 v n (flS ys) := by
  rcases own_form hown with ⟨rfl, rfl⟩ | ⟨g, cap, rfl, _⟩
  · have h := AnyF.slices_SortFunc_none Try.sortSt none 0 (.func (.func 126) #[] #[]) w
    have h' : Calls Try.prog 125 #[.slice none 0 0, .func (.func 126) #[] #[]] w _ := h
    refine h'.mono ?_
    rintro e w' ⟨rfl, rfl⟩
    exact ⟨rfl, Kp.refl _ _, xs, .refl _, hown⟩
  · refine (SortSt_calls w hown hn hb).mono ?_
    rintro e w' ⟨rfl, hk, ys, hp, ho⟩
    exact ⟨rfl, hk.mono fun b hb => by rw [hb]; exact rfl, ys, hp, ho⟩
theorem CompactV_calls {w : World} {v : Value} {n : Nat} {xs : List Stamp} (hown : w.ownsRow 0 23 2 v n (flS xs)) (hn : n = xs.length) (hok : ∀ s ∈ xs, StOk s) (hb : n ≤ 1073741824) :
    Calls Try.prog 127 #[v] w fun e w' => ∃ v' ys, e = .returned v' ∧ Kp (fun b => v.ownBlock = some b) w w' ∧ (∀ s : Stamp, s ∈ ys ↔ s ∈ xs) ∧ ys.length ≤ xs.length ∧ RdF (tSl tSt) w' (fun b => v.ownBlock = some b) [v'] ys := by
  rcases own_form hown with ⟨rfl, rfl⟩ | ⟨g, cap, rfl, _⟩
  · refine (CompactN_calls w).mono ?_
    rintro e w' ⟨rfl, hk⟩
    have : xs = [] := List.eq_nil_of_length_eq_zero hn.symm
    subst this
    exact ⟨_, [], rfl, hk.mono fun _ h => h.elim, fun _ => Iff.rfl, Nat.le_refl _, fun u _ => rdNil tSt u⟩
  · refine (Compact_calls w g n cap xs hown hn hok hb).mono ?_
    rintro e w' ⟨v', ys, rfl, hk, hm, hl, hR⟩
    have e1 : ∀ b, b = g → (Value.slice (some ⟨g, 0, none⟩) n cap).ownBlock = some b := fun b hb => by rw [hb]; exact rfl
    exact ⟨v', ys, rfl, hk.mono e1, hm, hl, hR.mono e1⟩
end Go.Proofs.Ytceeellnjckmiaa

/- Printed by a program of mine (gen.py). -/
set_option maxRecDepth 100000
namespace Go.Proofs.Ytceeellnjckmiaa
open Go Go.Sl
theorem app36 : AppOk Try.prog 36 23 2 16 := ⟨Try.underlying36, ⟨_, _, Try.type23, rfl, rfl, rfl, rfl⟩, by decide⟩
theorem Rising_calls (w : World) (v_l : Value) (l : List Stamp) (h_l : (tSl tSt).rd w [v_l] l) (hl : l.length ≤ 1073741824) :
    Calls Try.prog 102 #[v_l] w fun e w' => ∃ g v, e = .returned (.func (.func 128) #[] #[.pointer (some ⟨g, 0, none⟩)]) ∧ Kp no w w' ∧ BoxAt w' (nw w w') g [v] ∧ ∃ ys, (∀ s : Stamp, s ∈ ys ↔ s ∈ l) ∧ ys.length ≤ l.length ∧ RdF (tSl tSt) w' (nw w w') [v] ys := by
  have hS0 := St.start w
  have hF_l := RdF.of_rd h_l
  obtain ⟨A_l, cap_l, rfl, hc_l, hm_l⟩ := hF_l.slice
  refine fn_calls' 12 (args := [_]) Try.func102 rfl rfl rfl ?_
  refine C_seq ?_
  refine C_region ?_
  refine J_q 2 rfl rfl rfl rfl (Q_assign rfl rfl) ?_
  refine J_nil (K_seq ?_)
  refine C_seq ?_
  refine C_region ?_
  refine J_do 4 rfl rfl rfl rfl (D_bs (e := 23) (ps := []) 1 ([]) hS0 rfl rfl (fun _ => by kernel_rfl) (fun g1 w1 hS1 => ?_))
  refine J_q 5 rfl rfl rfl rfl (Q_move rfl rfl) ?_
  have hS2 := hS1.lit0 (sz := 2) 1 rfl
  refine J_do 6 rfl rfl rfl rfl (D_appSL ([]) l app36 hS2 1 rfl 0 rfl rfl rfl rfl hF_l (by first | omega | (simp only [List.length_nil, List.length_append, List.length_cons]; omega)) (by first | omega | (simp only [List.length_nil, List.length_append, List.length_cons]; omega)) (fun A3 cap3 gl3 w3 hR3 hc3 hS3 => ?_))
  refine J_do 3 rfl rfl rfl rfl (D_alloc 2 hS3 rfl Try.zeroValue36 (fun g4 w4 hS4 => ?_))
  refine J_do0 rfl rfl rfl rfl (D_store' (k := 2) hS4 rfl rfl rfl rfl Try.sizeOf36 rfl rfl rfl (fun w5 hS5 => ?_))
  refine J_nil (K_seq ?_)
  refine C_seq ?_
  refine C_region ?_
  refine J_q 7 rfl rfl rfl rfl (Q_ldB1' (k := 2) hS5 rfl rfl rfl Try.isAgg36 rfl) ?_
  refine J_call 8 rfl rfl rfl rfl (T_call rfl rfl rfl Try.call125) (SortV_calls (xs := [] ++ l) (by rw [← reps_flS (Reps.append (Reps.nil _ w _) hR3)]; exact hS5.get (k := 1) rfl) rfl (by simp only [List.nil_append]; omega)) ?_
  rintro _ w6 ⟨rfl, hk6, ys6, hp6, ho6⟩
  have hS6 := hS5.upd (k := 1) (e' := own 23 2 (.slice A3 ((([] : List Stamp) ++ l).length) cap3) ((([] : List Stamp) ++ l).length) (flS ys6)) rfl hk6 ho6 (fun b hb => .inl hb)
  have hok6 : ∀ s ∈ ys6, StOk s := fun s hs => reps_ok (Reps.append (Reps.nil _ w _) hR3) s (hp6.mem_iff.1 hs)
  have hlen6 := hp6.length_eq
  refine ⟨_, rfl, ?_⟩
  refine J_nil (K_seq ?_)
  refine C_seq ?_
  refine C_region ?_
  refine J_q 9 rfl rfl rfl rfl (Q_ldB1' (k := 2) hS6 rfl rfl rfl Try.isAgg36 rfl) ?_
  refine J_call 10 rfl rfl rfl rfl (T_call rfl rfl rfl Try.call127) (CompactV_calls (xs := ys6) (hS6.get (k := 1) rfl) hlen6.symm hok6 (by simp only [List.nil_append]; omega)) ?_
  rintro _ w7 ⟨vc7, zs7, rfl, hk7, hm7, hl7, hR7⟩
  have hS7 := hS6.upd (k := 1) (e' := fz w7 (fun b => (Value.slice A3 ((([] : List Stamp) ++ l).length) cap3).ownBlock = some b)) rfl hk7 (fun _ _ => rfl) (fun b hb => .inl hb)
  obtain ⟨Ac7, cc7, rfl, hcc7, hmm7⟩ := hR7.slice
  refine ⟨_, rfl, ?_⟩
  refine J_do0 rfl rfl rfl rfl (D_store' (k := 2) hS7 rfl rfl rfl rfl Try.sizeOf36 rfl rfl rfl (fun w8 hS8 => ?_))
  refine J_nil (K_seq ?_)
  refine C_seq ?_
  refine C_region ?_
  refine J_q 11 rfl rfl rfl rfl (Q_mkFunc rfl rfl) ?_
  refine J_q 2 rfl rfl rfl rfl (Q_assign rfl rfl) ?_
  refine J_nil (K_seq ?_)
  refine C_ret (body_ret (res1 rfl rfl) ?_)
  exact ⟨g4, _, rfl, hS8.kept (k := 0) rfl, hS8.boxAt rfl 2 rfl rfl, zs7, by simpa using (fun s => (hm7 s).trans hp6.mem_iff), by simpa using (Nat.le_trans hl7 (Nat.le_of_eq hlen6)), hS8.giveRd (d := tSt) rfl 1 rfl rfl hR7⟩
end Go.Proofs.Ytceeellnjckmiaa

/- Printed by a program of mine (gen.py). -/
set_option maxRecDepth 100000
namespace Go.Proofs.Ytceeellnjckmiaa
open Go Go.Sl
theorem SortI_calls (w : World) (v_l : Value) (l : List Stamp) (h_l : (tSl tSt).rd w [v_l] l) (hl : l.length ≤ 1073741824) :
    Calls Try.prog 129 #[v_l] w fun e w' => ∃ v ys, e = .returned v ∧ Kp no w w' ∧ (∀ s : Stamp, s ∈ ys ↔ s ∈ l) ∧ ys.length ≤ l.length ∧ RdF (tSl tSt) w' (nw w w') [v] ys := by
  have hS0 := St.start w
  have hF_l := RdF.of_rd h_l
  obtain ⟨A_l, cap_l, rfl, hc_l, hm_l⟩ := hF_l.slice
  refine fn_callsM 14 (args := [_]) Try.func129 rfl rfl rfl ?_
  refine C_seq ?_
  refine C_region ?_
  refine J_q 2 rfl rfl rfl rfl (Q_assign rfl rfl) ?_
  refine J_nil (K_seq ?_)
  refine C_seq ?_
  refine C_region ?_
  refine J_do 5 rfl rfl rfl rfl (D_bs (e := 23) (ps := []) 1 ([]) hS0 rfl rfl (fun _ => by kernel_rfl) (fun g1 w1 hS1 => ?_))
  refine J_do 3 rfl rfl rfl rfl (D_alloc 2 hS1 rfl Try.zeroValue36 (fun g2 w2 hS2 => ?_))
  refine J_do0 rfl rfl rfl rfl (D_store' (k := 2) hS2 rfl rfl rfl rfl Try.sizeOf36 rfl rfl rfl (fun w3 hS3 => ?_))
  refine J_nil (K_seq ?_)
  refine C_seq ?_
  refine C_seq ?_
  refine C_region ?_
  refine J_q 6 rfl rfl rfl rfl (Q_move rfl rfl) ?_
  refine J_call 7 rfl rfl rfl rfl (T_call rfl rfl rfl Try.call102) (Rising_calls _ _ l (hS3.rd 0 rfl hF_l) (by omega)) ?_
  rintro _ w4 ⟨gR, vR, rfl, hk4, hBR, ysR, hmR, hlR, hRR⟩
  have hS4 := hS3.call hk4 4
  obtain ⟨AR, capR, rfl, hcR, hxR⟩ := hRR.slice
  refine ⟨_, rfl, ?_⟩
  refine J_nil (K_seq ?_)
  refine C_block ?_
  refine C_range 5 6 hS4 rfl Try.call128 (fun l5 d5 B5 w5 hB5 hS5 => ?_)
  refine fn_calls' 16 (args := [_, _]) Try.func128 rfl rfl rfl ?_
  refine C_seq ?_
  refine C_region ?_
  refine J_q 5 rfl rfl rfl rfl (Q_ldC1' (hBR _ (hS5.get (k := 4) rfl)) rfl rfl Try.isAgg36 rfl) ?_
  refine J_q 6 rfl rfl rfl rfl (Q_len rfl rfl Try.underlying36) ?_
  refine J_q 7 rfl rfl rfl rfl (Q_move rfl rfl) ?_
  refine J_nil (K_seq ?_)
  refine C_block ?_
  have hS6 := hS5.lit0 (sz := 2) 1 rfl
  refine C_loop2 (fun (i : Int) (out : Row Stamp) => (ysR.length - i).toNat) (fun (i : Int) (out : Row Stamp) => [(0, .func (.yield l5) #[] #[]), (1, .pointer (some (⟨gR, 0, none⟩ : Addr))), (5, .slice AR ysR.length capR), (6, .int .i64 (ysR.length : Int)), (7, .int .i64 i)]) (fun (i : Int) (out : Row Stamp) w' => (0 ≤ i) ∧ (i ≤ ysR.length) ∧ (out.l = tk ysR i) ∧ (Reps tSt w no out.l out.f) ∧ St w w' [(5, lpE l5 B5 .ready none), (6, dfE d5), (4, fz w4 (nw w3 w4)), (2, blkL g2 ([.slice out.A out.l.length out.c]) 36), (1, own 23 2 (.slice out.A out.l.length out.c) out.l.length out.f), (0, fz w (lt_ w))]) 0 (⟨some ⟨g1, 0, none⟩, 0, [], []⟩) ⟨(by first | omega | rfl), (by first | omega | rfl), (by first | omega | rfl), (Reps.nil _ w _), hS6⟩ ⟨rfl, rfl, rfl, rfl, rfl, trivial⟩ ?_
  rintro i out w7 ⟨h0, h1, hn, hR_out, hS7⟩
  refine C_seq ?_
  refine C_region ?_
  refine J_q 8 rfl rfl rfl rfl (Q_lss rfl rfl rfl) ?_
  refine J_nil (K_seq ?_)
  refine C_seq ?_
  refine C_if rfl (fun h8 => ?_) (fun h8 => ?_)
  · refine C_skip (K_seq ?_)
    refine C_seq ?_
    refine C_block ?_
    refine C_seq ?_
    refine C_region ?_
    obtain ⟨ad9, es9, hA9, hr9, hc9⟩ := RdF.nth hRR i (by omega) (by omega)
    obtain ⟨rfl, ho9⟩ := openSt hr9
    refine J_q 9 rfl rfl rfl rfl (Q_iaE hA9 rfl rfl rfl Try.underlying36 Try.sizeOf23 (by omega) (by omega)) ?_
    refine J_q 10 rfl rfl rfl rfl (Q_ldCK' (stL (nth ysR i)) (hc9 _ (hS7.get (k := 4) rfl)) rfl rfl Try.isAgg23 Try.sizeOf23 rfl rfl) ?_
    refine J_do 4 rfl rfl rfl rfl (D_alloc 7 hS7 rfl Try.zeroValue23 (fun g10 w10 hS10 => ?_))
    refine J_do0 rfl rfl rfl rfl (D_store' (k := 7) hS10 rfl rfl rfl rfl Try.sizeOf23 rfl rfl rfl (fun w11 hS11 => ?_))
    refine J_nil (K_seq ?_)
    refine C_seq ?_
    refine C_region ?_
    refine J_q 11 rfl rfl rfl rfl (Q_move rfl rfl) ?_
    refine J_q 12 rfl rfl rfl rfl (Q_ldBK' (k := 7) (stL (nth ysR i)) hS11 rfl rfl rfl Try.isAgg23 Try.sizeOf23 rfl rfl) ?_
    refine J_round 13 (k := 5) rfl rfl rfl rfl rfl rfl rfl hB5 hS11 rfl rfl rfl ?_
    refine C_sub (E' := [(3, .pointer (some (⟨g2, 0, none⟩ : Addr))), (8, .agg (stL (nth ysR i)).toArray)]) ⟨rfl, rfl, trivial⟩ ?_
    refine C_region ?_
    refine J_do 4 rfl rfl rfl rfl (D_alloc 9 hS11 rfl Try.zeroValue23 (fun g12 w12 hS12 => ?_))
    refine J_do0 rfl rfl rfl rfl (D_store' (k := 9) hS12 rfl rfl rfl rfl Try.sizeOf23 rfl rfl rfl (fun w13 hS13 => ?_))
    refine J_nil (K_begin hS13 5 rfl (fun w14 hS14 => ?_))
    refine C_block ?_
    refine C_region ?_
    refine J_q 9 rfl rfl rfl rfl (Q_ldB1' (k := 2) hS14 rfl rfl rfl Try.isAgg36 rfl) ?_
    refine J_q 10 rfl rfl rfl rfl (Q_ldBK' (k := 9) (stL (nth ysR i)) hS14 rfl rfl rfl Try.isAgg23 Try.sizeOf23 rfl rfl) ?_
    refine J_do 11 rfl rfl rfl rfl (D_bs (e := 23) (ps := [(0, .tmp 10)]) 11 (stL (nth ysR i)) hS14 rfl rfl (fun _ => by kernel_rfl) (fun g15 w15 hS15 => ?_))
    refine J_do 12 rfl rfl rfl rfl (D_app1L (nth ysR i) out.l app36 hS15 1 rfl 11 rfl rfl rfl rfl rfl rfl (by first | omega | (have hq := congrArg List.length hn; simp only [tk, List.length_take] at hq; (try simp only [List.length_nil, List.length_append, List.length_cons]); omega)) (by first | omega | (have hq := congrArg List.length hn; simp only [tk, List.length_take] at hq; (try simp only [List.length_nil, List.length_append, List.length_cons]); omega)) (fun g16 cap16 w16 hS16 => ?_))
    refine J_do0 rfl rfl rfl rfl (D_store' (k := 2) hS16 rfl rfl rfl rfl Try.sizeOf36 rfl rfl rfl (fun w17 hS17 => ?_))
    refine J_nil (N_blk (K_rend hS17 5 rfl (fun w18 hS18 => ?_)))
    have hS19 : St w w18 [(7, blkL g10 (stL (nth ysR i)) 23), (5, lpE l5 B5 .ready none), (6, dfE d5), (4, fz w4 (nw w3 w4)), (2, blkL g2 ([.slice (some ⟨g16, 0, none⟩) ((out.l ++ [(nth ysR i)]).length) cap16]) 36), (1, own 23 2 (.slice (some ⟨g16, 0, none⟩) (out.l ++ [(nth ysR i)]).length cap16) ((out.l ++ [(nth ysR i)]).length) (out.f ++ stL (nth ysR i))), (0, fz w (lt_ w))] := hS18.pick [7, 5, 6, 4, 2, 1, 0] ⟨rfl, rfl, rfl, rfl, rfl, rfl, rfl, rfl, rfl, rfl, rfl, rfl, rfl, rfl, trivial⟩
    refine J_q 14 rfl rfl rfl rfl (Q_not rfl rfl) ?_
    refine J_nil (K_seq ?_)
    refine C_false rfl ?_
    refine C_skip (N_blk (K_seq ?_))
    refine C_region ?_
    refine J_q 15 rfl rfl rfl rfl (Q_add rfl rfl rfl (by omega) (by omega)) ?_
    refine J_q 7 rfl rfl rfl rfl (Q_move rfl rfl) ?_
    exact J_nil (K_round2 (x0 := i) (x1 := out) (i + 1) ⟨some ⟨g16, 0, none⟩, cap16, out.f ++ stL (nth ysR i), out.l ++ [(nth ysR i)]⟩ ⟨(by first | omega | (rw [tk_snoc h0 (by omega), ← hn])), (by first | omega | (rw [tk_snoc h0 (by omega), ← hn])), (by first | omega | (rw [tk_snoc h0 (by omega), ← hn])), (Reps.snoc hR_out (mkSt (by exact rdS_ok hRR _ (nth_mem (by omega) (by omega))))), (hS19.pick [5, 6, 4, 2, 1, 0] ⟨rfl, rfl, rfl, rfl, rfl, rfl, rfl, rfl, rfl, rfl, rfl, rfl, trivial⟩)⟩ (by omega) ⟨rfl, rfl, rfl, rfl, rfl, trivial⟩)
  · refine C_exit (X_then (X_then (X_hit (body_end (res0 rfl) ?_))))
    refine range_none hS7 5 rfl (fun h => nomatch h) (fun w20 hS20 => ?_) _
    refine id (N_blk (K_seq ?_))
    refine C_seq ?_
    refine C_region ?_
    refine J_q 13 rfl rfl rfl rfl (Q_ldB1' (k := 2) hS20 rfl rfl rfl Try.isAgg36 rfl) ?_
    refine J_q 2 rfl rfl rfl rfl (Q_assign rfl rfl) ?_
    refine J_nil (K_seq ?_)
    refine C_ret (bodyM_ret (w0 := w) ?_)
    refine .cons 6 hS20 rfl (fun w21 hS21 => ?_)
    refine marks_end (res1 rfl rfl) ?_
    have hlR2 := congrArg List.length hn
    simp only [tk, List.length_take] at hlR2
    rw [tk_full (by omega)] at hn
    exact ⟨_, ysR, rfl, hS21.kept (k := 0) rfl, hmR, hlR, hn ▸ (hS21.give (d := tSt) rfl 1 rfl rfl rfl hR_out (show _ ≤ 68719476736 by omega))⟩
end Go.Proofs.Ytceeellnjckmiaa

/- Printed by a program of mine (gen.py). -/
set_option maxRecDepth 100000
namespace Go.Proofs.Ytceeellnjckmiaa
open Go Go.Sl
theorem NamesI_calls (w : World) (l_c : List Value) (c : Change) (h_c : tCh.rd w l_c c) :
    Calls Try.prog 103 #[.agg l_c.toArray] w fun e w' => ∃ v ys, e = .returned v ∧ Kp no w w' ∧ (∀ s : Stamp, s ∈ ys ↔ s ∈ names5 c) ∧ ys.length ≤ 3 ∧ RdF (tSl tSt) w' (nw w w') [v] ys := by
  have hS0 := St.start w
  have hF_c := RdF.of_rd h_c
  obtain ⟨A_c, cap_c, rfl, hd_c, ho_c⟩ := openCh hF_c
  have hln_c := RdF.lens hd_c
  have hsq_c := ho_c.seq
  refine fn_calls' 33 (args := [_]) Try.func103 rfl rfl rfl ?_
  refine C_seq ?_
  refine C_region ?_
  refine J_do 1 rfl rfl rfl rfl (D_box 1 hS0 rfl rfl (fun g1 w1 hS1 => ?_))
  refine J_q 2 rfl rfl rfl rfl (Q_assign rfl rfl) ?_
  refine J_nil (K_seq ?_)
  refine C_seq ?_
  refine C_region ?_
  refine J_q 3 rfl rfl rfl rfl (Q_assign rfl rfl) ?_
  refine J_nil (K_seq ?_)
  refine C_seq ?_
  refine C_seq ?_
  refine C_region ?_
  refine J_q 6 rfl rfl rfl rfl (Q_fa0 rfl rfl fo55_4) ?_
  refine J_q 7 rfl rfl rfl rfl (Q_ldBK (k := 1) (stL c.node) hS1 rfl rfl rfl Try.isAgg23 Try.sizeOf23 rfl rfl) ?_
  refine J_q 8 rfl rfl rfl rfl (Q_fa0 rfl rfl fo55_5) ?_
  refine J_q 9 rfl rfl rfl rfl (Q_ldBK (k := 1) (stL c.par) hS1 rfl rfl rfl Try.isAgg23 Try.sizeOf23 rfl rfl) ?_
  refine J_q 10 rfl rfl rfl rfl (Q_fa0 rfl rfl fo55_6) ?_
  refine J_q 11 rfl rfl rfl rfl (Q_ldBK (k := 1) (stL c.aft) hS1 rfl rfl rfl Try.isAgg23 Try.sizeOf23 rfl rfl) ?_
  refine J_do 12 rfl rfl rfl rfl (D_bs (e := 23) (ps := [(0, .tmp 7), (1, .tmp 9), (2, .tmp 11)]) 2 ([.int .i64 c.node.c, .int .i64 c.node.r, .int .i64 c.par.c, .int .i64 c.par.r, .int .i64 c.aft.c, .int .i64 c.aft.r]) hS1 rfl rfl (fun _ => by kernel_rfl) (fun g2 w2 hS2 => ?_))
  refine J_q 13 rfl rfl rfl rfl (Q_toI (i' := 3) (Q_len rfl rfl Try.underlying36) (by decide)) ?_
  refine J_q 14 rfl rfl rfl rfl (Q_move rfl rfl) ?_
  refine J_nil (K_seq ?_)
  refine C_block ?_
  have hr3 := blk_rd (d := tSt) (xs := [c.node, c.par, c.aft]) hS2 2 rfl (Reps.snoc (Reps.snoc (Reps.snoc (Reps.nil _ w _) (mkSt (by first | exact ho_c.node | exact ho_c.par | exact ho_c.aft | (have hqs := nth_mem (l := [c.node, c.par, c.aft]) (i := i) (by omega) (by simp only [List.length_cons, List.length_nil]; omega); simp only [List.mem_cons, List.mem_nil_iff, or_false] at hqs; rcases hqs with hqs | hqs | hqs <;> rw [hqs]; exact ho_c.node; exact ho_c.par; exact ho_c.aft)))) (mkSt (by first | exact ho_c.node | exact ho_c.par | exact ho_c.aft | (have hqs := nth_mem (l := [c.node, c.par, c.aft]) (i := i) (by omega) (by simp only [List.length_cons, List.length_nil]; omega); simp only [List.mem_cons, List.mem_nil_iff, or_false] at hqs; rcases hqs with hqs | hqs | hqs <;> rw [hqs]; exact ho_c.node; exact ho_c.par; exact ho_c.aft)))) (mkSt (by first | exact ho_c.node | exact ho_c.par | exact ho_c.aft | (have hqs := nth_mem (l := [c.node, c.par, c.aft]) (i := i) (by omega) (by simp only [List.length_cons, List.length_nil]; omega); simp only [List.mem_cons, List.mem_nil_iff, or_false] at hqs; rcases hqs with hqs | hqs | hqs <;> rw [hqs]; exact ho_c.node; exact ho_c.par; exact ho_c.aft)))) (by simp only [List.length_cons, List.length_nil]; omega)
  have hS3 := hS2.frz 2 rfl
  have hS4 := hS3.nil 3 23 2
  refine C_loop2 (fun (i : Int) (out : Row Stamp) => (3 - i).toNat) (fun (i : Int) (out : Row Stamp) => [(0, .agg (chL c A_c cap_c).toArray), (1, .pointer (some (⟨g1, 0, none⟩ : Addr))), (2, .slice none 0 0), (6, .pointer (some ((⟨g1, 0, none⟩ : Addr).add 5))), (7, .agg (stL c.node).toArray), (8, .pointer (some ((⟨g1, 0, none⟩ : Addr).add 7))), (9, .agg (stL c.par).toArray), (10, .pointer (some ((⟨g1, 0, none⟩ : Addr).add 9))), (11, .agg (stL c.aft).toArray), (12, .slice (some ⟨g2, 0, none⟩) 3 3), (13, .int .i64 3), (14, .int .i64 i), (3, .slice out.A out.l.length out.c)]) (fun (i : Int) (out : Row Stamp) w' => (0 ≤ i) ∧ (i ≤ 3) ∧ (out.l.length ≤ i) ∧ (out.l = nameL c (tk [c.node, c.par, c.aft] i)) ∧ (Reps tSt w no out.l out.f) ∧ St w w' [(3, own 23 2 (.slice out.A out.l.length out.c) out.l.length out.f), (2, fz w2 (· = g2)), (1, blkL g1 (chL c A_c cap_c) 55), (0, fz w (lt_ w))]) 0 (⟨none, 0, [], []⟩) ⟨(by first | omega | (simp; done) | rfl), (by first | omega | (simp; done) | rfl), (by first | omega | (simp; done) | rfl), (by first | omega | (simp; done) | rfl), (Reps.nil _ w _), hS4⟩ ⟨rfl, rfl, rfl, rfl, rfl, rfl, rfl, rfl, rfl, rfl, rfl, rfl, rfl, trivial⟩ ?_
  rintro i out w5 ⟨h0, h1, ho, hn, hR_out, hS5⟩
  refine C_seq ?_
  refine C_region ?_
  refine J_q 15 rfl rfl rfl rfl (Q_lss rfl rfl rfl) ?_
  refine J_nil (K_seq ?_)
  refine C_seq ?_
  refine C_if rfl (fun h6 => ?_) (fun h6 => ?_)
  · refine C_skip (K_seq ?_)
    refine C_seq ?_
    refine C_block ?_
    refine C_seq ?_
    refine C_region ?_
    obtain ⟨ad7, es7, hA7, hr7, hc7⟩ := RdF.nth hr3 i (by omega) (by simp only [List.length_cons, List.length_nil]; omega)
    obtain ⟨rfl, ho7⟩ := openSt hr7
    refine J_q 16 rfl rfl rfl rfl (Q_iaE hA7 rfl rfl rfl Try.underlying36 Try.sizeOf23 (by omega) (by omega)) ?_
    refine J_q 17 rfl rfl rfl rfl (Q_ldCK' (stL (nth ([c.node, c.par, c.aft]) i)) (hc7 _ (hS5.get (k := 2) rfl)) rfl rfl Try.isAgg23 Try.sizeOf23 rfl rfl) ?_
    refine J_do 5 rfl rfl rfl rfl (D_alloc 4 hS5 rfl Try.zeroValue23 (fun g8 w8 hS8 => ?_))
    refine J_do0 rfl rfl rfl rfl (D_store' (k := 4) hS8 rfl rfl rfl rfl Try.sizeOf23 rfl rfl rfl (fun w9 hS9 => ?_))
    refine J_nil (K_seq ?_)
    refine C_seq ?_
    refine C_region ?_
    refine J_q 18 rfl rfl rfl rfl (Q_ldBK' (k := 4) (stL (nth ([c.node, c.par, c.aft]) i)) hS9 rfl rfl rfl Try.isAgg23 Try.sizeOf23 rfl rfl) ?_
    refine J_call 19 rfl rfl rfl rfl (T_call rfl rfl rfl Try.call54) (Right_calls _ (nth ([c.node, c.par, c.aft]) i)) ?_
    rintro _ w10 ⟨rfl, hk10⟩
    have hS10 := hS9.kp0 hk10
    refine ⟨_, rfl, ?_⟩
    refine J_q 20 rfl rfl rfl rfl (Q_move rfl rfl) ?_
    refine J_split 20 rfl (fun h11 => ?_) (fun h11 => ?_)
    · refine J_q 21 rfl rfl rfl rfl (Q_ldBK' (k := 4) (stL (nth ([c.node, c.par, c.aft]) i)) hS10 rfl rfl rfl Try.isAgg23 Try.sizeOf23 rfl rfl) ?_
      refine J_q 22 rfl rfl rfl rfl (Q_fa0 rfl rfl fo55_0) ?_
      refine J_q 23 rfl rfl rfl rfl (Q_ldBK (k := 1) (stL c.at_) hS10 rfl rfl rfl Try.isAgg23 Try.sizeOf23 rfl rfl) ?_
      refine J_q 24 rfl rfl rfl rfl (Q_neqP rfl rfl rfl pe23) ?_
      refine J_q 25 rfl rfl rfl rfl (Q_pickT rfl rfl rfl) ?_
      refine J_nil (K_seq ?_)
      refine C_ifN rfl (fun h12 => ?_) (fun h12 => ?_)
      · refine C_region ?_
        refine J_q 26 rfl rfl rfl rfl (Q_move rfl rfl) ?_
        refine J_q 27 rfl rfl rfl rfl (Q_ldBK' (k := 4) (stL (nth ([c.node, c.par, c.aft]) i)) hS10 rfl rfl rfl Try.isAgg23 Try.sizeOf23 rfl rfl) ?_
        refine J_do 28 rfl rfl rfl rfl (D_bs (e := 23) (ps := [(0, .tmp 27)]) 6 (stL (nth ([c.node, c.par, c.aft]) i)) hS10 rfl rfl (fun _ => by kernel_rfl) (fun g13 w13 hS13 => ?_))
        refine J_do 29 rfl rfl rfl rfl (D_app1L (nth ([c.node, c.par, c.aft]) i) out.l app36 hS13 3 rfl 6 rfl rfl rfl rfl rfl rfl (by first | omega | (simp only [List.length_nil, List.length_append, List.length_cons]; omega)) (by first | omega | (simp only [List.length_nil, List.length_append, List.length_cons]; omega)) (fun g14 cap14 w14 hS14 => ?_))
        refine J_q 3 rfl rfl rfl rfl (Q_assign rfl rfl) ?_
        refine J_nil (N_blk (K_seq ?_))
        refine C_region ?_
        refine J_q 30 rfl rfl rfl rfl (Q_add rfl rfl rfl (by omega) (by omega)) ?_
        refine J_q 14 rfl rfl rfl rfl (Q_move rfl rfl) ?_
        exact J_nil (K_round2 (x0 := i) (x1 := out) (i + 1) ⟨some ⟨g14, 0, none⟩, cap14, out.f ++ stL (nth ([c.node, c.par, c.aft]) i), out.l ++ [(nth ([c.node, c.par, c.aft]) i)]⟩ ⟨(by first | omega | (simp only [List.length_append, List.length_cons, List.length_nil]; omega) | (rw [nameL_yes h0 (by simp only [List.length_cons, List.length_nil]; omega) ⟨by assumption, by assumption⟩, ← hn]) | (rw [nameL_no h0 (by simp only [List.length_cons, List.length_nil]; omega) (fun h => by first | exact absurd h.1 (by assumption) | exact absurd (by assumption) h.2), ← hn])), (by first | omega | (simp only [List.length_append, List.length_cons, List.length_nil]; omega) | (rw [nameL_yes h0 (by simp only [List.length_cons, List.length_nil]; omega) ⟨by assumption, by assumption⟩, ← hn]) | (rw [nameL_no h0 (by simp only [List.length_cons, List.length_nil]; omega) (fun h => by first | exact absurd h.1 (by assumption) | exact absurd (by assumption) h.2), ← hn])), (by first | omega | (simp only [List.length_append, List.length_cons, List.length_nil]; omega) | (rw [nameL_yes h0 (by simp only [List.length_cons, List.length_nil]; omega) ⟨by assumption, by assumption⟩, ← hn]) | (rw [nameL_no h0 (by simp only [List.length_cons, List.length_nil]; omega) (fun h => by first | exact absurd h.1 (by assumption) | exact absurd (by assumption) h.2), ← hn])), (by first | omega | (simp only [List.length_append, List.length_cons, List.length_nil]; omega) | (rw [nameL_yes h0 (by simp only [List.length_cons, List.length_nil]; omega) ⟨by assumption, by assumption⟩, ← hn]) | (rw [nameL_no h0 (by simp only [List.length_cons, List.length_nil]; omega) (fun h => by first | exact absurd h.1 (by assumption) | exact absurd (by assumption) h.2), ← hn])), (Reps.snoc hR_out (mkSt (by first | exact ho_c.node | exact ho_c.par | exact ho_c.aft | (have hqs := nth_mem (l := [c.node, c.par, c.aft]) (i := i) (by omega) (by simp only [List.length_cons, List.length_nil]; omega); simp only [List.mem_cons, List.mem_nil_iff, or_false] at hqs; rcases hqs with hqs | hqs | hqs <;> rw [hqs]; exact ho_c.node; exact ho_c.par; exact ho_c.aft)))), (hS14.pick [3, 2, 1, 0] ⟨rfl, rfl, rfl, rfl, rfl, rfl, rfl, rfl, trivial⟩)⟩ (by omega) ⟨rfl, rfl, rfl, rfl, rfl, rfl, rfl, rfl, rfl, rfl, rfl, rfl, rfl, trivial⟩)
      · refine C_skip (N_blk (K_seq ?_))
        refine C_region ?_
        refine J_q 30 rfl rfl rfl rfl (Q_add rfl rfl rfl (by omega) (by omega)) ?_
        refine J_q 14 rfl rfl rfl rfl (Q_move rfl rfl) ?_
        exact J_nil (K_round2 (x0 := i) (x1 := out) (i + 1) ⟨out.A, out.c, out.f, out.l⟩ ⟨(by first | omega | (simp only [List.length_append, List.length_cons, List.length_nil]; omega) | (rw [nameL_yes h0 (by simp only [List.length_cons, List.length_nil]; omega) ⟨by assumption, by assumption⟩, ← hn]) | (rw [nameL_no h0 (by simp only [List.length_cons, List.length_nil]; omega) (fun h => by first | exact absurd h.1 (by assumption) | exact absurd (by assumption) h.2), ← hn])), (by first | omega | (simp only [List.length_append, List.length_cons, List.length_nil]; omega) | (rw [nameL_yes h0 (by simp only [List.length_cons, List.length_nil]; omega) ⟨by assumption, by assumption⟩, ← hn]) | (rw [nameL_no h0 (by simp only [List.length_cons, List.length_nil]; omega) (fun h => by first | exact absurd h.1 (by assumption) | exact absurd (by assumption) h.2), ← hn])), (by first | omega | (simp only [List.length_append, List.length_cons, List.length_nil]; omega) | (rw [nameL_yes h0 (by simp only [List.length_cons, List.length_nil]; omega) ⟨by assumption, by assumption⟩, ← hn]) | (rw [nameL_no h0 (by simp only [List.length_cons, List.length_nil]; omega) (fun h => by first | exact absurd h.1 (by assumption) | exact absurd (by assumption) h.2), ← hn])), (by first | omega | (simp only [List.length_append, List.length_cons, List.length_nil]; omega) | (rw [nameL_yes h0 (by simp only [List.length_cons, List.length_nil]; omega) ⟨by assumption, by assumption⟩, ← hn]) | (rw [nameL_no h0 (by simp only [List.length_cons, List.length_nil]; omega) (fun h => by first | exact absurd h.1 (by assumption) | exact absurd (by assumption) h.2), ← hn])), hR_out, (hS10.pick [3, 2, 1, 0] ⟨rfl, rfl, rfl, rfl, rfl, rfl, rfl, rfl, trivial⟩)⟩ (by omega) ⟨rfl, rfl, rfl, rfl, rfl, rfl, rfl, rfl, rfl, rfl, rfl, rfl, rfl, trivial⟩)
    · refine J_no rfl rfl rfl ?_
      refine J_no rfl rfl rfl ?_
      refine J_no rfl rfl rfl ?_
      refine J_no rfl rfl rfl ?_
      refine J_q 25 rfl rfl rfl rfl (Q_pickF rfl rfl rfl) ?_
      refine J_nil (K_seq ?_)
      refine C_false rfl ?_
      refine C_skip (N_blk (K_seq ?_))
      refine C_region ?_
      refine J_q 30 rfl rfl rfl rfl (Q_add rfl rfl rfl (by omega) (by omega)) ?_
      refine J_q 14 rfl rfl rfl rfl (Q_move rfl rfl) ?_
      exact J_nil (K_round2 (x0 := i) (x1 := out) (i + 1) ⟨out.A, out.c, out.f, out.l⟩ ⟨(by first | omega | (simp only [List.length_append, List.length_cons, List.length_nil]; omega) | (rw [nameL_yes h0 (by simp only [List.length_cons, List.length_nil]; omega) ⟨by assumption, by assumption⟩, ← hn]) | (rw [nameL_no h0 (by simp only [List.length_cons, List.length_nil]; omega) (fun h => by first | exact absurd h.1 (by assumption) | exact absurd (by assumption) h.2), ← hn])), (by first | omega | (simp only [List.length_append, List.length_cons, List.length_nil]; omega) | (rw [nameL_yes h0 (by simp only [List.length_cons, List.length_nil]; omega) ⟨by assumption, by assumption⟩, ← hn]) | (rw [nameL_no h0 (by simp only [List.length_cons, List.length_nil]; omega) (fun h => by first | exact absurd h.1 (by assumption) | exact absurd (by assumption) h.2), ← hn])), (by first | omega | (simp only [List.length_append, List.length_cons, List.length_nil]; omega) | (rw [nameL_yes h0 (by simp only [List.length_cons, List.length_nil]; omega) ⟨by assumption, by assumption⟩, ← hn]) | (rw [nameL_no h0 (by simp only [List.length_cons, List.length_nil]; omega) (fun h => by first | exact absurd h.1 (by assumption) | exact absurd (by assumption) h.2), ← hn])), (by first | omega | (simp only [List.length_append, List.length_cons, List.length_nil]; omega) | (rw [nameL_yes h0 (by simp only [List.length_cons, List.length_nil]; omega) ⟨by assumption, by assumption⟩, ← hn]) | (rw [nameL_no h0 (by simp only [List.length_cons, List.length_nil]; omega) (fun h => by first | exact absurd h.1 (by assumption) | exact absurd (by assumption) h.2), ← hn])), hR_out, (hS10.pick [3, 2, 1, 0] ⟨rfl, rfl, rfl, rfl, rfl, rfl, rfl, rfl, trivial⟩)⟩ (by omega) ⟨rfl, rfl, rfl, rfl, rfl, rfl, rfl, rfl, rfl, rfl, rfl, rfl, rfl, trivial⟩)
  · refine C_exit (X_then (X_then (X_hit (K_seq ?_))))
    refine C_seq ?_
    refine C_region ?_
    refine J_q 31 rfl rfl rfl rfl (Q_move rfl rfl) ?_
    have hr16 := own_rd0 (d := tSt) hS5 3 rfl rfl hR_out (by first | omega | (simp only [List.length_nil, List.length_append, List.length_cons]; omega))
    have hS16 := hS5.frzO 3 rfl
    refine J_call 32 rfl rfl rfl rfl (T_call rfl rfl rfl Try.call129) (SortI_calls _ _ out.l (hS16.rd 3 rfl hr16) (by omega)) ?_
    rintro _ w15 ⟨vM15, ym15, rfl, hk15, hmM15, hlM15, hRM15⟩
    have hS15 := hS16.call hk15 7
    obtain ⟨AM15, cM15, rfl, hcM15, hxM15⟩ := hRM15.slice
    refine ⟨_, rfl, ?_⟩
    refine J_q 2 rfl rfl rfl rfl (Q_assign rfl rfl) ?_
    refine J_nil (K_seq ?_)
    refine C_ret (body_ret (res1 rfl rfl) ?_)
    have h3 : tk [c.node, c.par, c.aft] i = [c.node, c.par, c.aft] := tk_full (by simp only [List.length_cons, List.length_nil]; omega)
    have hlx : out.l.length ≤ 3 := by omega
    exact ⟨_, ym15, rfl, hS15.kept (k := 0) rfl, fun s => by rw [hmM15 s, hn, h3, mem_names5], by omega, hS15.giveRd (d := tSt) rfl 7 rfl rfl hRM15⟩
end Go.Proofs.Ytceeellnjckmiaa

