/- The texts Or, Os, Ot, Ou, In, Io, So4, Ad, La, Lb, merged. Proved: what their theorems say, with no condition but those written. -/
import Derived.Test.YtceeellnjckmiaaBase6
/- Printed by a program of mine (gen.py). -/
set_option linter.unusedVariables false
set_option linter.unusedSimpArgs false
set_option maxRecDepth 100000
namespace Go.Proofs.Ytceeellnjckmiaa
open Go Go.Sl
theorem fo117_2 : FieldOk Try.prog 117 2 2 := fieldOk Try.underlying117 rfl rfl Try.sizeOf114
theorem stkey23 : StKey Try.prog 23 := stKey_of Try.underlying23 pe23 fun _ _ _ => by kernel_rfl
theorem fo121_0 : FieldOk Try.prog 121 0 0 := fieldOk Try.underlying121 rfl rfl Try.sizeOf3
theorem Lready_calls (w : World) (g_x : Nat) (p_x : LogP) (xR : Int) (x : List Change) (h_x : LogR w (lt_ w) g_x p_x xR x) (l_c : List Value) (c : Change) (h_c : tCh.rd w l_c c) (hrt : right c.at_) (hd : chk2 c.deps = 0) :
    Calls Try.prog 71 #[.pointer (some ⟨g_x, 0, none⟩), .agg l_c.toArray] w fun e w' => e = .returned (.int .i64 (readyP x c)) ∧ Kp no w w' := by
  have hS0 := St.start w
  have hle_x := h_x.le
  have hcap_x := h_x.all.cap_le
  have hF_c := RdF.of_rd h_c
  obtain ⟨A_c, cap_c, rfl, hd_c, ho_c⟩ := openCh hF_c
  have hln_c := RdF.lens hd_c
  have hsq_c := ho_c.seq
  have hrise := h_x.good.rise
  have hdl := chk2_le hd
  have hda := chk2_all hd
  refine fn_callsM 95 (args := [_, _]) Try.func71 rfl rfl rfl ?_
  refine C_seq ?_
  refine C_region ?_
  refine J_do 2 rfl rfl rfl rfl (D_box 1 hS0 rfl rfl (fun g1 w1 hS1 => ?_))
  refine J_do 3 rfl rfl rfl rfl (D_box 2 hS1 rfl rfl (fun g2 w2 hS2 => ?_))
  refine J_do 4 rfl rfl rfl rfl (D_alloc 3 hS2 rfl Try.zeroValue31 (fun g3 w3 hS3 => ?_))
  refine J_nil (K_seq ?_)
  refine C_seq ?_
  refine C_seq ?_
  refine C_draw (fun w' => St w w' [(3, blkL g3 ([.int .i64 0]) 31), (2, blkL g2 (chL c A_c cap_c) 55), (1, blkL g1 ([.pointer (some (⟨g_x, 0, none⟩ : Addr))]) 45), (0, fz w (lt_ w))]) 13 mixedOrders 13 rfl (fun w4 hk4 => ?_)
  have hS4 := hS3.kp0 hk4
  refine JA_p 0 12 13 rfl rfl rfl rfl (by kernel_rfl) (by kernel_rfl) (fun _ => Q_fa0 rfl rfl fo55_1) ?_
  refine JA_q 1 13 rfl rfl rfl rfl (by kernel_rfl) (by kernel_rfl) hS4 (fun _ hI => Q_ldB1 (k := 2) hI rfl rfl rfl Try.isAgg3 rfl) ?_
  refine JA_q 2 14 rfl rfl rfl rfl (by kernel_rfl) (by kernel_rfl) hS4 (fun _ hI => Q_ldB1' (k := 1) hI rfl rfl rfl Try.isAgg45 rfl) ?_
  refine JA_p 3 15 13 rfl rfl rfl rfl (by kernel_rfl) (by kernel_rfl) (fun _ => Q_fa0 rfl rfl fo55_0) ?_
  refine JA_p 4 16 13 rfl rfl rfl rfl (by kernel_rfl) (by kernel_rfl) (fun _ => Q_fa rfl rfl fo23_1 rfl) ?_
  refine JA_q 5 17 rfl rfl rfl rfl (by kernel_rfl) (by kernel_rfl) hS4 (fun _ hI => Q_ldB1 (k := 2) hI rfl rfl rfl Try.isAgg3 rfl) ?_
  refine JA_p 6 18 13 rfl rfl rfl rfl (by kernel_rfl) (by kernel_rfl) (fun _ => Q_nil rfl rfl) ?_
  refine JA_p 7 19 13 rfl rfl rfl rfl (by kernel_rfl) (by kernel_rfl) (fun _ => Q_fa0 rfl rfl fo117_3) ?_
  refine JA_p 8 20 13 rfl rfl rfl rfl (by kernel_rfl) (by kernel_rfl) (fun _ => Q_iaArr rfl rfl rfl Try.underlying115 Try.sizeOf36 (by omega) (by omega)) ?_
  obtain ⟨Aw5, cw5, ew5, hw5, hwl5⟩ := h_x.rowAt c.at_.r (by omega) (by omega)
  have hcw5 := hw5.cap_le
  refine JA_q 9 21 rfl rfl rfl rfl (by kernel_rfl) (by kernel_rfl) hS4 (fun _ hI => Q_ldC1 (h_x.box _ (hI.get (k := 0) rfl)) rfl rfl Try.isAgg36 ((h_x.cget c.at_.r (by omega) (by omega)).trans (by rw [ew5]))) ?_
  refine JA_p 10 22 13 rfl rfl rfl rfl (by kernel_rfl) (by kernel_rfl) (fun _ => Q_len rfl rfl Try.underlying36) ?_
  refine JA_p 11 23 13 rfl rfl rfl rfl (by kernel_rfl) (by kernel_rfl) (fun _ => Q_add rfl rfl rfl (by omega) (by omega)) ?_
  refine JA_p 12 24 13 rfl rfl rfl rfl (by kernel_rfl) (by kernel_rfl) (fun _ => Q_neqN rfl rfl rfl) ?_
  refine JA_end (by kernel_rfl) (K_seq ?_)
  refine C_ifN rfl (fun h6 => ?_) (fun h6 => ?_)
  · refine C_seq ?_
    refine C_region ?_
    refine J_do0 rfl rfl rfl rfl (D_store' (k := 3) hS4 rfl rfl rfl rfl Try.sizeOf31 rfl rfl rfl (fun w7 hS7 => ?_))
    refine J_nil (K_seq ?_)
    refine C_ret (R_then (bodyM_ret (w0 := w) ?_))
    refine marks_end (resG (vs := [.int .i64 4]) rfl ⟨rC1 (blk_cells (k := 3) hS7 rfl) rfl Try.isAgg31 rfl, trivial⟩) ?_
    exact ⟨congrArg Ending.returned (eqI (by first | (exact (ready_1 (by assumption)).symm) | (exact (ready_2 (by assumption) (fun hh => absurd (hh i h0 (by omega)) (by simp only [depLe]; omega))).symm) | (exact (ready_3 (by assumption) (hu.full (by omega)) (fun hh => (hh k h2 (by omega)).elim (fun h => h (by assumption)) (fun h => absurd h (by assumption)))).symm) | (exact (ready_4 (s := nth ysR j) (by assumption) (hu.full (by omega)) (hv.full (by omega)) (by rw [← hmNames, ← hmR]; exact nth_mem (by omega) (by omega)) (by first | exact nameP_no1 (by assumption) | exact nameP_no2 (by assumption))).symm) | (refine (ready_0 (by assumption) (hu.full (by omega)) (hv.full (by omega)) ?_).symm; intro s hs; rw [← hmNames, ← hmR] at hs; obtain ⟨j, hj0, hj1, rfl⟩ := mem_nth.1 hs; exact hw j hj0 (by omega)))), hS7.kept (k := 0) rfl⟩
  · refine C_skip (K_seq ?_)
    refine C_seq ?_
    refine C_seq ?_
    refine C_region ?_
    refine J_q 25 rfl rfl rfl rfl (Q_fa0 rfl rfl fo55_2) ?_
    refine J_q 26 rfl rfl rfl rfl (Q_ldB1 (k := 2) hS4 rfl rfl rfl Try.isAgg44 rfl) ?_
    refine J_q 27 rfl rfl rfl rfl (Q_len rfl rfl Try.underlying44) ?_
    refine J_q 28 rfl rfl rfl rfl (Q_move rfl rfl) ?_
    refine J_nil (K_seq ?_)
    refine C_block ?_
    refine C_loop1 (fun (i : Int) => (c.deps.length - i).toNat) (fun (i : Int) => [(0, .pointer (some (⟨g_x, 0, none⟩ : Addr))), (1, .agg (chL c A_c cap_c).toArray), (2, .pointer (some (⟨g1, 0, none⟩ : Addr))), (3, .pointer (some (⟨g2, 0, none⟩ : Addr))), (4, .pointer (some (⟨g3, 0, none⟩ : Addr))), (12, .pointer (some ((⟨g2, 0, none⟩ : Addr).add 2))), (13, .int .i64 c.seq), (14, .pointer (some (⟨g_x, 0, none⟩ : Addr))), (15, .pointer (some ((⟨g2, 0, none⟩ : Addr).add 0))), (16, .pointer (some ((⟨g2, 0, none⟩ : Addr).add 1))), (17, .int .i64 c.at_.r), (18, .pointer (some (⟨g_x, 0, none⟩ : Addr))), (19, .pointer (some ((⟨g_x, 0, none⟩ : Addr).add 3))), (20, .pointer (some ((⟨g_x, 0, none⟩ : Addr).add (3 + (c.at_.r).toNat * 1)))), (21, .slice Aw5 ((rowS x c.at_.r).length) cw5), (22, .int .i64 ((rowS x c.at_.r).length : Int)), (23, .int .i64 (((rowS x c.at_.r).length : Int) + 1)), (24, .bool (!decide (c.seq = ((rowS x c.at_.r).length : Int) + 1))), (25, .pointer (some ((⟨g2, 0, none⟩ : Addr).add 3))), (26, .slice A_c c.deps.length cap_c), (27, .int .i64 (c.deps.length : Int)), (28, .int .i64 i)]) (fun (i : Int) w' => (0 ≤ i) ∧ (i ≤ c.deps.length) ∧ (Up i (depLe x c)) ∧ St w w' [(3, blkL g3 ([.int .i64 0]) 31), (2, blkL g2 (chL c A_c cap_c) 55), (1, blkL g1 ([.pointer (some (⟨g_x, 0, none⟩ : Addr))]) 45), (0, fz w (lt_ w))]) 0 ⟨(by first | omega | exact Up.zero), (by first | omega | exact Up.zero), (by first | omega | exact Up.zero), hS4⟩ ⟨rfl, rfl, rfl, rfl, rfl, rfl, rfl, rfl, rfl, rfl, rfl, rfl, rfl, rfl, rfl, rfl, rfl, rfl, rfl, rfl, rfl, rfl, trivial⟩ ?_
    rintro i w8 ⟨h0, h1, hu, hS8⟩
    refine C_seq ?_
    refine C_region ?_
    refine J_q 29 rfl rfl rfl rfl (Q_lss rfl rfl rfl) ?_
    refine J_nil (K_seq ?_)
    refine C_seq ?_
    refine C_if rfl (fun h9 => ?_) (fun h9 => ?_)
    · refine C_skip (K_seq ?_)
      refine C_seq ?_
      refine C_block ?_
      refine C_seq ?_
      refine C_region ?_
      refine J_q 30 rfl rfl rfl rfl (Q_move rfl rfl) ?_
      obtain ⟨ad10, es10, hA10, hr10, hc10⟩ := RdF.nth hd_c i (by first | omega | (have hq := hu k (by omega) (by omega); simp only [depLe] at hq; omega)) (by first | omega | (have hq := hu k (by omega) (by omega); simp only [depLe] at hq; omega))
      obtain ⟨rfl, ho10⟩ := openI hr10
      refine J_q 31 rfl rfl rfl rfl (Q_iaE hA10 rfl rfl rfl Try.underlying44 Try.sizeOf3 (by first | omega | (have hq := hu k (by omega) (by omega); simp only [depLe] at hq; omega)) (by first | omega | (have hq := hu k (by omega) (by omega); simp only [depLe] at hq; omega))) ?_
      refine J_q 32 rfl rfl rfl rfl (Q_ldC1' (hc10 _ (hS8.get (k := 0) rfl)) rfl rfl Try.isAgg3 rfl) ?_
      refine J_q 5 rfl rfl rfl rfl (Q_assign rfl rfl) ?_
      refine J_q 6 rfl rfl rfl rfl (Q_assign rfl rfl) ?_
      refine J_nil (K_seq ?_)
      refine C_seq ?_
      refine C_region ?_
      refine J_q 33 rfl rfl rfl rfl (Q_move rfl rfl) ?_
      refine J_q 34 rfl rfl rfl rfl (Q_ldB1' (k := 1) hS8 rfl rfl rfl Try.isAgg45 rfl) ?_
      refine J_q 35 rfl rfl rfl rfl (Q_move rfl rfl) ?_
      refine J_q 36 rfl rfl rfl rfl (Q_nil rfl rfl) ?_
      refine J_q 37 rfl rfl rfl rfl (Q_fa0 rfl rfl fo117_3) ?_
      refine J_q 38 rfl rfl rfl rfl (Q_iaArr rfl rfl rfl Try.underlying115 Try.sizeOf36 (by omega) (by omega)) ?_
      obtain ⟨Aw11, cw11, ew11, hw11, hwl11⟩ := h_x.rowAt i (by omega) (by omega)
      have hcw11 := hw11.cap_le
      refine J_q 39 rfl rfl rfl rfl (Q_ldC1 (h_x.box _ (hS8.get (k := 0) rfl)) rfl rfl Try.isAgg36 ((h_x.cget i (by omega) (by omega)).trans (by rw [ew11]))) ?_
      refine J_q 40 rfl rfl rfl rfl (Q_len rfl rfl Try.underlying36) ?_
      refine J_q 41 rfl rfl rfl rfl (Q_gtr rfl rfl rfl) ?_
      refine J_nil (K_seq ?_)
      refine C_if rfl (fun h12 => ?_) (fun h12 => ?_)
      · refine C_seq ?_
        refine C_region ?_
        refine J_do0 rfl rfl rfl rfl (D_store' (k := 3) hS8 rfl rfl rfl rfl Try.sizeOf31 rfl rfl rfl (fun w13 hS13 => ?_))
        refine J_nil (K_seq ?_)
        refine C_ret (R_blk (R_then (R_then (R_blk (R_then (bodyM_ret (w0 := w) ?_))))))
        refine marks_end (resG (vs := [.int .i64 4]) rfl ⟨rC1 (blk_cells (k := 3) hS13 rfl) rfl Try.isAgg31 rfl, trivial⟩) ?_
        exact ⟨congrArg Ending.returned (eqI (by first | (exact (ready_1 (by assumption)).symm) | (exact (ready_2 (by assumption) (fun hh => absurd (hh i h0 (by omega)) (by simp only [depLe]; omega))).symm) | (exact (ready_3 (by assumption) (hu.full (by omega)) (fun hh => (hh k h2 (by omega)).elim (fun h => h (by assumption)) (fun h => absurd h (by assumption)))).symm) | (exact (ready_4 (s := nth ysR j) (by assumption) (hu.full (by omega)) (hv.full (by omega)) (by rw [← hmNames, ← hmR]; exact nth_mem (by omega) (by omega)) (by first | exact nameP_no1 (by assumption) | exact nameP_no2 (by assumption))).symm) | (refine (ready_0 (by assumption) (hu.full (by omega)) (hv.full (by omega)) ?_).symm; intro s hs; rw [← hmNames, ← hmR] at hs; obtain ⟨j, hj0, hj1, rfl⟩ := mem_nth.1 hs; exact hw j hj0 (by omega)))), hS13.kept (k := 0) rfl⟩
      · refine C_skip (N_blk (K_seq ?_))
        refine C_region ?_
        refine J_q 42 rfl rfl rfl rfl (Q_add rfl rfl rfl (by omega) (by omega)) ?_
        refine J_q 28 rfl rfl rfl rfl (Q_move rfl rfl) ?_
        exact J_nil (K_round1 (x0 := i) (i + 1) ⟨(by first | omega | (exact Up.snoc hu (show nth c.deps i ≤ (rowS x i).length by omega))), (by first | omega | (exact Up.snoc hu (show nth c.deps i ≤ (rowS x i).length by omega))), (by first | omega | (exact Up.snoc hu (show nth c.deps i ≤ (rowS x i).length by omega))), hS8⟩ (by omega) ⟨rfl, rfl, rfl, rfl, rfl, rfl, rfl, rfl, rfl, rfl, rfl, rfl, rfl, rfl, rfl, rfl, rfl, rfl, rfl, rfl, rfl, rfl, trivial⟩)
    · refine C_exit (X_then (X_then (X_hit (K_seq ?_))))
      refine C_seq ?_
      refine C_seq ?_
      refine C_region ?_
      refine J_q 43 rfl rfl rfl rfl (Q_fa0 rfl rfl fo55_2) ?_
      refine J_q 44 rfl rfl rfl rfl (Q_ldB1 (k := 2) hS8 rfl rfl rfl Try.isAgg44 rfl) ?_
      refine J_q 45 rfl rfl rfl rfl (Q_len rfl rfl Try.underlying44) ?_
      refine J_q 46 rfl rfl rfl rfl (Q_move rfl rfl) ?_
      refine J_nil (K_seq ?_)
      refine C_block ?_
      refine C_loop1 (fun (k : Int) => (c.deps.length - k).toNat) (fun (k : Int) => [(0, .pointer (some (⟨g_x, 0, none⟩ : Addr))), (1, .agg (chL c A_c cap_c).toArray), (2, .pointer (some (⟨g1, 0, none⟩ : Addr))), (3, .pointer (some (⟨g2, 0, none⟩ : Addr))), (4, .pointer (some (⟨g3, 0, none⟩ : Addr))), (12, .pointer (some ((⟨g2, 0, none⟩ : Addr).add 2))), (13, .int .i64 c.seq), (14, .pointer (some (⟨g_x, 0, none⟩ : Addr))), (15, .pointer (some ((⟨g2, 0, none⟩ : Addr).add 0))), (16, .pointer (some ((⟨g2, 0, none⟩ : Addr).add 1))), (17, .int .i64 c.at_.r), (18, .pointer (some (⟨g_x, 0, none⟩ : Addr))), (19, .pointer (some ((⟨g_x, 0, none⟩ : Addr).add 3))), (20, .pointer (some ((⟨g_x, 0, none⟩ : Addr).add (3 + (c.at_.r).toNat * 1)))), (21, .slice Aw5 ((rowS x c.at_.r).length) cw5), (22, .int .i64 ((rowS x c.at_.r).length : Int)), (23, .int .i64 (((rowS x c.at_.r).length : Int) + 1)), (24, .bool (!decide (c.seq = ((rowS x c.at_.r).length : Int) + 1))), (25, .pointer (some ((⟨g2, 0, none⟩ : Addr).add 3))), (26, .slice A_c c.deps.length cap_c), (27, .int .i64 (c.deps.length : Int)), (28, .int .i64 i), (29, .bool (decide (i < (c.deps.length : Int)))), (43, .pointer (some ((⟨g2, 0, none⟩ : Addr).add 3))), (44, .slice A_c c.deps.length cap_c), (45, .int .i64 (c.deps.length : Int)), (46, .int .i64 k)]) (fun (k : Int) w' => (0 ≤ k) ∧ (k ≤ c.deps.length) ∧ (Up k (depP x c)) ∧ St w w' [(3, blkL g3 ([.int .i64 0]) 31), (2, blkL g2 (chL c A_c cap_c) 55), (1, blkL g1 ([.pointer (some (⟨g_x, 0, none⟩ : Addr))]) 45), (0, fz w (lt_ w))]) 0 ⟨(by first | omega | exact Up.zero), (by first | omega | exact Up.zero), (by first | omega | exact Up.zero), hS8⟩ ⟨rfl, rfl, rfl, rfl, rfl, rfl, rfl, rfl, rfl, rfl, rfl, rfl, rfl, rfl, rfl, rfl, rfl, rfl, rfl, rfl, rfl, rfl, rfl, rfl, rfl, rfl, rfl, trivial⟩ ?_
      rintro k w14 ⟨h2, h3, hv, hS14⟩
      refine C_seq ?_
      refine C_region ?_
      refine J_q 47 rfl rfl rfl rfl (Q_lss rfl rfl rfl) ?_
      refine J_nil (K_seq ?_)
      refine C_seq ?_
      refine C_if rfl (fun h15 => ?_) (fun h15 => ?_)
      · refine C_skip (K_seq ?_)
        refine C_seq ?_
        refine C_block ?_
        refine C_seq ?_
        refine C_region ?_
        refine J_q 48 rfl rfl rfl rfl (Q_move rfl rfl) ?_
        obtain ⟨ad16, es16, hA16, hr16, hc16⟩ := RdF.nth hd_c k (by first | omega | (have hq := hu k (by omega) (by omega); simp only [depLe] at hq; omega)) (by first | omega | (have hq := hu k (by omega) (by omega); simp only [depLe] at hq; omega))
        obtain ⟨rfl, ho16⟩ := openI hr16
        refine J_q 49 rfl rfl rfl rfl (Q_iaE hA16 rfl rfl rfl Try.underlying44 Try.sizeOf3 (by first | omega | (have hq := hu k (by omega) (by omega); simp only [depLe] at hq; omega)) (by first | omega | (have hq := hu k (by omega) (by omega); simp only [depLe] at hq; omega))) ?_
        refine J_q 50 rfl rfl rfl rfl (Q_ldC1' (hc16 _ (hS14.get (k := 0) rfl)) rfl rfl Try.isAgg3 rfl) ?_
        refine J_q 7 rfl rfl rfl rfl (Q_assign rfl rfl) ?_
        refine J_q 8 rfl rfl rfl rfl (Q_assign rfl rfl) ?_
        refine J_nil (K_seq ?_)
        refine C_seq ?_
        refine C_draw (fun w' => St w w' [(3, blkL g3 ([.int .i64 0]) 31), (2, blkL g2 (chL c A_c cap_c) 55), (1, blkL g1 ([.pointer (some (⟨g_x, 0, none⟩ : Addr))]) 45), (0, fz w (lt_ w))]) 18 mixedOrders 18 rfl (fun w17 hk17 => ?_)
        have hS17 := hS14.kp0 hk17
        refine JA_p 0 51 18 rfl rfl rfl rfl (by kernel_rfl) (by kernel_rfl) (fun _ => Q_move rfl rfl) ?_
        refine JA_p 1 52 18 rfl rfl rfl rfl (by kernel_rfl) (by kernel_rfl) (fun _ => Q_gtr rfl rfl rfl) ?_
        refine JA_p 2 53 18 rfl rfl rfl rfl (by kernel_rfl) (by kernel_rfl) (fun _ => Q_move rfl rfl) ?_
        refine JA_split 53 rfl (fun h18 => ?_) (fun h18 => ?_)
        · refine JA_q 3 54 rfl rfl rfl rfl (by kernel_rfl) (by kernel_rfl) hS17 (fun _ hI => Q_ldB1' (k := 1) hI rfl rfl rfl Try.isAgg45 rfl) ?_
          refine JA_p 4 55 18 rfl rfl rfl rfl (by kernel_rfl) (by kernel_rfl) (fun _ => Q_move rfl rfl) ?_
          refine JA_p 5 56 18 rfl rfl rfl rfl (by kernel_rfl) (by kernel_rfl) (fun _ => Q_nil rfl rfl) ?_
          refine JA_p 6 57 18 rfl rfl rfl rfl (by kernel_rfl) (by kernel_rfl) (fun _ => Q_fa0 rfl rfl fo117_3) ?_
          refine JA_p 7 58 18 rfl rfl rfl rfl (by kernel_rfl) (by kernel_rfl) (fun _ => Q_iaArr rfl rfl rfl Try.underlying115 Try.sizeOf36 (by omega) (by omega)) ?_
          obtain ⟨Aw19, cw19, ew19, hw19, hwl19⟩ := h_x.rowAt k (by omega) (by omega)
          have hcw19 := hw19.cap_le
          refine JA_q 8 59 rfl rfl rfl rfl (by kernel_rfl) (by kernel_rfl) hS17 (fun _ hI => Q_ldC1 (h_x.box _ (hI.get (k := 0) rfl)) rfl rfl Try.isAgg36 ((h_x.cget k (by omega) (by omega)).trans (by rw [ew19]))) ?_
          refine JA_p 9 60 18 rfl rfl rfl rfl (by kernel_rfl) (by kernel_rfl) (fun _ => Q_move rfl rfl) ?_
          refine JA_p 10 61 18 rfl rfl rfl rfl (by kernel_rfl) (by kernel_rfl) (fun _ => Q_sub rfl rfl rfl (by omega) (by omega)) ?_
          obtain ⟨ad20, es20, hA20, hr20, hc20⟩ := RdF.nth hw19 ((nth c.deps k) - 1) (by first | omega | (have hq := hu k (by omega) (by omega); simp only [depLe] at hq; omega)) (by first | omega | (have hq := hu k (by omega) (by omega); simp only [depLe] at hq; omega))
          obtain ⟨rfl, ho20⟩ := openSt hr20
          refine JA_p 11 62 18 rfl rfl rfl rfl (by kernel_rfl) (by kernel_rfl) (fun _ => Q_iaE hA20 rfl rfl rfl Try.underlying36 Try.sizeOf23 (by first | omega | (have hq := hu k (by omega) (by omega); simp only [depLe] at hq; omega)) (by first | omega | (have hq := hu k (by omega) (by omega); simp only [depLe] at hq; omega))) ?_
          refine JA_q 12 63 rfl rfl rfl rfl (by kernel_rfl) (by kernel_rfl) hS17 (fun _ hI => Q_ldCK' (stL (nth (rowS x k) ((nth c.deps k) - 1))) (hc20 _ (hI.get (k := 0) rfl)) rfl rfl Try.isAgg23 Try.sizeOf23 rfl rfl) ?_
          refine JA_p 13 64 18 rfl rfl rfl rfl (by kernel_rfl) (by kernel_rfl) (fun _ => Q_fa0 rfl rfl fo55_0) ?_
          refine JA_q 14 65 rfl rfl rfl rfl (by kernel_rfl) (by kernel_rfl) hS17 (fun _ hI => Q_ldBK (k := 2) (stL c.at_) hI rfl rfl rfl Try.isAgg23 Try.sizeOf23 rfl rfl) ?_
          refine JA_call 15 66 rfl rfl rfl rfl (by kernel_rfl) (T_call rfl rfl rfl Try.call101) (Less_calls _ (nth (rowS x k) ((nth c.deps k) - 1)) c.at_) ?_
          rintro _ w21 ⟨rfl, hk21⟩
          have hS21 := hS17.kp0 hk21
          refine ⟨_, rfl, (fun _ => hS21), ?_⟩
          refine JA_p 16 67 18 rfl rfl rfl rfl (by kernel_rfl) (by kernel_rfl) (fun _ => Q_not rfl rfl) ?_
          refine JA_p 17 68 18 rfl rfl rfl rfl (by kernel_rfl) (by kernel_rfl) (fun _ => Q_pickT rfl rfl rfl) ?_
          refine JA_end (by kernel_rfl) (K_seq ?_)
          refine C_ifN rfl (fun h22 => ?_) (fun h22 => ?_)
          · refine C_seq ?_
            refine C_region ?_
            refine J_do0 rfl rfl rfl rfl (D_store' (k := 3) hS21 rfl rfl rfl rfl Try.sizeOf31 rfl rfl rfl (fun w23 hS23 => ?_))
            refine J_nil (K_seq ?_)
            refine C_ret (R_blk (R_then (R_then (R_blk (R_then (bodyM_ret (w0 := w) ?_))))))
            refine marks_end (resG (vs := [.int .i64 2]) rfl ⟨rC1 (blk_cells (k := 3) hS23 rfl) rfl Try.isAgg31 rfl, trivial⟩) ?_
            exact ⟨congrArg Ending.returned (eqI (by first | (exact (ready_1 (by assumption)).symm) | (exact (ready_2 (by assumption) (fun hh => absurd (hh i h0 (by omega)) (by simp only [depLe]; omega))).symm) | (exact (ready_3 (by assumption) (hu.full (by omega)) (fun hh => (hh k h2 (by omega)).elim (fun h => h (by assumption)) (fun h => absurd h (by assumption)))).symm) | (exact (ready_4 (s := nth ysR j) (by assumption) (hu.full (by omega)) (hv.full (by omega)) (by rw [← hmNames, ← hmR]; exact nth_mem (by omega) (by omega)) (by first | exact nameP_no1 (by assumption) | exact nameP_no2 (by assumption))).symm) | (refine (ready_0 (by assumption) (hu.full (by omega)) (hv.full (by omega)) ?_).symm; intro s hs; rw [← hmNames, ← hmR] at hs; obtain ⟨j, hj0, hj1, rfl⟩ := mem_nth.1 hs; exact hw j hj0 (by omega)))), hS23.kept (k := 0) rfl⟩
          · refine C_skip (N_blk (K_seq ?_))
            refine C_region ?_
            refine J_q 69 rfl rfl rfl rfl (Q_add rfl rfl rfl (by omega) (by omega)) ?_
            refine J_q 46 rfl rfl rfl rfl (Q_move rfl rfl) ?_
            exact J_nil (K_round1 (x0 := k) (k + 1) ⟨(by first | omega | (exact Up.snoc hv (.inl (by assumption))) | (exact Up.snoc hv (.inr (by assumption)))), (by first | omega | (exact Up.snoc hv (.inl (by assumption))) | (exact Up.snoc hv (.inr (by assumption)))), (by first | omega | (exact Up.snoc hv (.inl (by assumption))) | (exact Up.snoc hv (.inr (by assumption)))), hS21⟩ (by omega) ⟨rfl, rfl, rfl, rfl, rfl, rfl, rfl, rfl, rfl, rfl, rfl, rfl, rfl, rfl, rfl, rfl, rfl, rfl, rfl, rfl, rfl, rfl, rfl, rfl, rfl, rfl, rfl, trivial⟩)
        · refine JA_no 3 18 rfl rfl rfl (by kernel_rfl) (by kernel_rfl) (fun _ h => by cases h; rfl) ?_
          refine JA_no 4 18 rfl rfl rfl (by kernel_rfl) (by kernel_rfl) (fun _ h => by cases h; rfl) ?_
          refine JA_no 5 18 rfl rfl rfl (by kernel_rfl) (by kernel_rfl) (fun _ h => by cases h; rfl) ?_
          refine JA_no 6 18 rfl rfl rfl (by kernel_rfl) (by kernel_rfl) (fun _ h => by cases h; rfl) ?_
          refine JA_no 7 18 rfl rfl rfl (by kernel_rfl) (by kernel_rfl) (fun _ h => by cases h; rfl) ?_
          refine JA_no 8 18 rfl rfl rfl (by kernel_rfl) (by kernel_rfl) (fun _ h => by cases h; rfl) ?_
          refine JA_no 9 18 rfl rfl rfl (by kernel_rfl) (by kernel_rfl) (fun _ h => by cases h; rfl) ?_
          refine JA_no 10 18 rfl rfl rfl (by kernel_rfl) (by kernel_rfl) (fun _ h => by cases h; rfl) ?_
          refine JA_no 11 18 rfl rfl rfl (by kernel_rfl) (by kernel_rfl) (fun _ h => by cases h; rfl) ?_
          refine JA_no 12 18 rfl rfl rfl (by kernel_rfl) (by kernel_rfl) (fun _ h => by cases h; rfl) ?_
          refine JA_no 13 18 rfl rfl rfl (by kernel_rfl) (by kernel_rfl) (fun _ h => by cases h; rfl) ?_
          refine JA_no 14 18 rfl rfl rfl (by kernel_rfl) (by kernel_rfl) (fun _ h => by cases h; rfl) ?_
          refine JA_no 15 18 rfl rfl rfl (by kernel_rfl) (by kernel_rfl) (fun _ h => by cases h; rfl) ?_
          refine JA_no 16 18 rfl rfl rfl (by kernel_rfl) (by kernel_rfl) (fun _ h => by cases h; rfl) ?_
          refine JA_p 17 68 18 rfl rfl rfl rfl (by kernel_rfl) (by kernel_rfl) (fun _ => Q_pickF rfl rfl rfl) ?_
          refine JA_end (by kernel_rfl) (K_seq ?_)
          refine C_false rfl ?_
          refine C_skip (N_blk (K_seq ?_))
          refine C_region ?_
          refine J_q 69 rfl rfl rfl rfl (Q_add rfl rfl rfl (by omega) (by omega)) ?_
          refine J_q 46 rfl rfl rfl rfl (Q_move rfl rfl) ?_
          exact J_nil (K_round1 (x0 := k) (k + 1) ⟨(by first | omega | (exact Up.snoc hv (.inl (by assumption))) | (exact Up.snoc hv (.inr (by assumption)))), (by first | omega | (exact Up.snoc hv (.inl (by assumption))) | (exact Up.snoc hv (.inr (by assumption)))), (by first | omega | (exact Up.snoc hv (.inl (by assumption))) | (exact Up.snoc hv (.inr (by assumption)))), hS17⟩ (by omega) ⟨rfl, rfl, rfl, rfl, rfl, rfl, rfl, rfl, rfl, rfl, rfl, rfl, rfl, rfl, rfl, rfl, rfl, rfl, rfl, rfl, rfl, rfl, rfl, rfl, rfl, rfl, rfl, trivial⟩)
      · refine C_exit (X_then (X_then (X_hit (K_seq ?_))))
        refine C_seq ?_
        refine C_seq ?_
        refine C_region ?_
        refine J_q 70 rfl rfl rfl rfl (Q_ldBK' (k := 2) (chL c A_c cap_c) hS14 rfl rfl rfl Try.isAgg55 Try.sizeOf55 rfl rfl) ?_
        refine J_call 71 rfl rfl rfl rfl (T_call rfl rfl rfl Try.call103) (NamesI_calls _ _ c (hS14.rd 0 rfl hF_c)) ?_
        rintro _ w24 ⟨vM24, ym24, rfl, hk24, hmM24, hlM24, hRM24⟩
        have hS24 := hS14.call hk24 7
        obtain ⟨AM24, cM24, rfl, hcM24, hxM24⟩ := hRM24.slice
        refine ⟨_, rfl, ?_⟩
        have hmNames := hmM24
        refine J_call 72 rfl rfl rfl rfl (T_call rfl rfl rfl Try.call102) (Rising_calls _ _ ym24 (hS24.rd 7 rfl hRM24) (by omega)) ?_
        rintro _ w25 ⟨gR, vR, rfl, hk25, hBR, ysR, hmR, hlR, hRR⟩
        have hS25 := hS24.call hk25 8
        obtain ⟨AR, capR, rfl, hcR, hxR⟩ := hRR.slice
        refine ⟨_, rfl, ?_⟩
        refine J_nil (K_seq ?_)
        refine C_block ?_
        refine C_range 9 10 hS25 rfl Try.call128 (fun l26 d26 B26 w26 hB26 hS26 => ?_)
        refine fn_calls' 16 (args := [_, _]) Try.func128 rfl rfl rfl ?_
        refine C_seq ?_
        refine C_region ?_
        refine J_q 5 rfl rfl rfl rfl (Q_ldC1' (hBR _ (hS26.get (k := 8) rfl)) rfl rfl Try.isAgg36 rfl) ?_
        refine J_q 6 rfl rfl rfl rfl (Q_len rfl rfl Try.underlying36) ?_
        refine J_q 7 rfl rfl rfl rfl (Q_move rfl rfl) ?_
        refine J_nil (K_seq ?_)
        refine C_block ?_
        refine C_loop1 (fun (j : Int) => (ysR.length - j).toNat) (fun (j : Int) => [(0, .func (.yield l26) #[] #[]), (1, .pointer (some (⟨gR, 0, none⟩ : Addr))), (5, .slice AR ysR.length capR), (6, .int .i64 (ysR.length : Int)), (7, .int .i64 j)]) (fun (j : Int) w' => (0 ≤ j) ∧ (j ≤ ysR.length) ∧ (Up j fun q => nameP x c (nth ysR q)) ∧ St w w' [(9, lpE l26 B26 .ready none), (10, dfE d26), (8, fz w25 (nw w24 w25)), (7, fz w24 (nw w14 w24)), (3, blkL g3 ([.int .i64 0]) 31), (2, blkL g2 (chL c A_c cap_c) 55), (1, blkL g1 ([.pointer (some (⟨g_x, 0, none⟩ : Addr))]) 45), (0, fz w (lt_ w))]) 0 ⟨(by first | omega | exact Up.zero), (by first | omega | exact Up.zero), (by first | omega | exact Up.zero), hS26⟩ ⟨rfl, rfl, rfl, rfl, rfl, trivial⟩ ?_
        rintro j w27 ⟨h4, h5, hw, hS27⟩
        refine C_seq ?_
        refine C_region ?_
        refine J_q 8 rfl rfl rfl rfl (Q_lss rfl rfl rfl) ?_
        refine J_nil (K_seq ?_)
        refine C_seq ?_
        refine C_if rfl (fun h28 => ?_) (fun h28 => ?_)
        · refine C_skip (K_seq ?_)
          refine C_seq ?_
          refine C_block ?_
          refine C_seq ?_
          refine C_region ?_
          obtain ⟨ad29, es29, hA29, hr29, hc29⟩ := RdF.nth hRR j (by first | omega | (have hq := hu k (by omega) (by omega); simp only [depLe] at hq; omega)) (by first | omega | (have hq := hu k (by omega) (by omega); simp only [depLe] at hq; omega))
          obtain ⟨rfl, ho29⟩ := openSt hr29
          refine J_q 9 rfl rfl rfl rfl (Q_iaE hA29 rfl rfl rfl Try.underlying36 Try.sizeOf23 (by first | omega | (have hq := hu k (by omega) (by omega); simp only [depLe] at hq; omega)) (by first | omega | (have hq := hu k (by omega) (by omega); simp only [depLe] at hq; omega))) ?_
          refine J_q 10 rfl rfl rfl rfl (Q_ldCK' (stL (nth ysR j)) (hc29 _ (hS27.get (k := 8) rfl)) rfl rfl Try.isAgg23 Try.sizeOf23 rfl rfl) ?_
          refine J_do 4 rfl rfl rfl rfl (D_alloc 11 hS27 rfl Try.zeroValue23 (fun g30 w30 hS30 => ?_))
          refine J_do0 rfl rfl rfl rfl (D_store' (k := 11) hS30 rfl rfl rfl rfl Try.sizeOf23 rfl rfl rfl (fun w31 hS31 => ?_))
          refine J_nil (K_seq ?_)
          refine C_seq ?_
          refine C_region ?_
          refine J_q 11 rfl rfl rfl rfl (Q_move rfl rfl) ?_
          refine J_q 12 rfl rfl rfl rfl (Q_ldBK' (k := 11) (stL (nth ysR j)) hS31 rfl rfl rfl Try.isAgg23 Try.sizeOf23 rfl rfl) ?_
          refine J_round 13 (k := 9) rfl rfl rfl rfl rfl rfl rfl hB26 hS31 rfl rfl rfl ?_
          refine C_sub (E' := [(2, .pointer (some (⟨g1, 0, none⟩ : Addr))), (3, .pointer (some (⟨g2, 0, none⟩ : Addr))), (4, .pointer (some (⟨g3, 0, none⟩ : Addr))), (73, .agg (stL (nth ysR j)).toArray)]) ⟨rfl, rfl, rfl, rfl, trivial⟩ ?_
          refine C_region ?_
          refine J_do 9 rfl rfl rfl rfl (D_alloc 13 hS31 rfl Try.zeroValue23 (fun g32 w32 hS32 => ?_))
          refine J_do0 rfl rfl rfl rfl (D_store' (k := 13) hS32 rfl rfl rfl rfl Try.sizeOf23 rfl rfl rfl (fun w33 hS33 => ?_))
          refine J_nil (K_begin hS33 9 rfl (fun w34 hS34 => ?_))
          refine C_block ?_
          refine C_seq ?_
          refine C_draw (fun w' => St w w' [(13, blkL g32 (stL (nth ysR j)) 23), (11, blkL g30 (stL (nth ysR j)) 23), (9, lpE l26 B26 .busy none), (10, dfE d26), (8, fz w25 (nw w24 w25)), (7, fz w24 (nw w14 w24)), (3, blkL g3 ([.int .i64 0]) 31), (2, blkL g2 (chL c A_c cap_c) 55), (1, blkL g1 ([.pointer (some (⟨g_x, 0, none⟩ : Addr))]) 45), (0, fz w (lt_ w))]) 10 mixedOrders 12 rfl (fun w35 hk35 => ?_)
          have hS35 := hS34.kp0 hk35
          refine JA_q 0 75 rfl rfl rfl rfl (by kernel_rfl) (by kernel_rfl) hS35 (fun _ hI => Q_ldB1' (k := 1) hI rfl rfl rfl Try.isAgg45 rfl) ?_
          refine JA_p 1 76 12 rfl rfl rfl rfl (by kernel_rfl) (by kernel_rfl) (fun _ => Q_nil rfl rfl) ?_
          refine JA_p 2 77 12 rfl rfl rfl rfl (by kernel_rfl) (by kernel_rfl) (fun _ => Q_fa0 rfl rfl fo117_2) ?_
          refine JA_q 3 78 rfl rfl rfl rfl (by kernel_rfl) (by kernel_rfl) hS35 (fun _ hI => Q_ldC1 (h_x.box _ (hI.get (k := 0) rfl)) rfl rfl Try.isAgg114 rfl) ?_
          refine JA_q 4 79 rfl rfl rfl rfl (by kernel_rfl) (by kernel_rfl) hS35 (fun _ hI => Q_ldBK' (k := 13) (stL (nth ysR j)) hI rfl rfl rfl Try.isAgg23 Try.sizeOf23 rfl rfl) ?_
          refine JA_q 5 80 rfl rfl rfl rfl (by kernel_rfl) (by kernel_rfl) hS35 (fun _ hI => Q_lookL (s := (nth ysR j)) stkey23 (h_x.map _ (hI.get (k := 0) rfl)) h_x.key Try.underlying114 Try.zeroValue121 rfl rfl rfl) ?_
          refine JA_p 6 74 12 rfl rfl rfl rfl (by kernel_rfl) (by kernel_rfl) (fun _ => Q_move rfl rfl) ?_
          refine JA_p 7 81 12 rfl rfl rfl rfl (by kernel_rfl) (by kernel_rfl) (fun _ => Q_extract rfl rfl rfl) ?_
          refine JA_p 8 82 12 rfl rfl rfl rfl (by kernel_rfl) (by kernel_rfl) (fun _ => Q_extract rfl rfl rfl) ?_
          refine JA_do 9 10 rfl rfl rfl rfl (by kernel_rfl) (D_alloc 15 hS35 rfl Try.zeroValue121 (fun g36 w36 hS36 => ⟨(fun _ => (hS36.pick [13, 11, 9, 10, 8, 7, 3, 2, 1, 0] ⟨rfl, rfl, rfl, rfl, rfl, rfl, rfl, rfl, rfl, rfl, rfl, rfl, rfl, rfl, rfl, rfl, rfl, rfl, rfl, rfl, trivial⟩)), ?_⟩))
          refine JA_do0 10 rfl rfl rfl rfl (by kernel_rfl) (D_store' (k := 15) hS36 rfl rfl rfl rfl Try.sizeOf121 rfl rfl rfl (fun w37 hS37 => ⟨(fun h => nomatch h), ?_⟩))
          refine JA_p 11 11 12 rfl rfl rfl rfl (by kernel_rfl) (by kernel_rfl) (fun _ => Q_assign rfl rfl) ?_
          refine JA_end (by kernel_rfl) (K_seq ?_)
          refine C_seq ?_
          refine C_draw (fun w' => St w w' [(15, blkL g36 ([.int .i64 (seqAt x (nth ysR j))]) 121), (13, blkL g32 (stL (nth ysR j)) 23), (11, blkL g30 (stL (nth ysR j)) 23), (9, lpE l26 B26 .busy none), (10, dfE d26), (8, fz w25 (nw w24 w25)), (7, fz w24 (nw w14 w24)), (3, blkL g3 ([.int .i64 0]) 31), (2, blkL g2 (chL c A_c cap_c) 55), (1, blkL g1 ([.pointer (some (⟨g_x, 0, none⟩ : Addr))]) 45), (0, fz w (lt_ w))]) 12 mixedOrders 12 rfl (fun w38 hk38 => ?_)
          have hS38 := hS37.kp0 hk38
          refine JA_p 0 83 12 rfl rfl rfl rfl (by kernel_rfl) (by kernel_rfl) (fun _ => Q_move rfl rfl) ?_
          refine JA_p 1 84 12 rfl rfl rfl rfl (by kernel_rfl) (by kernel_rfl) (fun _ => Q_not rfl rfl) ?_
          refine JA_p 2 85 12 rfl rfl rfl rfl (by kernel_rfl) (by kernel_rfl) (fun _ => Q_move rfl rfl) ?_
          refine JA_splitN 85 rfl (fun h39 => ?_) (fun h39 => ?_)
          · refine JA_no 3 12 rfl rfl rfl (by kernel_rfl) (by kernel_rfl) (fun _ h => by cases h; rfl) ?_
            refine JA_no 4 12 rfl rfl rfl (by kernel_rfl) (by kernel_rfl) (fun _ h => by cases h; rfl) ?_
            refine JA_no 5 12 rfl rfl rfl (by kernel_rfl) (by kernel_rfl) (fun _ h => by cases h; rfl) ?_
            refine JA_no 6 12 rfl rfl rfl (by kernel_rfl) (by kernel_rfl) (fun _ h => by cases h; rfl) ?_
            refine JA_no 7 12 rfl rfl rfl (by kernel_rfl) (by kernel_rfl) (fun _ h => by cases h; rfl) ?_
            refine JA_no 8 12 rfl rfl rfl (by kernel_rfl) (by kernel_rfl) (fun _ h => by cases h; rfl) ?_
            refine JA_no 9 12 rfl rfl rfl (by kernel_rfl) (by kernel_rfl) (fun _ h => by cases h; rfl) ?_
            refine JA_no 10 12 rfl rfl rfl (by kernel_rfl) (by kernel_rfl) (fun _ h => by cases h; rfl) ?_
            refine JA_p 11 94 12 rfl rfl rfl rfl (by kernel_rfl) (by kernel_rfl) (fun _ => Q_pickT rfl rfl rfl) ?_
            refine JA_end (by kernel_rfl) (K_seq ?_)
            refine C_true rfl ?_
            refine C_seq ?_
            refine C_region ?_
            refine J_do0 rfl rfl rfl rfl (D_store' (k := 3) hS38 rfl rfl rfl rfl Try.sizeOf31 rfl rfl rfl (fun w40 hS40 => ?_))
            refine J_nil (K_seq ?_)
            refine C_ret (R_blk (K_rret hS40 9 rfl (fun w41 hS41 => ?_)))
            have hS42 : St w w41 [(11, blkL g30 (stL (nth ysR j)) 23), (9, lpE l26 B26 .done (some .ret)), (10, dfE d26), (8, fz w25 (nw w24 w25)), (7, fz w24 (nw w14 w24)), (3, blkL g3 ([.int .i64 2]) 31), (2, blkL g2 (chL c A_c cap_c) 55), (1, blkL g1 ([.pointer (some (⟨g_x, 0, none⟩ : Addr))]) 45), (0, fz w (lt_ w))] := hS41.pick [11, 9, 10, 8, 7, 3, 2, 1, 0] ⟨rfl, rfl, rfl, rfl, rfl, rfl, rfl, rfl, rfl, rfl, rfl, rfl, rfl, rfl, rfl, rfl, rfl, rfl, trivial⟩
            refine J_q 14 rfl rfl rfl rfl (Q_not rfl rfl) ?_
            refine J_nil (K_seq ?_)
            refine C_true rfl ?_
            refine C_ret (R_blk (R_then (R_then (R_blk (body_ret (res0 rfl) ?_)))))
            refine range_jump hS42 9 rfl (fun h => nomatch h) (fun w43 hS43 => ?_) _
            refine C_ret (R_blk (R_then (bodyM_ret (w0 := w) ?_)))
            refine .cons 10 hS43 rfl (fun w44 hS44 => ?_)
            refine marks_end (resG (vs := [.int .i64 2]) rfl ⟨rC1 (blk_cells (k := 3) hS44 rfl) rfl Try.isAgg31 rfl, trivial⟩) ?_
            exact ⟨congrArg Ending.returned (eqI (by first | (exact (ready_1 (by assumption)).symm) | (exact (ready_2 (by assumption) (fun hh => absurd (hh i h0 (by omega)) (by simp only [depLe]; omega))).symm) | (exact (ready_3 (by assumption) (hu.full (by omega)) (fun hh => (hh k h2 (by omega)).elim (fun h => h (by assumption)) (fun h => absurd h (by assumption)))).symm) | (exact (ready_4 (s := nth ysR j) (by assumption) (hu.full (by omega)) (hv.full (by omega)) (by rw [← hmNames, ← hmR]; exact nth_mem (by omega) (by omega)) (by first | exact nameP_no1 (by assumption) | exact nameP_no2 (by assumption))).symm) | (refine (ready_0 (by assumption) (hu.full (by omega)) (hv.full (by omega)) ?_).symm; intro s hs; rw [← hmNames, ← hmR] at hs; obtain ⟨j, hj0, hj1, rfl⟩ := mem_nth.1 hs; exact hw j hj0 (by omega)))), hS44.kept (k := 0) rfl⟩
          · refine JA_p 3 86 12 rfl rfl rfl rfl (by kernel_rfl) (by kernel_rfl) (fun _ => Q_fa0 rfl rfl fo121_0) ?_
            refine JA_q 4 87 rfl rfl rfl rfl (by kernel_rfl) (by kernel_rfl) hS38 (fun _ hI => Q_ldB1 (k := 15) hI rfl rfl rfl Try.isAgg3 rfl) ?_
            refine JA_p 5 88 12 rfl rfl rfl rfl (by kernel_rfl) (by kernel_rfl) (fun _ => Q_fa0 rfl rfl fo55_2) ?_
            refine JA_q 6 89 rfl rfl rfl rfl (by kernel_rfl) (by kernel_rfl) hS38 (fun _ hI => Q_ldB1 (k := 2) hI rfl rfl rfl Try.isAgg44 rfl) ?_
            refine JA_p 7 90 12 rfl rfl rfl rfl (by kernel_rfl) (by kernel_rfl) (fun _ => Q_fa0 rfl rfl fo23_1) ?_
            refine JA_q 8 91 rfl rfl rfl rfl (by kernel_rfl) (by kernel_rfl) hS38 (fun _ hI => Q_ldB1 (k := 13) hI rfl rfl rfl Try.isAgg3 rfl) ?_
            refine JA_call 9 92 rfl rfl rfl rfl (by kernel_rfl) (T_call rfl rfl rfl Try.call66) (At_calls _ _ c.deps (hS38.rd 0 rfl hd_c) ((nth ysR j).r)) ?_
            rintro _ w45 ⟨rfl, hk45⟩
            have hS45 := hS38.kp0 hk45
            refine ⟨_, rfl, (fun _ => hS45), ?_⟩
            refine JA_p 10 93 12 rfl rfl rfl rfl (by kernel_rfl) (by kernel_rfl) (fun _ => Q_gtr rfl rfl rfl) ?_
            refine JA_p 11 94 12 rfl rfl rfl rfl (by kernel_rfl) (by kernel_rfl) (fun _ => Q_pickF rfl rfl rfl) ?_
            refine JA_end (by kernel_rfl) (K_seq ?_)
            refine C_if rfl (fun h46 => ?_) (fun h46 => ?_)
            · refine C_seq ?_
              refine C_region ?_
              refine J_do0 rfl rfl rfl rfl (D_store' (k := 3) hS45 rfl rfl rfl rfl Try.sizeOf31 rfl rfl rfl (fun w47 hS47 => ?_))
              refine J_nil (K_seq ?_)
              refine C_ret (R_blk (K_rret hS47 9 rfl (fun w48 hS48 => ?_)))
              have hS49 : St w w48 [(11, blkL g30 (stL (nth ysR j)) 23), (9, lpE l26 B26 .done (some .ret)), (10, dfE d26), (8, fz w25 (nw w24 w25)), (7, fz w24 (nw w14 w24)), (3, blkL g3 ([.int .i64 2]) 31), (2, blkL g2 (chL c A_c cap_c) 55), (1, blkL g1 ([.pointer (some (⟨g_x, 0, none⟩ : Addr))]) 45), (0, fz w (lt_ w))] := hS48.pick [11, 9, 10, 8, 7, 3, 2, 1, 0] ⟨rfl, rfl, rfl, rfl, rfl, rfl, rfl, rfl, rfl, rfl, rfl, rfl, rfl, rfl, rfl, rfl, rfl, rfl, trivial⟩
              refine J_q 14 rfl rfl rfl rfl (Q_not rfl rfl) ?_
              refine J_nil (K_seq ?_)
              refine C_true rfl ?_
              refine C_ret (R_blk (R_then (R_then (R_blk (body_ret (res0 rfl) ?_)))))
              refine range_jump hS49 9 rfl (fun h => nomatch h) (fun w50 hS50 => ?_) _
              refine C_ret (R_blk (R_then (bodyM_ret (w0 := w) ?_)))
              refine .cons 10 hS50 rfl (fun w51 hS51 => ?_)
              refine marks_end (resG (vs := [.int .i64 2]) rfl ⟨rC1 (blk_cells (k := 3) hS51 rfl) rfl Try.isAgg31 rfl, trivial⟩) ?_
              exact ⟨congrArg Ending.returned (eqI (by first | (exact (ready_1 (by assumption)).symm) | (exact (ready_2 (by assumption) (fun hh => absurd (hh i h0 (by omega)) (by simp only [depLe]; omega))).symm) | (exact (ready_3 (by assumption) (hu.full (by omega)) (fun hh => (hh k h2 (by omega)).elim (fun h => h (by assumption)) (fun h => absurd h (by assumption)))).symm) | (exact (ready_4 (s := nth ysR j) (by assumption) (hu.full (by omega)) (hv.full (by omega)) (by rw [← hmNames, ← hmR]; exact nth_mem (by omega) (by omega)) (by first | exact nameP_no1 (by assumption) | exact nameP_no2 (by assumption))).symm) | (refine (ready_0 (by assumption) (hu.full (by omega)) (hv.full (by omega)) ?_).symm; intro s hs; rw [← hmNames, ← hmR] at hs; obtain ⟨j, hj0, hj1, rfl⟩ := mem_nth.1 hs; exact hw j hj0 (by omega)))), hS51.kept (k := 0) rfl⟩
            · refine C_skip (N_blk (K_rend hS45 9 rfl (fun w52 hS52 => ?_)))
              have hS53 : St w w52 [(11, blkL g30 (stL (nth ysR j)) 23), (9, lpE l26 B26 .ready none), (10, dfE d26), (8, fz w25 (nw w24 w25)), (7, fz w24 (nw w14 w24)), (3, blkL g3 ([.int .i64 0]) 31), (2, blkL g2 (chL c A_c cap_c) 55), (1, blkL g1 ([.pointer (some (⟨g_x, 0, none⟩ : Addr))]) 45), (0, fz w (lt_ w))] := hS52.pick [11, 9, 10, 8, 7, 3, 2, 1, 0] ⟨rfl, rfl, rfl, rfl, rfl, rfl, rfl, rfl, rfl, rfl, rfl, rfl, rfl, rfl, rfl, rfl, rfl, rfl, trivial⟩
              refine J_q 14 rfl rfl rfl rfl (Q_not rfl rfl) ?_
              refine J_nil (K_seq ?_)
              refine C_false rfl ?_
              refine C_skip (N_blk (K_seq ?_))
              refine C_region ?_
              refine J_q 15 rfl rfl rfl rfl (Q_add rfl rfl rfl (by omega) (by omega)) ?_
              refine J_q 7 rfl rfl rfl rfl (Q_move rfl rfl) ?_
              exact J_nil (K_round1 (x0 := j) (j + 1) ⟨(by first | omega | (exact Up.snoc hw (nameP_of (by assumption) (by assumption)))), (by first | omega | (exact Up.snoc hw (nameP_of (by assumption) (by assumption)))), (by first | omega | (exact Up.snoc hw (nameP_of (by assumption) (by assumption)))), (hS53.pick [9, 10, 8, 7, 3, 2, 1, 0] ⟨rfl, rfl, rfl, rfl, rfl, rfl, rfl, rfl, rfl, rfl, rfl, rfl, rfl, rfl, rfl, rfl, trivial⟩)⟩ (by omega) ⟨rfl, rfl, rfl, rfl, rfl, trivial⟩)
        · refine C_exit (X_then (X_then (X_hit (body_end (res0 rfl) ?_))))
          refine range_none hS27 9 rfl (fun h => nomatch h) (fun w54 hS54 => ?_) _
          refine id (N_blk (K_seq ?_))
          refine C_seq ?_
          refine C_region ?_
          refine J_do0 rfl rfl rfl rfl (D_store' (k := 3) hS54 rfl rfl rfl rfl Try.sizeOf31 rfl rfl rfl (fun w55 hS55 => ?_))
          refine J_nil (K_seq ?_)
          refine C_ret (bodyM_ret (w0 := w) ?_)
          refine .cons 10 hS55 rfl (fun w56 hS56 => ?_)
          refine marks_end (resG (vs := [.int .i64 0]) rfl ⟨rC1 (blk_cells (k := 3) hS56 rfl) rfl Try.isAgg31 rfl, trivial⟩) ?_
          exact ⟨congrArg Ending.returned (eqI (by first | (exact (ready_1 (by assumption)).symm) | (exact (ready_2 (by assumption) (fun hh => absurd (hh i h0 (by omega)) (by simp only [depLe]; omega))).symm) | (exact (ready_3 (by assumption) (hu.full (by omega)) (fun hh => (hh k h2 (by omega)).elim (fun h => h (by assumption)) (fun h => absurd h (by assumption)))).symm) | (exact (ready_4 (s := nth ysR j) (by assumption) (hu.full (by omega)) (hv.full (by omega)) (by rw [← hmNames, ← hmR]; exact nth_mem (by omega) (by omega)) (by first | exact nameP_no1 (by assumption) | exact nameP_no2 (by assumption))).symm) | (refine (ready_0 (by assumption) (hu.full (by omega)) (hv.full (by omega)) ?_).symm; intro s hs; rw [← hmNames, ← hmR] at hs; obtain ⟨j, hj0, hj1, rfl⟩ := mem_nth.1 hs; exact hw j hj0 (by omega)))), hS56.kept (k := 0) rfl⟩
end Go.Proofs.Ytceeellnjckmiaa

/- Printed by a program of mine (gen.py). -/
set_option maxRecDepth 100000
namespace Go.Proofs.Ytceeellnjckmiaa
open Go Go.Sl
theorem LFind_calls (w : World) (g_x : Nat) (p_x : LogP) (xR : Int) (x : List Change) (h_x : LogR w (lt_ w) g_x p_x xR x) (s : Stamp) :
    Calls Try.prog 31 #[.pointer (some ⟨g_x, 0, none⟩), .agg (stL s).toArray] w fun e w' => ∃ l0, e = .returned (.tuple #[.agg l0.toArray, .bool (decide (0 ≤ findAt x s))]) ∧ Kp no w w' ∧ RdF tCh w' (nw w w') l0 (findC x s) := by
  have hS0 := St.start w
  have hle_x := h_x.le
  have hcap_x := h_x.all.cap_le
  have hrise := h_x.good.rise
  have hpf := pos_find hrise s
  have hfl := findAt_lt x s
  refine fn_calls' 28 (args := [_, _]) Try.func31 rfl rfl rfl ?_
  refine C_seq ?_
  refine C_region ?_
  refine J_do 3 rfl rfl rfl rfl (D_box 1 hS0 rfl rfl (fun g1 w1 hS1 => ?_))
  refine J_do 4 rfl rfl rfl rfl (D_alloc 2 hS1 rfl Try.zeroValue55 (fun g2 w2 hS2 => ?_))
  refine J_q 5 rfl rfl rfl rfl (Q_assign rfl rfl) ?_
  refine J_nil (K_seq ?_)
  refine C_seq ?_
  refine C_seq ?_
  refine C_region ?_
  refine J_q 8 rfl rfl rfl rfl (Q_move rfl rfl) ?_
  refine J_q 9 rfl rfl rfl rfl (Q_eqNilF rfl rfl rfl Try.underlying45) ?_
  refine J_nil (K_seq ?_)
  refine C_false rfl ?_
  refine C_skip (K_seq ?_)
  refine C_seq ?_
  refine C_region ?_
  refine J_q 12 rfl rfl rfl rfl (Q_move rfl rfl) ?_
  refine J_q 13 rfl rfl rfl rfl (Q_ldBK' (k := 1) (stL s) hS2 rfl rfl rfl Try.isAgg23 Try.sizeOf23 rfl rfl) ?_
  refine J_call 14 rfl rfl rfl rfl (T_call rfl rfl rfl Try.call72) (Lplace_calls _ _ _ _ _ (h_x.kp (hS2.kept (k := 0) rfl)) s) ?_
  rintro _ w3 ⟨rfl, hk3⟩
  have hS3 := hS2.kp0 hk3
  have hz4 := posAt_le x s
  refine ⟨_, rfl, ?_⟩
  refine J_q 11 rfl rfl rfl rfl (Q_move rfl rfl) ?_
  refine J_q 15 rfl rfl rfl rfl (Q_extract rfl rfl rfl) ?_
  refine J_q 16 rfl rfl rfl rfl (Q_extract rfl rfl rfl) ?_
  refine J_q 6 rfl rfl rfl rfl (Q_assign rfl rfl) ?_
  refine J_q 7 rfl rfl rfl rfl (Q_assign rfl rfl) ?_
  refine J_nil (K_seq ?_)
  refine C_seq ?_
  refine C_seq ?_
  refine C_region ?_
  refine J_q 17 rfl rfl rfl rfl (Q_move rfl rfl) ?_
  refine J_q 18 rfl rfl rfl rfl (Q_not rfl rfl) ?_
  refine J_nil (K_seq ?_)
  refine C_ifN rfl (fun h5 => ?_) (fun h5 => ?_)
  · refine C_seq ?_
    refine C_region ?_
    refine J_q 19 rfl rfl rfl rfl (Q_bld (v := .agg ([.int .i64 0, .int .i64 0, .int .i64 0, .slice none 0 0, .int .i64 0, .int .i64 0, .int .i64 0, .int .i64 0, .int .i64 0, .int .i64 0, .int .i64 0, .string nostr, .string nostr]).toArray) (ps := []) rfl rfl (fun _ => by kernel_rfl)) ?_
    refine J_do0 rfl rfl rfl rfl (D_store' (k := 2) hS3 rfl rfl rfl rfl Try.sizeOf55 rfl rfl rfl (fun w6 hS6 => ?_))
    refine J_q 5 rfl rfl rfl rfl (Q_assign rfl rfl) ?_
    refine J_nil (K_seq ?_)
    refine C_ret (R_then (body_ret (resG (vs := [.agg ([.int .i64 0, .int .i64 0, .int .i64 0, .slice none 0 0, .int .i64 0, .int .i64 0, .int .i64 0, .int .i64 0, .int .i64 0, .int .i64 0, .int .i64 0, .string nostr, .string nostr]).toArray, .bool false]) rfl ⟨rCK ([.int .i64 0, .int .i64 0, .int .i64 0, .slice none 0 0, .int .i64 0, .int .i64 0, .int .i64 0, .int .i64 0, .int .i64 0, .int .i64 0, .int .i64 0, .string nostr, .string nostr]) (blk_cells (k := 2) hS6 rfl) rfl Try.isAgg55 Try.sizeOf55 rfl rfl, rT rfl, trivial⟩) ?_))
    exact ⟨_, tup2 (rfl) (eqB (by first | rfl | (exact (decide_eq_true (by assumption)).symm) | (exact (decide_eq_false (by assumption)).symm))), hS6.kept (k := 0) rfl, (by first | (rw [findC_no (by assumption)]; exact mkCh (fun u _ => rdNil tI u) (by first | exact zeroCh_ok | assumption)) | (rw [findC_yes (by assumption), ← hpf (by assumption)]; exact mkCh (fun u _ => rdNil tI u) (by first | exact zeroCh_ok | assumption)))⟩
  · refine C_skip (K_seq ?_)
    refine C_seq ?_
    refine C_region ?_
    refine J_q 20 rfl rfl rfl rfl (Q_move rfl rfl) ?_
    refine J_q 21 rfl rfl rfl rfl (Q_nil rfl rfl) ?_
    refine J_q 22 rfl rfl rfl rfl (Q_fa0 rfl rfl fo117_1) ?_
    refine J_q 23 rfl rfl rfl rfl (Q_ldC1 (h_x.box _ (hS3.get (k := 0) rfl)) rfl rfl Try.isAgg43 rfl) ?_
    refine J_q 24 rfl rfl rfl rfl (Q_move rfl rfl) ?_
    obtain ⟨ad7, es7, hA7, hr7, hc7⟩ := RdF.nth h_x.all (posAt x s) (by omega) (by omega)
    obtain ⟨A7, cap7, rfl, hd7, ho7⟩ := openCh hr7
    have hln7 := RdF.lens hd7
    have hsq7 := ho7.seq
    refine J_q 25 rfl rfl rfl rfl (Q_iaE hA7 rfl rfl rfl Try.underlying43 Try.sizeOf55 (by omega) (by omega)) ?_
    refine J_q 26 rfl rfl rfl rfl (Q_ldCK' (chL (nth x (posAt x s)) A7 cap7) (hc7 _ (hS3.get (k := 0) rfl)) rfl rfl Try.isAgg55 Try.sizeOf55 rfl rfl) ?_
    refine J_call 27 rfl rfl rfl rfl (T_call rfl rfl rfl Try.call67) (CCopy_calls _ _ (nth x (posAt x s)) (hS3.rd 0 rfl hr7)) ?_
    rintro _ w8 ⟨l8_0, rfl, hk8, hr8_0⟩
    have hS8 := hS3.call hk8 4
    obtain ⟨A8_0, cap8_0, rfl, hd8_0, ho8_0⟩ := openCh hr8_0
    have hln8_0 := RdF.lens hd8_0
    have hsq8_0 := ho8_0.seq
    refine ⟨_, rfl, ?_⟩
    refine J_do0 rfl rfl rfl rfl (D_store' (k := 2) hS8 rfl rfl rfl rfl Try.sizeOf55 rfl rfl rfl (fun w9 hS9 => ?_))
    refine J_q 5 rfl rfl rfl rfl (Q_assign rfl rfl) ?_
    refine J_nil (K_seq ?_)
    refine C_ret (body_ret (resG (vs := [.agg (chL ((nth x (posAt x s))) A8_0 cap8_0).toArray, .bool true]) rfl ⟨rCK (chL ((nth x (posAt x s))) A8_0 cap8_0) (blk_cells (k := 2) hS9 rfl) rfl Try.isAgg55 Try.sizeOf55 rfl rfl, rT rfl, trivial⟩) ?_)
    exact ⟨_, tup2 (rfl) (eqB (by first | rfl | (exact (decide_eq_true (by assumption)).symm) | (exact (decide_eq_false (by assumption)).symm))), hS9.kept (k := 0) rfl, (by first | (rw [findC_no (by assumption)]; exact mkCh (hS9.giveRd (d := tI) rfl 4 rfl rfl hd8_0) (by first | exact zeroCh_ok | assumption)) | (rw [findC_yes (by assumption), ← hpf (by assumption)]; exact mkCh (hS9.giveRd (d := tI) rfl 4 rfl rfl hd8_0) (by first | exact zeroCh_ok | assumption)))⟩

theorem LOwn_calls (w : World) (g_x : Nat) (p_x : LogP) (xR : Int) (x : List Change) (h_x : LogR w (lt_ w) g_x p_x xR x) (r : Int) (q : Int) :
    Calls Try.prog 33 #[.pointer (some ⟨g_x, 0, none⟩), .int .i64 r, .int .i64 q] w fun e w' => ∃ l0, e = .returned (.tuple #[.agg l0.toArray, .int .i64 (ownE x r q)]) ∧ Kp no w w' ∧ RdF tCh w' (nw w w') l0 (ownC x r q) := by
  have hS0 := St.start w
  have hle_x := h_x.le
  have hcap_x := h_x.all.cap_le
  have hrise := h_x.good.rise
  refine fn_calls' 51 (args := [_, _, _]) Try.func33 rfl rfl rfl ?_
  refine C_seq ?_
  refine C_region ?_
  refine J_do 6 rfl rfl rfl rfl (D_alloc 1 hS0 rfl Try.zeroValue55 (fun g1 w1 hS1 => ?_))
  refine J_q 7 rfl rfl rfl rfl (Q_assign rfl rfl) ?_
  refine J_nil (K_seq ?_)
  refine C_seq ?_
  refine C_seq ?_
  refine C_region ?_
  refine J_q 10 rfl rfl rfl rfl (Q_move rfl rfl) ?_
  refine J_q 11 rfl rfl rfl rfl (Q_lss rfl rfl rfl) ?_
  refine J_q 12 rfl rfl rfl rfl (Q_move rfl rfl) ?_
  refine J_split 12 rfl (fun h2 => ?_) (fun h2 => ?_)
  · refine J_no rfl rfl rfl ?_
    refine J_no rfl rfl rfl ?_
    refine J_q 15 rfl rfl rfl rfl (Q_pickT rfl rfl rfl) ?_
    refine J_nil (K_seq ?_)
    refine C_true rfl ?_
    refine C_seq ?_
    refine C_region ?_
    refine J_q 16 rfl rfl rfl rfl (Q_bld (v := .agg ([.int .i64 0, .int .i64 0, .int .i64 0, .slice none 0 0, .int .i64 0, .int .i64 0, .int .i64 0, .int .i64 0, .int .i64 0, .int .i64 0, .int .i64 0, .string nostr, .string nostr]).toArray) (ps := []) rfl rfl (fun _ => by kernel_rfl)) ?_
    refine J_do0 rfl rfl rfl rfl (D_store' (k := 1) hS1 rfl rfl rfl rfl Try.sizeOf55 rfl rfl rfl (fun w3 hS3 => ?_))
    refine J_q 7 rfl rfl rfl rfl (Q_assign rfl rfl) ?_
    refine J_nil (K_seq ?_)
    refine C_ret (R_then (body_ret (resG (vs := [.agg ([.int .i64 0, .int .i64 0, .int .i64 0, .slice none 0 0, .int .i64 0, .int .i64 0, .int .i64 0, .int .i64 0, .int .i64 0, .int .i64 0, .int .i64 0, .string nostr, .string nostr]).toArray, .int .i64 1]) rfl ⟨rCK ([.int .i64 0, .int .i64 0, .int .i64 0, .slice none 0 0, .int .i64 0, .int .i64 0, .int .i64 0, .int .i64 0, .int .i64 0, .int .i64 0, .int .i64 0, .string nostr, .string nostr]) (blk_cells (k := 1) hS3 rfl) rfl Try.isAgg55 Try.sizeOf55 rfl rfl, rT rfl, trivial⟩) ?_))
    exact ⟨_, tup2 (rfl) (eqI (by first | (exact (ownE_1 (by omega)).symm) | (exact (ownE_4 (by omega) (by omega)).symm) | (exact (ownE_0 (by omega) (by omega)).symm))), hS3.kept (k := 0) rfl, (by first | (rw [ownC_no (by first | (rw [ownE_1 (by omega)]; decide) | (rw [ownE_4 (by omega) (by omega)]; decide))]; exact mkCh (fun u _ => rdNil tI u) (by first | exact zeroCh_ok | assumption)) | (rw [ownC_0 (ownE_0 (by omega) (by omega))]; exact mkCh (fun u _ => rdNil tI u) (by first | exact zeroCh_ok | assumption)))⟩
  · refine J_q 13 rfl rfl rfl rfl (Q_move rfl rfl) ?_
    refine J_q 14 rfl rfl rfl rfl (Q_geq rfl rfl rfl) ?_
    refine J_q 15 rfl rfl rfl rfl (Q_pickF rfl rfl rfl) ?_
    refine J_nil (K_seq ?_)
    refine C_if rfl (fun h4 => ?_) (fun h4 => ?_)
    · refine C_seq ?_
      refine C_region ?_
      refine J_q 16 rfl rfl rfl rfl (Q_bld (v := .agg ([.int .i64 0, .int .i64 0, .int .i64 0, .slice none 0 0, .int .i64 0, .int .i64 0, .int .i64 0, .int .i64 0, .int .i64 0, .int .i64 0, .int .i64 0, .string nostr, .string nostr]).toArray) (ps := []) rfl rfl (fun _ => by kernel_rfl)) ?_
      refine J_do0 rfl rfl rfl rfl (D_store' (k := 1) hS1 rfl rfl rfl rfl Try.sizeOf55 rfl rfl rfl (fun w5 hS5 => ?_))
      refine J_q 7 rfl rfl rfl rfl (Q_assign rfl rfl) ?_
      refine J_nil (K_seq ?_)
      refine C_ret (R_then (body_ret (resG (vs := [.agg ([.int .i64 0, .int .i64 0, .int .i64 0, .slice none 0 0, .int .i64 0, .int .i64 0, .int .i64 0, .int .i64 0, .int .i64 0, .int .i64 0, .int .i64 0, .string nostr, .string nostr]).toArray, .int .i64 1]) rfl ⟨rCK ([.int .i64 0, .int .i64 0, .int .i64 0, .slice none 0 0, .int .i64 0, .int .i64 0, .int .i64 0, .int .i64 0, .int .i64 0, .int .i64 0, .int .i64 0, .string nostr, .string nostr]) (blk_cells (k := 1) hS5 rfl) rfl Try.isAgg55 Try.sizeOf55 rfl rfl, rT rfl, trivial⟩) ?_))
      exact ⟨_, tup2 (rfl) (eqI (by first | (exact (ownE_1 (by omega)).symm) | (exact (ownE_4 (by omega) (by omega)).symm) | (exact (ownE_0 (by omega) (by omega)).symm))), hS5.kept (k := 0) rfl, (by first | (rw [ownC_no (by first | (rw [ownE_1 (by omega)]; decide) | (rw [ownE_4 (by omega) (by omega)]; decide))]; exact mkCh (fun u _ => rdNil tI u) (by first | exact zeroCh_ok | assumption)) | (rw [ownC_0 (ownE_0 (by omega) (by omega))]; exact mkCh (fun u _ => rdNil tI u) (by first | exact zeroCh_ok | assumption)))⟩
    · refine C_skip (K_seq ?_)
      refine C_seq ?_
      refine C_seq ?_
      refine C_region ?_
      refine J_q 17 rfl rfl rfl rfl (Q_move rfl rfl) ?_
      refine J_q 18 rfl rfl rfl rfl (Q_eqNilF rfl rfl rfl Try.underlying45) ?_
      refine J_q 19 rfl rfl rfl rfl (Q_move rfl rfl) ?_
      refine J_q 20 rfl rfl rfl rfl (Q_move rfl rfl) ?_
      refine J_q 21 rfl rfl rfl rfl (Q_lss rfl rfl rfl) ?_
      refine J_q 22 rfl rfl rfl rfl (Q_pickF rfl rfl rfl) ?_
      refine J_q 23 rfl rfl rfl rfl (Q_move rfl rfl) ?_
      refine J_split 23 rfl (fun h6 => ?_) (fun h6 => ?_)
      · refine J_no rfl rfl rfl ?_
        refine J_no rfl rfl rfl ?_
        refine J_no rfl rfl rfl ?_
        refine J_no rfl rfl rfl ?_
        refine J_no rfl rfl rfl ?_
        refine J_no rfl rfl rfl ?_
        refine J_no rfl rfl rfl ?_
        refine J_no rfl rfl rfl ?_
        refine J_no rfl rfl rfl ?_
        refine J_q 33 rfl rfl rfl rfl (Q_pickT rfl rfl rfl) ?_
        refine J_nil (K_seq ?_)
        refine C_true rfl ?_
        refine C_seq ?_
        refine C_region ?_
        refine J_q 34 rfl rfl rfl rfl (Q_bld (v := .agg ([.int .i64 0, .int .i64 0, .int .i64 0, .slice none 0 0, .int .i64 0, .int .i64 0, .int .i64 0, .int .i64 0, .int .i64 0, .int .i64 0, .int .i64 0, .string nostr, .string nostr]).toArray) (ps := []) rfl rfl (fun _ => by kernel_rfl)) ?_
        refine J_do0 rfl rfl rfl rfl (D_store' (k := 1) hS1 rfl rfl rfl rfl Try.sizeOf55 rfl rfl rfl (fun w7 hS7 => ?_))
        refine J_q 7 rfl rfl rfl rfl (Q_assign rfl rfl) ?_
        refine J_nil (K_seq ?_)
        refine C_ret (R_then (body_ret (resG (vs := [.agg ([.int .i64 0, .int .i64 0, .int .i64 0, .slice none 0 0, .int .i64 0, .int .i64 0, .int .i64 0, .int .i64 0, .int .i64 0, .int .i64 0, .int .i64 0, .string nostr, .string nostr]).toArray, .int .i64 4]) rfl ⟨rCK ([.int .i64 0, .int .i64 0, .int .i64 0, .slice none 0 0, .int .i64 0, .int .i64 0, .int .i64 0, .int .i64 0, .int .i64 0, .int .i64 0, .int .i64 0, .string nostr, .string nostr]) (blk_cells (k := 1) hS7 rfl) rfl Try.isAgg55 Try.sizeOf55 rfl rfl, rT rfl, trivial⟩) ?_))
        exact ⟨_, tup2 (rfl) (eqI (by first | (exact (ownE_1 (by omega)).symm) | (exact (ownE_4 (by omega) (by omega)).symm) | (exact (ownE_0 (by omega) (by omega)).symm))), hS7.kept (k := 0) rfl, (by first | (rw [ownC_no (by first | (rw [ownE_1 (by omega)]; decide) | (rw [ownE_4 (by omega) (by omega)]; decide))]; exact mkCh (fun u _ => rdNil tI u) (by first | exact zeroCh_ok | assumption)) | (rw [ownC_0 (ownE_0 (by omega) (by omega))]; exact mkCh (fun u _ => rdNil tI u) (by first | exact zeroCh_ok | assumption)))⟩
      · refine J_q 24 rfl rfl rfl rfl (Q_move rfl rfl) ?_
        refine J_q 25 rfl rfl rfl rfl (Q_move rfl rfl) ?_
        refine J_q 26 rfl rfl rfl rfl (Q_move rfl rfl) ?_
        refine J_q 27 rfl rfl rfl rfl (Q_nil rfl rfl) ?_
        refine J_q 28 rfl rfl rfl rfl (Q_fa0 rfl rfl fo117_3) ?_
        refine J_q 29 rfl rfl rfl rfl (Q_iaArr rfl rfl rfl Try.underlying115 Try.sizeOf36 (by omega) (by omega)) ?_
        obtain ⟨Aw8, cw8, ew8, hw8, hwl8⟩ := h_x.rowAt r (by omega) (by omega)
        have hcw8 := hw8.cap_le
        refine J_q 30 rfl rfl rfl rfl (Q_ldC1 (h_x.box _ (hS1.get (k := 0) rfl)) rfl rfl Try.isAgg36 ((h_x.cget r (by omega) (by omega)).trans (by rw [ew8]))) ?_
        refine J_q 31 rfl rfl rfl rfl (Q_len rfl rfl Try.underlying36) ?_
        refine J_q 32 rfl rfl rfl rfl (Q_gtr rfl rfl rfl) ?_
        refine J_q 33 rfl rfl rfl rfl (Q_pickF rfl rfl rfl) ?_
        refine J_nil (K_seq ?_)
        refine C_if rfl (fun h9 => ?_) (fun h9 => ?_)
        · refine C_seq ?_
          refine C_region ?_
          refine J_q 34 rfl rfl rfl rfl (Q_bld (v := .agg ([.int .i64 0, .int .i64 0, .int .i64 0, .slice none 0 0, .int .i64 0, .int .i64 0, .int .i64 0, .int .i64 0, .int .i64 0, .int .i64 0, .int .i64 0, .string nostr, .string nostr]).toArray) (ps := []) rfl rfl (fun _ => by kernel_rfl)) ?_
          refine J_do0 rfl rfl rfl rfl (D_store' (k := 1) hS1 rfl rfl rfl rfl Try.sizeOf55 rfl rfl rfl (fun w10 hS10 => ?_))
          refine J_q 7 rfl rfl rfl rfl (Q_assign rfl rfl) ?_
          refine J_nil (K_seq ?_)
          refine C_ret (R_then (body_ret (resG (vs := [.agg ([.int .i64 0, .int .i64 0, .int .i64 0, .slice none 0 0, .int .i64 0, .int .i64 0, .int .i64 0, .int .i64 0, .int .i64 0, .int .i64 0, .int .i64 0, .string nostr, .string nostr]).toArray, .int .i64 4]) rfl ⟨rCK ([.int .i64 0, .int .i64 0, .int .i64 0, .slice none 0 0, .int .i64 0, .int .i64 0, .int .i64 0, .int .i64 0, .int .i64 0, .int .i64 0, .int .i64 0, .string nostr, .string nostr]) (blk_cells (k := 1) hS10 rfl) rfl Try.isAgg55 Try.sizeOf55 rfl rfl, rT rfl, trivial⟩) ?_))
          exact ⟨_, tup2 (rfl) (eqI (by first | (exact (ownE_1 (by omega)).symm) | (exact (ownE_4 (by omega) (by omega)).symm) | (exact (ownE_0 (by omega) (by omega)).symm))), hS10.kept (k := 0) rfl, (by first | (rw [ownC_no (by first | (rw [ownE_1 (by omega)]; decide) | (rw [ownE_4 (by omega) (by omega)]; decide))]; exact mkCh (fun u _ => rdNil tI u) (by first | exact zeroCh_ok | assumption)) | (rw [ownC_0 (ownE_0 (by omega) (by omega))]; exact mkCh (fun u _ => rdNil tI u) (by first | exact zeroCh_ok | assumption)))⟩
        · refine C_skip (K_seq ?_)
          refine C_seq ?_
          refine C_region ?_
          refine J_q 36 rfl rfl rfl rfl (Q_move rfl rfl) ?_
          refine J_q 37 rfl rfl rfl rfl (Q_move rfl rfl) ?_
          refine J_q 38 rfl rfl rfl rfl (Q_move rfl rfl) ?_
          refine J_q 39 rfl rfl rfl rfl (Q_nil rfl rfl) ?_
          refine J_q 40 rfl rfl rfl rfl (Q_fa0 rfl rfl fo117_3) ?_
          refine J_q 41 rfl rfl rfl rfl (Q_iaArr rfl rfl rfl Try.underlying115 Try.sizeOf36 (by omega) (by omega)) ?_
          refine J_q 42 rfl rfl rfl rfl (Q_ldC1 (h_x.box _ (hS1.get (k := 0) rfl)) rfl rfl Try.isAgg36 ((h_x.cget r (by omega) (by omega)).trans (by rw [ew8]))) ?_
          refine J_q 43 rfl rfl rfl rfl (Q_move rfl rfl) ?_
          refine J_q 44 rfl rfl rfl rfl (Q_sub rfl rfl rfl (by omega) (by omega)) ?_
          obtain ⟨ad11, es11, hA11, hr11, hc11⟩ := RdF.nth hw8 (q - 1) (by omega) (by omega)
          obtain ⟨rfl, ho11⟩ := openSt hr11
          refine J_q 45 rfl rfl rfl rfl (Q_iaE hA11 rfl rfl rfl Try.underlying36 Try.sizeOf23 (by omega) (by omega)) ?_
          refine J_q 46 rfl rfl rfl rfl (Q_ldCK' (stL (nth (rowS x r) (q - 1))) (hc11 _ (hS1.get (k := 0) rfl)) rfl rfl Try.isAgg23 Try.sizeOf23 rfl rfl) ?_
          refine J_call 47 rfl rfl rfl rfl (T_call rfl rfl rfl Try.call31) (LFind_calls _ _ _ _ _ (h_x.kp (hS1.kept (k := 0) rfl)) (nth (rowS x r) (q - 1))) ?_
          rintro _ w12 ⟨l12_0, rfl, hk12, hr12_0⟩
          have hS12 := hS1.call hk12 6
          obtain ⟨A12_0, cap12_0, rfl, hd12_0, ho12_0⟩ := openCh hr12_0
          have hln12_0 := RdF.lens hd12_0
          have hsq12_0 := ho12_0.seq
          refine ⟨_, rfl, ?_⟩
          refine J_q 35 rfl rfl rfl rfl (Q_move rfl rfl) ?_
          refine J_q 48 rfl rfl rfl rfl (Q_extract rfl rfl rfl) ?_
          refine J_q 49 rfl rfl rfl rfl (Q_extract rfl rfl rfl) ?_
          refine J_do 8 rfl rfl rfl rfl (D_alloc 7 hS12 rfl Try.zeroValue55 (fun g13 w13 hS13 => ?_))
          refine J_do0 rfl rfl rfl rfl (D_store' (k := 7) hS13 rfl rfl rfl rfl Try.sizeOf55 rfl rfl rfl (fun w14 hS14 => ?_))
          refine J_q 9 rfl rfl rfl rfl (Q_assign rfl rfl) ?_
          refine J_nil (K_seq ?_)
          refine C_seq ?_
          refine C_region ?_
          refine J_q 50 rfl rfl rfl rfl (Q_ldBK' (k := 7) (chL (findC x (nth (rowS x r) (q - 1))) A12_0 cap12_0) hS14 rfl rfl rfl Try.isAgg55 Try.sizeOf55 rfl rfl) ?_
          refine J_do0 rfl rfl rfl rfl (D_store' (k := 1) hS14 rfl rfl rfl rfl Try.sizeOf55 rfl rfl rfl (fun w15 hS15 => ?_))
          refine J_q 7 rfl rfl rfl rfl (Q_assign rfl rfl) ?_
          refine J_nil (K_seq ?_)
          refine C_ret (body_ret (resG (vs := [.agg (chL (findC x (nth (rowS x r) (q - 1))) A12_0 cap12_0).toArray, .int .i64 0]) rfl ⟨rCK (chL (findC x (nth (rowS x r) (q - 1))) A12_0 cap12_0) (blk_cells (k := 1) hS15 rfl) rfl Try.isAgg55 Try.sizeOf55 rfl rfl, rT rfl, trivial⟩) ?_)
          exact ⟨_, tup2 (rfl) (eqI (by first | (exact (ownE_1 (by omega)).symm) | (exact (ownE_4 (by omega) (by omega)).symm) | (exact (ownE_0 (by omega) (by omega)).symm))), hS15.kept (k := 0) rfl, (by first | (rw [ownC_no (by first | (rw [ownE_1 (by omega)]; decide) | (rw [ownE_4 (by omega) (by omega)]; decide))]; exact mkCh (hS15.giveRd (d := tI) rfl 6 rfl rfl hd12_0) (by first | exact zeroCh_ok | assumption)) | (rw [ownC_0 (ownE_0 (by omega) (by omega))]; exact mkCh (hS15.giveRd (d := tI) rfl 6 rfl rfl hd12_0) (by first | exact zeroCh_ok | assumption)))⟩
end Go.Proofs.Ytceeellnjckmiaa

/- Printed by a program of mine (gen.py). -/
set_option maxRecDepth 100000
namespace Go.Proofs.Ytceeellnjckmiaa
open Go Go.Sl
theorem LEach_calls (w : World) (g_x : Nat) (p_x : LogP) (xR : Int) (x : List Change) (h_x : LogR w (lt_ w) g_x p_x xR x) (v_known : Value) (known : List Int) (h_known : (tSl tI).rd w [v_known] known) :
    Calls Try.prog 24 #[.pointer (some ⟨g_x, 0, none⟩), v_known] w fun e w' => ∃ g v, e = .returned (.func (.func 68) #[] #[.pointer (some ⟨g, 0, none⟩)]) ∧ Kp no w w' ∧ BoxAt w' (nw w w') g [v] ∧ RdF (tSl tCh) w' (nw w w') [v] (eachL x known) := by
  have hS0 := St.start w
  have hle_x := h_x.le
  have hcap_x := h_x.all.cap_le
  have hF_known := RdF.of_rd h_known
  obtain ⟨A_known, cap_known, rfl, hc_known, hm_known⟩ := hF_known.slice
  refine fn_calls' 39 (args := [_, _]) Try.func24 rfl rfl rfl ?_
  refine C_seq ?_
  refine C_region ?_
  refine J_q 4 rfl rfl rfl rfl (Q_assign rfl rfl) ?_
  refine J_nil (K_seq ?_)
  refine C_seq ?_
  refine C_region ?_
  refine J_do 5 rfl rfl rfl rfl (D_alloc 1 hS0 rfl Try.zeroValue43 (fun g1 w1 hS1 => ?_))
  refine J_nil (K_seq ?_)
  refine C_seq ?_
  refine C_seq ?_
  refine C_region ?_
  refine J_q 8 rfl rfl rfl rfl (Q_move rfl rfl) ?_
  refine J_q 9 rfl rfl rfl rfl (Q_neNilT rfl rfl rfl Try.underlying45) ?_
  refine J_q 10 rfl rfl rfl rfl (Q_move rfl rfl) ?_
  refine J_q 11 rfl rfl rfl rfl (Q_move rfl rfl) ?_
  refine J_call 12 rfl rfl rfl rfl (T_call rfl rfl rfl Try.call65) (CCheck_calls _ _ known (hS1.rd 0 rfl hF_known)) ?_
  rintro _ w2 ⟨rfl, hk2⟩
  have hS2 := hS1.kp0 hk2
  refine ⟨_, rfl, ?_⟩
  refine J_q 13 rfl rfl rfl rfl (Q_eql rfl rfl rfl) ?_
  refine J_q 14 rfl rfl rfl rfl (Q_pickT rfl rfl rfl) ?_
  refine J_nil (K_seq ?_)
  refine C_if rfl (fun h3 => ?_) (fun h3 => ?_)
  · refine C_seq ?_
    refine C_region ?_
    refine J_q 15 rfl rfl rfl rfl (Q_move rfl rfl) ?_
    refine J_q 16 rfl rfl rfl rfl (Q_nil rfl rfl) ?_
    refine J_q 17 rfl rfl rfl rfl (Q_fa0 rfl rfl fo117_1) ?_
    refine J_q 18 rfl rfl rfl rfl (Q_ldC1 (h_x.box _ (hS2.get (k := 0) rfl)) rfl rfl Try.isAgg43 rfl) ?_
    refine J_q 19 rfl rfl rfl rfl (Q_len rfl rfl Try.underlying43) ?_
    refine J_q 20 rfl rfl rfl rfl (Q_move rfl rfl) ?_
    refine J_nil (K_seq ?_)
    refine C_block ?_
    have hS4 := hS2.nil 2 55 13
    have hS5 := hS4.none 3
    refine C_loop2 (fun (i : Int) (out : RowR Change) => (x.length - i).toNat) (fun (i : Int) (out : RowR Change) => [(0, .pointer (some (⟨g_x, 0, none⟩ : Addr))), (1, .slice A_known known.length cap_known), (4, .nilFunc), (5, .pointer (some (⟨g1, 0, none⟩ : Addr))), (8, .pointer (some (⟨g_x, 0, none⟩ : Addr))), (9, .bool true), (10, .bool true), (11, .slice A_known known.length cap_known), (12, .int .i64 (chk2 known)), (13, .bool (decide ((chk2 known) = 0))), (14, .bool (decide ((chk2 known) = 0))), (15, .pointer (some (⟨g_x, 0, none⟩ : Addr))), (16, .pointer (some (⟨g_x, 0, none⟩ : Addr))), (17, .pointer (some ((⟨g_x, 0, none⟩ : Addr).add 1))), (18, .slice p_x.A x.length p_x.c), (19, .int .i64 (x.length : Int)), (20, .int .i64 i)]) (fun (i : Int) (out : RowR Change) w' => (0 ≤ i) ∧ (i ≤ x.length) ∧ (out.l.length ≤ i) ∧ (out.l = (tk x i).filter fun c => !decide (within c known)) ∧ (Kp no w out.W) ∧ (Reps tCh out.W (or_ no out.F) out.l out.f) ∧ St w w' [(3, fz out.W out.F), (2, own 55 13 (.slice out.A out.l.length out.c) out.l.length out.f), (1, blkL g1 ([.slice out.A out.l.length out.c]) 43), (0, fz w (lt_ w))]) 0 (⟨none, 0, [], [], w2, no⟩) ⟨(by first | omega | (simp; done) | (simp [tk]; done)), (by first | omega | (simp; done) | (simp [tk]; done)), (by first | omega | (simp; done) | (simp [tk]; done)), (by first | omega | (simp; done) | (simp [tk]; done)), (hS5.kept (k := 0) rfl), (Reps.nil _ _ _), hS5⟩ ⟨rfl, rfl, rfl, rfl, rfl, rfl, rfl, rfl, rfl, rfl, rfl, rfl, rfl, rfl, rfl, rfl, rfl, trivial⟩ ?_
    rintro i out w6 ⟨h0, h1, hl, hn, hK_out, hR_out, hS6⟩
    refine C_seq ?_
    refine C_region ?_
    refine J_q 21 rfl rfl rfl rfl (Q_lss rfl rfl rfl) ?_
    refine J_nil (K_seq ?_)
    refine C_seq ?_
    refine C_if rfl (fun h7 => ?_) (fun h7 => ?_)
    · refine C_skip (K_seq ?_)
      refine C_seq ?_
      refine C_block ?_
      refine C_seq ?_
      refine C_region ?_
      obtain ⟨ad8, es8, hA8, hr8, hc8⟩ := RdF.nth h_x.all i (by omega) (by omega)
      obtain ⟨A8, cap8, rfl, hd8, ho8⟩ := openCh hr8
      have hln8 := RdF.lens hd8
      have hsq8 := ho8.seq
      refine J_q 22 rfl rfl rfl rfl (Q_iaE hA8 rfl rfl rfl Try.underlying43 Try.sizeOf55 (by omega) (by omega)) ?_
      refine J_q 23 rfl rfl rfl rfl (Q_ldCK' (chL (nth x i) A8 cap8) (hc8 _ (hS6.get (k := 0) rfl)) rfl rfl Try.isAgg55 Try.sizeOf55 rfl rfl) ?_
      refine J_do 7 rfl rfl rfl rfl (D_alloc 4 hS6 rfl Try.zeroValue55 (fun g9 w9 hS9 => ?_))
      refine J_do0 rfl rfl rfl rfl (D_store' (k := 4) hS9 rfl rfl rfl rfl Try.sizeOf55 rfl rfl rfl (fun w10 hS10 => ?_))
      refine J_nil (K_seq ?_)
      refine C_seq ?_
      refine C_draw (fun w' => St w w' [(4, blkL g9 (chL (nth x i) A8 cap8) 55), (3, fz out.W out.F), (1, blkL g1 ([.slice out.A out.l.length out.c]) 43), (0, fz w (lt_ w))]) 8 mixedOrders 8 rfl (fun w11 hk11 => ?_)
      have hS11 := hS10.kp0 hk11
      refine JA_p 0 24 8 rfl rfl rfl rfl (by kernel_rfl) (by kernel_rfl) (fun _ => Q_fa0 rfl rfl fo55_1) ?_
      refine JA_q 1 25 rfl rfl rfl rfl (by kernel_rfl) (by kernel_rfl) (hS11.pick [4, 3, 1, 0] ⟨rfl, rfl, rfl, rfl, rfl, rfl, rfl, rfl, trivial⟩) (fun _ hI => Q_ldB1 (k := 4) hI rfl rfl rfl Try.isAgg3 rfl) ?_
      refine JA_p 2 26 8 rfl rfl rfl rfl (by kernel_rfl) (by kernel_rfl) (fun _ => Q_move rfl rfl) ?_
      refine JA_p 3 27 8 rfl rfl rfl rfl (by kernel_rfl) (by kernel_rfl) (fun _ => Q_fa0 rfl rfl fo55_0) ?_
      refine JA_p 4 28 8 rfl rfl rfl rfl (by kernel_rfl) (by kernel_rfl) (fun _ => Q_fa rfl rfl fo23_1 rfl) ?_
      refine JA_q 5 29 rfl rfl rfl rfl (by kernel_rfl) (by kernel_rfl) (hS11.pick [4, 3, 1, 0] ⟨rfl, rfl, rfl, rfl, rfl, rfl, rfl, rfl, trivial⟩) (fun _ hI => Q_ldB1 (k := 4) hI rfl rfl rfl Try.isAgg3 rfl) ?_
      refine JA_call 6 30 rfl rfl rfl rfl (by kernel_rfl) (T_call rfl rfl rfl Try.call66) (At_calls _ _ known (hS11.rd 0 rfl hF_known) ((nth x i).at_.r)) ?_
      rintro _ w12 ⟨rfl, hk12⟩
      have hS12 := hS11.kp0 hk12
      refine ⟨_, rfl, (fun _ => ((hS11.kp0 hk12).pick [4, 3, 1, 0] ⟨rfl, rfl, rfl, rfl, rfl, rfl, rfl, rfl, trivial⟩)), ?_⟩
      refine JA_p 7 31 8 rfl rfl rfl rfl (by kernel_rfl) (by kernel_rfl) (fun _ => Q_gtr rfl rfl rfl) ?_
      refine JA_end (by kernel_rfl) (K_seq ?_)
      refine C_if rfl (fun h13 => ?_) (fun h13 => ?_)
      · refine C_draw (fun w' => St w w' [(4, blkL g9 (chL (nth x i) A8 cap8) 55), (3, fz out.W out.F), (1, blkL g1 ([.slice out.A out.l.length out.c]) 43), (0, fz w (lt_ w))]) 5 mixedOrders 6 rfl (fun w14 hk14 => ?_)
        have hS14 := hS12.kp0 hk14
        refine JA_q 0 32 rfl rfl rfl rfl (by kernel_rfl) (by kernel_rfl) (hS14.pick [4, 3, 1, 0] ⟨rfl, rfl, rfl, rfl, rfl, rfl, rfl, rfl, trivial⟩) (fun _ hI => Q_ldB1' (k := 1) hI rfl rfl rfl Try.isAgg43 rfl) ?_
        refine JA_q 1 33 rfl rfl rfl rfl (by kernel_rfl) (by kernel_rfl) (hS14.pick [4, 3, 1, 0] ⟨rfl, rfl, rfl, rfl, rfl, rfl, rfl, rfl, trivial⟩) (fun _ hI => Q_ldBK' (k := 4) (chL (nth x i) A8 cap8) hI rfl rfl rfl Try.isAgg55 Try.sizeOf55 rfl rfl) ?_
        refine JA_call 2 34 rfl rfl rfl rfl (by kernel_rfl) (T_call rfl rfl rfl Try.call67) (CCopy_calls _ _ (nth x i) (hS14.rd 0 rfl hr8)) ?_
        rintro _ w15 ⟨l15_0, rfl, hk15, hr15_0⟩
        have hJ15 : ∀ b, (out.F) b → w15.heap[b]? = (out.W).heap[b]? := fun b hb => (hk15.blk b (hS14.fpLt (k := 3) rfl b hb) id).trans (hS14.get (k := 3) rfl b hb)
        have hRm15 := Reps.moved hR_out (no_lt _) hS14 rfl 3 rfl hK_out hk15
        have hS15 := hS14.join hk15 3 rfl
        obtain ⟨A15_0, cap15_0, rfl, hd15_0, ho15_0⟩ := openCh hr15_0
        have hln15_0 := RdF.lens hd15_0
        have hsq15_0 := ho15_0.seq
        refine ⟨_, rfl, (fun _ => ((hS14.kp0 hk15).pick [4, 3, 1, 0] ⟨rfl, rfl, rfl, rfl, rfl, rfl, rfl, rfl, trivial⟩)), ?_⟩
        refine JA_do 3 35 rfl rfl rfl rfl (by kernel_rfl) (D_bs (e := 55) (ps := [(0, .tmp 34)]) 6 (chL ((nth x i)) A15_0 cap15_0) hS15 rfl rfl (fun _ => by kernel_rfl) (fun g16 w16 hS16 => ⟨(fun _ => ((hS16.shrink 3 rfl (fun b hb => .inl hb) hJ15).pick [4, 3, 1, 0] ⟨rfl, rfl, rfl, rfl, rfl, rfl, rfl, rfl, trivial⟩)), ?_⟩))
        refine JA_do 4 36 rfl rfl rfl rfl (by kernel_rfl) (D_app1L ((nth x i)) out.l app43 hS16 2 rfl 6 rfl rfl rfl rfl rfl rfl (by first | omega | (simp only [List.length_nil, List.length_append, List.length_cons]; omega)) (by first | omega | (simp only [List.length_nil, List.length_append, List.length_cons]; omega)) (fun g17 cap17 w17 hS17 => ⟨(fun _ => ((hS17.shrink 3 rfl (fun b hb => .inl hb) hJ15).pick [4, 3, 1, 0] ⟨rfl, rfl, rfl, rfl, rfl, rfl, rfl, rfl, trivial⟩)), ?_⟩))
        refine JA_do0 5 rfl rfl rfl rfl (by kernel_rfl) (D_store' (k := 1) hS17 rfl rfl rfl rfl Try.sizeOf43 rfl rfl rfl (fun w18 hS18 => ⟨(fun h => nomatch h), ?_⟩))
        refine JA_end (by kernel_rfl) (N_blk (K_seq ?_))
        refine C_region ?_
        refine J_q 37 rfl rfl rfl rfl (Q_add rfl rfl rfl (by omega) (by omega)) ?_
        refine J_q 20 rfl rfl rfl rfl (Q_move rfl rfl) ?_
        exact J_nil (K_round2 (x0 := i) (x1 := out) (i + 1) ⟨some ⟨g17, 0, none⟩, cap17, out.f ++ chL ((nth x i)) A15_0 cap15_0, out.l ++ [((nth x i))], w15, or_ out.F (nw w14 w15)⟩ ⟨(by first | omega | (simp only [List.length_append, List.length_cons, List.length_nil]; omega) | (rw [tk_snoc h0 (by omega), List.filter_append, ← hn]; have hwi : within (nth x i) known ↔ ¬ at2 known (nth x i).at_.r < (nth x i).seq := Int.not_lt.symm; simp [*])), (by first | omega | (simp only [List.length_append, List.length_cons, List.length_nil]; omega) | (rw [tk_snoc h0 (by omega), List.filter_append, ← hn]; have hwi : within (nth x i) known ↔ ¬ at2 known (nth x i).at_.r < (nth x i).seq := Int.not_lt.symm; simp [*])), (by first | omega | (simp only [List.length_append, List.length_cons, List.length_nil]; omega) | (rw [tk_snoc h0 (by omega), List.filter_append, ← hn]; have hwi : within (nth x i) known ↔ ¬ at2 known (nth x i).at_.r < (nth x i).seq := Int.not_lt.symm; simp [*])), (by first | omega | (simp only [List.length_append, List.length_cons, List.length_nil]; omega) | (rw [tk_snoc h0 (by omega), List.filter_append, ← hn]; have hwi : within (nth x i) known ↔ ¬ at2 known (nth x i).at_.r < (nth x i).seq := Int.not_lt.symm; simp [*])), (hS15.kept (k := 0) rfl), (Reps.snoc hRm15 (RdF.gave hr15_0)), (hS18.pick [3, 2, 1, 0] ⟨rfl, rfl, rfl, rfl, rfl, rfl, rfl, rfl, trivial⟩)⟩ (by omega) ⟨rfl, rfl, rfl, rfl, rfl, rfl, rfl, rfl, rfl, rfl, rfl, rfl, rfl, rfl, rfl, rfl, rfl, trivial⟩)
      · refine C_skip (N_blk (K_seq ?_))
        refine C_region ?_
        refine J_q 37 rfl rfl rfl rfl (Q_add rfl rfl rfl (by omega) (by omega)) ?_
        refine J_q 20 rfl rfl rfl rfl (Q_move rfl rfl) ?_
        exact J_nil (K_round2 (x0 := i) (x1 := out) (i + 1) ⟨out.A, out.c, out.f, out.l, out.W, out.F⟩ ⟨(by first | omega | (simp only [List.length_append, List.length_cons, List.length_nil]; omega) | (rw [tk_snoc h0 (by omega), List.filter_append, ← hn]; have hwi : within (nth x i) known ↔ ¬ at2 known (nth x i).at_.r < (nth x i).seq := Int.not_lt.symm; simp [*])), (by first | omega | (simp only [List.length_append, List.length_cons, List.length_nil]; omega) | (rw [tk_snoc h0 (by omega), List.filter_append, ← hn]; have hwi : within (nth x i) known ↔ ¬ at2 known (nth x i).at_.r < (nth x i).seq := Int.not_lt.symm; simp [*])), (by first | omega | (simp only [List.length_append, List.length_cons, List.length_nil]; omega) | (rw [tk_snoc h0 (by omega), List.filter_append, ← hn]; have hwi : within (nth x i) known ↔ ¬ at2 known (nth x i).at_.r < (nth x i).seq := Int.not_lt.symm; simp [*])), (by first | omega | (simp only [List.length_append, List.length_cons, List.length_nil]; omega) | (rw [tk_snoc h0 (by omega), List.filter_append, ← hn]; have hwi : within (nth x i) known ↔ ¬ at2 known (nth x i).at_.r < (nth x i).seq := Int.not_lt.symm; simp [*])), hK_out, hR_out, (hS12.pick [3, 2, 1, 0] ⟨rfl, rfl, rfl, rfl, rfl, rfl, rfl, rfl, trivial⟩)⟩ (by omega) ⟨rfl, rfl, rfl, rfl, rfl, rfl, rfl, rfl, rfl, rfl, rfl, rfl, rfl, rfl, rfl, rfl, rfl, trivial⟩)
    · refine C_exit (X_then (X_then (X_hit (K_seq ?_))))
      refine C_seq ?_
      refine C_region ?_
      refine J_q 38 rfl rfl rfl rfl (Q_mkFunc rfl rfl) ?_
      refine J_q 4 rfl rfl rfl rfl (Q_assign rfl rfl) ?_
      refine J_nil (K_seq ?_)
      refine C_ret (body_ret (res1 rfl rfl) ?_)
      exact ⟨g1, _, rfl, hS6.kept (k := 0) rfl, hS6.boxAt rfl 1 rfl rfl, own_eq (by rw [hn, tk_full (by omega), eachL_yes (by assumption)]; rfl) (or_no (St.giveR (d := tCh) (no_lt _) hS6 rfl 2 rfl rfl 3 rfl rfl rfl hK_out hR_out (by omega)))⟩
  · refine C_skip (K_seq ?_)
    refine C_seq ?_
    refine C_region ?_
    refine J_q 38 rfl rfl rfl rfl (Q_mkFunc rfl rfl) ?_
    refine J_q 4 rfl rfl rfl rfl (Q_assign rfl rfl) ?_
    refine J_nil (K_seq ?_)
    refine C_ret (body_ret (res1 rfl rfl) ?_)
    exact ⟨g1, _, rfl, hS2.kept (k := 0) rfl, hS2.boxAt rfl 1 rfl rfl, own_eq (by exact (eachL_no (by assumption)).symm) (fun u _ => rdNil tCh u)⟩

theorem LEachN_calls (w : World) (v_known : Value) (known : List Int) (h_known : (tSl tI).rd w [v_known] known) :
    Calls Try.prog 24 #[.pointer none, v_known] w fun e w' => ∃ g v, e = .returned (.func (.func 68) #[] #[.pointer (some ⟨g, 0, none⟩)]) ∧ Kp no w w' ∧ BoxAt w' (nw w w') g [v] ∧ RdF (tSl tCh) w' (nw w w') [v] (([] : List Change)) := by
  have hS0 := St.start w
  have hF_known := RdF.of_rd h_known
  obtain ⟨A_known, cap_known, rfl, hc_known, hm_known⟩ := hF_known.slice
  refine fn_calls' 39 (args := [_, _]) Try.func24 rfl rfl rfl ?_
  refine C_seq ?_
  refine C_region ?_
  refine J_q 4 rfl rfl rfl rfl (Q_assign rfl rfl) ?_
  refine J_nil (K_seq ?_)
  refine C_seq ?_
  refine C_region ?_
  refine J_do 5 rfl rfl rfl rfl (D_alloc 1 hS0 rfl Try.zeroValue43 (fun g1 w1 hS1 => ?_))
  refine J_nil (K_seq ?_)
  refine C_seq ?_
  refine C_seq ?_
  refine C_region ?_
  refine J_q 8 rfl rfl rfl rfl (Q_move rfl rfl) ?_
  refine J_q 9 rfl rfl rfl rfl (Q_neNilF rfl rfl rfl Try.underlying45) ?_
  refine J_q 10 rfl rfl rfl rfl (Q_move rfl rfl) ?_
  refine J_no rfl rfl rfl ?_
  refine J_no rfl rfl rfl ?_
  refine J_no rfl rfl rfl ?_
  refine J_q 14 rfl rfl rfl rfl (Q_pickF rfl rfl rfl) ?_
  refine J_nil (K_seq ?_)
  refine C_false rfl ?_
  refine C_skip (K_seq ?_)
  refine C_seq ?_
  refine C_region ?_
  refine J_q 38 rfl rfl rfl rfl (Q_mkFunc rfl rfl) ?_
  refine J_q 4 rfl rfl rfl rfl (Q_assign rfl rfl) ?_
  refine J_nil (K_seq ?_)
  refine C_ret (body_ret (res1 rfl rfl) ?_)
  exact ⟨g1, _, rfl, hS1.kept (k := 0) rfl, hS1.boxAt rfl 1 rfl rfl, own_eq (by rfl) (fun u _ => rdNil tCh u)⟩
end Go.Proofs.Ytceeellnjckmiaa

/- Printed by a program of mine (gen.py). -/
set_option maxRecDepth 100000
namespace Go.Proofs.Ytceeellnjckmiaa
open Go Go.Sl
theorem LSince_calls (w : World) (g_x : Nat) (p_x : LogP) (xR : Int) (x : List Change) (h_x : LogR w (lt_ w) g_x p_x xR x) (v_known : Value) (known : List Int) (h_known : (tSl tI).rd w [v_known] known) (most : Int) (hmr : InR most) :
    Calls Try.prog 42 #[.pointer (some ⟨g_x, 0, none⟩), v_known, .int .i64 most] w fun e w' => ∃ v0, e = .returned (.tuple #[v0, .bool (decide (sinceM x known most)), .int .i64 (sinceE known most)]) ∧ Kp no w w' ∧ RdF (tSl tCh) w' (nw w w') [v0] (sinceL x known most) := by
  have hS0 := St.start w
  have hle_x := h_x.le
  have hcap_x := h_x.all.cap_le
  have hF_known := RdF.of_rd h_known
  obtain ⟨A_known, cap_known, rfl, hc_known, hm_known⟩ := hF_known.slice
  refine fn_callsM 33 (args := [_, _, _]) Try.func42 rfl rfl rfl ?_
  refine C_seq ?_
  refine C_region ?_
  refine J_do 5 rfl rfl rfl rfl (D_box 1 hS0 rfl rfl (fun g1 w1 hS1 => ?_))
  refine J_do 6 rfl rfl rfl rfl (D_alloc 2 hS1 rfl Try.zeroValue43 (fun g2 w2 hS2 => ?_))
  refine J_do 7 rfl rfl rfl rfl (D_alloc 3 hS2 rfl Try.zeroValue4 (fun g3 w3 hS3 => ?_))
  refine J_do 8 rfl rfl rfl rfl (D_alloc 4 hS3 rfl Try.zeroValue31 (fun g4 w4 hS4 => ?_))
  refine J_nil (K_seq ?_)
  refine C_seq ?_
  refine C_seq ?_
  refine C_region ?_
  refine J_q 12 rfl rfl rfl rfl (Q_move rfl rfl) ?_
  refine J_call 13 rfl rfl rfl rfl (T_call rfl rfl rfl Try.call65) (CCheck_calls _ _ known (hS4.rd 0 rfl hF_known)) ?_
  rintro _ w5 ⟨rfl, hk5⟩
  have hS5 := hS4.kp0 hk5
  refine ⟨_, rfl, ?_⟩
  refine J_q 9 rfl rfl rfl rfl (Q_assign rfl rfl) ?_
  refine J_nil (K_seq ?_)
  refine C_seq ?_
  refine C_region ?_
  refine J_q 14 rfl rfl rfl rfl (Q_move rfl rfl) ?_
  refine J_q 15 rfl rfl rfl rfl (Q_neqN rfl rfl rfl) ?_
  refine J_nil (K_seq ?_)
  refine C_ifN rfl (fun h6 => ?_) (fun h6 => ?_)
  · refine C_seq ?_
    refine C_region ?_
    refine J_q 16 rfl rfl rfl rfl (Q_move rfl rfl) ?_
    refine J_do0 rfl rfl rfl rfl (D_store' (k := 2) hS5 rfl rfl rfl rfl Try.sizeOf43 rfl rfl rfl (fun w7 hS7 => ?_))
    refine J_do0 rfl rfl rfl rfl (D_store' (k := 3) hS7 rfl rfl rfl rfl Try.sizeOf4 rfl rfl rfl (fun w8 hS8 => ?_))
    refine J_do0 rfl rfl rfl rfl (D_store' (k := 4) hS8 rfl rfl rfl rfl Try.sizeOf31 rfl rfl rfl (fun w9 hS9 => ?_))
    refine J_nil (K_seq ?_)
    refine C_ret (R_then (bodyM_ret (w0 := w) ?_))
    refine marks_end (resG (vs := [.slice none 0 0, .bool false, .int .i64 (chk2 known)]) rfl ⟨rC1 (blk_cells (k := 2) hS9 rfl) rfl Try.isAgg43 rfl, rC1 (blk_cells (k := 3) hS9 rfl) rfl Try.isAgg4 rfl, rC1 (blk_cells (k := 4) hS9 rfl) rfl Try.isAgg31 rfl, trivial⟩) ?_
    have hS10 := hS9.nil 8 55 13
    exact ⟨_, tup3 (rfl) (eqB (by first | (refine (decide_eq_false ?_).symm; intro hq0; have hqa := hq0.1; have hqb := hq0.2.1; have hqc := hq0.2.2; first | exact absurd hqa (by assumption) | exact absurd (by assumption) hqb | omega | (have hq9 := tk_len (l := eachL x known) (i := i) (by omega) (by omega); have hq8 : (out.l.length : Int) = i := (by rw [hn]; exact hq9); rw [← eachL_yes (x := x) hqa] at hqc; omega)) | (have hq9 := tk_len (l := eachL x known) (i := i) (by omega) (by omega); have hq8 : (out.l.length : Int) = i := (by rw [hn]; exact hq9); refine (decide_eq_true ⟨by omega, by omega, ?_⟩).symm; rw [← eachL_yes (x := x) (by omega)]; omega))) (eqI (by first | (rw [sinceE, if_pos (by assumption)]) | (rw [sinceE, if_neg (by omega), if_pos (by assumption)]) | (rw [sinceE, if_neg (by omega), if_neg (by assumption)]))), hS10.kept (k := 0) rfl, own_eq (by first | (rw [sinceL, if_pos (by first | (exact .inl (by assumption)) | (exact .inr (by assumption)))]) | (have hq9 := tk_len (l := eachL x known) (i := i) (by omega) (by omega); have hq8 : (out.l.length : Int) = i := (by rw [hn]; exact hq9); first | (have hqa : (i : Int) = most := (by omega); subst hqa; rw [sinceL, if_neg (by omega), ← eachL_yes (x := x) (by omega), hn]) | (rw [sinceL, if_neg (by omega), ← eachL_yes (x := x) (by omega), hn, tk_full (by omega), tk_full (by omega)]))) (hS10.give (d := tCh) rfl 8 rfl rfl rfl (Reps.nil _ w _) (show _ ≤ 68719476736 by first | omega | (simp only [List.length_nil]; omega) | (have hq := tk_len (l := eachL x known) (i := i) (by omega) (by omega); have hq2 := eachL_len x known; rw [hn]; (try simp only [List.length_append, List.length_cons, List.length_nil]); omega) | (have hq := tk_len (l := eachL x known) (i := i) (by omega) (by omega); rw [← hn] at hq; have hq2 := eachL_len x known; (try simp only [List.length_append, List.length_cons, List.length_nil]); omega)))⟩
  · refine C_skip (K_seq ?_)
    refine C_seq ?_
    refine C_seq ?_
    refine C_region ?_
    refine J_q 17 rfl rfl rfl rfl (Q_ldB1' (k := 1) hS5 rfl rfl rfl Try.isAgg3 rfl) ?_
    refine J_q 18 rfl rfl rfl rfl (Q_lss rfl rfl rfl) ?_
    refine J_nil (K_seq ?_)
    refine C_if rfl (fun h11 => ?_) (fun h11 => ?_)
    · refine C_seq ?_
      refine C_region ?_
      refine J_do0 rfl rfl rfl rfl (D_store' (k := 2) hS5 rfl rfl rfl rfl Try.sizeOf43 rfl rfl rfl (fun w12 hS12 => ?_))
      refine J_do0 rfl rfl rfl rfl (D_store' (k := 3) hS12 rfl rfl rfl rfl Try.sizeOf4 rfl rfl rfl (fun w13 hS13 => ?_))
      refine J_do0 rfl rfl rfl rfl (D_store' (k := 4) hS13 rfl rfl rfl rfl Try.sizeOf31 rfl rfl rfl (fun w14 hS14 => ?_))
      refine J_nil (K_seq ?_)
      refine C_ret (R_then (bodyM_ret (w0 := w) ?_))
      refine marks_end (resG (vs := [.slice none 0 0, .bool false, .int .i64 1]) rfl ⟨rC1 (blk_cells (k := 2) hS14 rfl) rfl Try.isAgg43 rfl, rC1 (blk_cells (k := 3) hS14 rfl) rfl Try.isAgg4 rfl, rC1 (blk_cells (k := 4) hS14 rfl) rfl Try.isAgg31 rfl, trivial⟩) ?_
      have hS15 := hS14.nil 12 55 13
      exact ⟨_, tup3 (rfl) (eqB (by first | (refine (decide_eq_false ?_).symm; intro hq0; have hqa := hq0.1; have hqb := hq0.2.1; have hqc := hq0.2.2; first | exact absurd hqa (by assumption) | exact absurd (by assumption) hqb | omega | (have hq9 := tk_len (l := eachL x known) (i := i) (by omega) (by omega); have hq8 : (out.l.length : Int) = i := (by rw [hn]; exact hq9); rw [← eachL_yes (x := x) hqa] at hqc; omega)) | (have hq9 := tk_len (l := eachL x known) (i := i) (by omega) (by omega); have hq8 : (out.l.length : Int) = i := (by rw [hn]; exact hq9); refine (decide_eq_true ⟨by omega, by omega, ?_⟩).symm; rw [← eachL_yes (x := x) (by omega)]; omega))) (eqI (by first | (rw [sinceE, if_pos (by assumption)]) | (rw [sinceE, if_neg (by omega), if_pos (by assumption)]) | (rw [sinceE, if_neg (by omega), if_neg (by assumption)]))), hS15.kept (k := 0) rfl, own_eq (by first | (rw [sinceL, if_pos (by first | (exact .inl (by assumption)) | (exact .inr (by assumption)))]) | (have hq9 := tk_len (l := eachL x known) (i := i) (by omega) (by omega); have hq8 : (out.l.length : Int) = i := (by rw [hn]; exact hq9); first | (have hqa : (i : Int) = most := (by omega); subst hqa; rw [sinceL, if_neg (by omega), ← eachL_yes (x := x) (by omega), hn]) | (rw [sinceL, if_neg (by omega), ← eachL_yes (x := x) (by omega), hn, tk_full (by omega), tk_full (by omega)]))) (hS15.give (d := tCh) rfl 12 rfl rfl rfl (Reps.nil _ w _) (show _ ≤ 68719476736 by first | omega | (simp only [List.length_nil]; omega) | (have hq := tk_len (l := eachL x known) (i := i) (by omega) (by omega); have hq2 := eachL_len x known; rw [hn]; (try simp only [List.length_append, List.length_cons, List.length_nil]); omega) | (have hq := tk_len (l := eachL x known) (i := i) (by omega) (by omega); rw [← hn] at hq; have hq2 := eachL_len x known; (try simp only [List.length_append, List.length_cons, List.length_nil]); omega)))⟩
    · refine C_skip (K_seq ?_)
      refine C_seq ?_
      refine C_region ?_
      refine J_do 10 rfl rfl rfl rfl (D_alloc 13 hS5 rfl Try.zeroValue43 (fun g16 w16 hS16 => ?_))
      refine J_nil (K_seq ?_)
      refine C_seq ?_
      refine C_seq ?_
      refine C_region ?_
      refine J_q 19 rfl rfl rfl rfl (Q_move rfl rfl) ?_
      refine J_q 20 rfl rfl rfl rfl (Q_move rfl rfl) ?_
      refine J_call 21 rfl rfl rfl rfl (T_call rfl rfl rfl Try.call24) (LEach_calls _ _ _ _ _ (h_x.kp (hS16.kept (k := 0) rfl)) _ known (hS16.rd 0 rfl hF_known)) ?_
      rintro _ w17 ⟨gE17, vE17, rfl, hk17, hBE17, hRE17⟩
      have hS17 := hS16.call hk17 14
      obtain ⟨AE17, cE17, rfl, hcE17, hxE17⟩ := hRE17.slice
      have hzE17 := eachL_len x known
      refine ⟨_, rfl, ?_⟩
      refine J_nil (K_seq ?_)
      refine C_block ?_
      refine C_range 15 16 hS17 rfl Try.call68 (fun l18 d18 B18 w18 hB18 hS18 => ?_)
      refine fn_calls' 17 (args := [_, _]) Try.func68 rfl rfl rfl ?_
      refine C_seq ?_
      refine C_region ?_
      refine J_q 5 rfl rfl rfl rfl (Q_ldC1' (hBE17 _ (hS18.get (k := 14) rfl)) rfl rfl Try.isAgg43 rfl) ?_
      refine J_q 6 rfl rfl rfl rfl (Q_len rfl rfl Try.underlying43) ?_
      refine J_q 7 rfl rfl rfl rfl (Q_move rfl rfl) ?_
      refine J_nil (K_seq ?_)
      refine C_block ?_
      have hS19 := hS18.nil 17 55 13
      have hS20 := hS19.none 18
      refine C_loop2 (fun (i : Int) (out : RowR Change) => ((eachL x known).length - i).toNat) (fun (i : Int) (out : RowR Change) => [(0, .func (.yield l18) #[] #[]), (1, .pointer (some (⟨gE17, 0, none⟩ : Addr))), (5, .slice AE17 ((eachL x known).length) cE17), (6, .int .i64 ((eachL x known).length : Int)), (7, .int .i64 i)]) (fun (i : Int) (out : RowR Change) w' => (0 ≤ i) ∧ (i ≤ (eachL x known).length) ∧ (out.l = tk (eachL x known) i) ∧ (0 ≤ i → i ≤ most) ∧ (Kp no w out.W) ∧ (Reps tCh out.W (or_ no out.F) out.l out.f) ∧ St w w' [(18, fz out.W out.F), (17, own 55 13 (.slice out.A out.l.length out.c) out.l.length out.f), (15, lpE l18 B18 .ready none), (16, dfE d18), (14, fz w17 (nw w16 w17)), (13, blkL g16 ([.slice out.A out.l.length out.c]) 43), (4, blkL g4 ([.int .i64 0]) 31), (3, blkL g3 ([.bool false]) 4), (2, blkL g2 ([.slice none 0 0]) 43), (1, blkL g1 ([.int .i64 most]) 3), (0, fz w (lt_ w))]) 0 (⟨none, 0, [], [], w18, no⟩) ⟨(by first | omega | rfl | (simp [tk]; done)), (by first | omega | rfl | (simp [tk]; done)), (by first | omega | rfl | (simp [tk]; done)), (by first | omega | rfl | (simp [tk]; done)), (hS20.kept (k := 0) rfl), (Reps.nil _ _ _), hS20⟩ ⟨rfl, rfl, rfl, rfl, rfl, trivial⟩ ?_
      rintro i out w21 ⟨h0, h1, hn, h2, hK_out, hR_out, hS21⟩
      refine C_seq ?_
      refine C_region ?_
      refine J_q 8 rfl rfl rfl rfl (Q_lss rfl rfl rfl) ?_
      refine J_nil (K_seq ?_)
      refine C_seq ?_
      refine C_if rfl (fun h22 => ?_) (fun h22 => ?_)
      · refine C_skip (K_seq ?_)
        refine C_seq ?_
        refine C_block ?_
        refine C_seq ?_
        refine C_region ?_
        obtain ⟨ad23, es23, hA23, hr23, hc23⟩ := RdF.nth hRE17 i (by omega) (by omega)
        obtain ⟨A23, cap23, rfl, hd23, ho23⟩ := openCh hr23
        have hln23 := RdF.lens hd23
        have hsq23 := ho23.seq
        refine J_q 9 rfl rfl rfl rfl (Q_iaE hA23 rfl rfl rfl Try.underlying43 Try.sizeOf55 (by omega) (by omega)) ?_
        refine J_q 10 rfl rfl rfl rfl (Q_ldCK' (chL (nth (eachL x known) i) A23 cap23) (hc23 _ (hS21.get (k := 14) rfl)) rfl rfl Try.isAgg55 Try.sizeOf55 rfl rfl) ?_
        refine J_do 4 rfl rfl rfl rfl (D_alloc 19 hS21 rfl Try.zeroValue55 (fun g24 w24 hS24 => ?_))
        refine J_do0 rfl rfl rfl rfl (D_store' (k := 19) hS24 rfl rfl rfl rfl Try.sizeOf55 rfl rfl rfl (fun w25 hS25 => ?_))
        refine J_nil (K_seq ?_)
        refine C_seq ?_
        refine C_region ?_
        refine J_q 11 rfl rfl rfl rfl (Q_move rfl rfl) ?_
        refine J_q 12 rfl rfl rfl rfl (Q_ldBK' (k := 19) (chL (nth (eachL x known) i) A23 cap23) hS25 rfl rfl rfl Try.isAgg55 Try.sizeOf55 rfl rfl) ?_
        refine J_call 13 rfl rfl rfl rfl (T_call rfl rfl rfl Try.call67) (CCopy_calls _ _ (nth (eachL x known) i) (hS25.rd 14 rfl hr23)) ?_
        rintro _ w26 ⟨l26_0, rfl, hk26, hr26_0⟩
        have hRm26 := Reps.moved hR_out (no_lt _) hS25 rfl 18 rfl hK_out hk26
        have hS26 := hS25.join hk26 18 rfl
        obtain ⟨A26_0, cap26_0, rfl, hd26_0, ho26_0⟩ := openCh hr26_0
        have hln26_0 := RdF.lens hd26_0
        have hsq26_0 := ho26_0.seq
        refine ⟨_, rfl, ?_⟩
        refine J_round 14 (k := 15) rfl rfl rfl rfl rfl rfl rfl hB18 hS26 rfl rfl rfl ?_
        refine C_sub (E' := [(5, .pointer (some (⟨g1, 0, none⟩ : Addr))), (6, .pointer (some (⟨g2, 0, none⟩ : Addr))), (7, .pointer (some (⟨g3, 0, none⟩ : Addr))), (8, .pointer (some (⟨g4, 0, none⟩ : Addr))), (10, .pointer (some (⟨g16, 0, none⟩ : Addr))), (22, .agg (chL ((nth (eachL x known) i)) A26_0 cap26_0).toArray)]) ⟨rfl, rfl, rfl, rfl, rfl, rfl, trivial⟩ ?_
        refine C_region ?_
        refine J_do 11 rfl rfl rfl rfl (D_alloc 21 hS26 rfl Try.zeroValue55 (fun g27 w27 hS27 => ?_))
        refine J_do0 rfl rfl rfl rfl (D_store' (k := 21) hS27 rfl rfl rfl rfl Try.sizeOf55 rfl rfl rfl (fun w28 hS28 => ?_))
        refine J_nil (K_begin hS28 15 rfl (fun w29 hS29 => ?_))
        refine C_block ?_
        refine C_seq ?_
        refine C_seq ?_
        refine C_region ?_
        refine J_q 23 rfl rfl rfl rfl (Q_ldB1' (k := 13) hS29 rfl rfl rfl Try.isAgg43 rfl) ?_
        refine J_q 24 rfl rfl rfl rfl (Q_len rfl rfl Try.underlying43) ?_
        refine J_q 25 rfl rfl rfl rfl (Q_ldB1' (k := 1) hS29 rfl rfl rfl Try.isAgg3 rfl) ?_
        refine J_q 26 rfl rfl rfl rfl (Q_eql rfl rfl rfl) ?_
        refine J_nil (K_seq ?_)
        refine C_if rfl (fun h30 => ?_) (fun h30 => ?_)
        · refine C_seq ?_
          refine C_region ?_
          refine J_q 27 rfl rfl rfl rfl (Q_ldB1' (k := 13) hS29 rfl rfl rfl Try.isAgg43 rfl) ?_
          refine J_do0 rfl rfl rfl rfl (D_store' (k := 2) hS29 rfl rfl rfl rfl Try.sizeOf43 rfl rfl rfl (fun w31 hS31 => ?_))
          refine J_do0 rfl rfl rfl rfl (D_store' (k := 3) hS31 rfl rfl rfl rfl Try.sizeOf4 rfl rfl rfl (fun w32 hS32 => ?_))
          refine J_do0 rfl rfl rfl rfl (D_store' (k := 4) hS32 rfl rfl rfl rfl Try.sizeOf31 rfl rfl rfl (fun w33 hS33 => ?_))
          refine J_nil (K_seq ?_)
          refine C_ret (R_then (R_blk (K_rret hS33 15 rfl (fun w34 hS34 => ?_))))
          have hS35 : St w w34 [(19, blkL g24 (chL (nth (eachL x known) i) A23 cap23) 55), (18, fz w26 (or_ out.F (nw w25 w26))), (17, own 55 13 (.slice out.A out.l.length out.c) out.l.length out.f), (15, lpE l18 B18 .done (some .ret)), (16, dfE d18), (14, fz w17 (nw w16 w17)), (13, blkL g16 ([.slice out.A out.l.length out.c]) 43), (4, blkL g4 ([.int .i64 0]) 31), (3, blkL g3 ([.bool true]) 4), (2, blkL g2 ([.slice out.A out.l.length out.c]) 43), (1, blkL g1 ([.int .i64 most]) 3), (0, fz w (lt_ w))] := hS34.pick [19, 18, 17, 15, 16, 14, 13, 4, 3, 2, 1, 0] ⟨rfl, rfl, rfl, rfl, rfl, rfl, rfl, rfl, rfl, rfl, rfl, rfl, rfl, rfl, rfl, rfl, rfl, rfl, rfl, rfl, rfl, rfl, rfl, rfl, trivial⟩
          refine J_q 15 rfl rfl rfl rfl (Q_not rfl rfl) ?_
          refine J_nil (K_seq ?_)
          refine C_true rfl ?_
          refine C_ret (R_blk (R_then (R_then (R_blk (body_ret (res0 rfl) ?_)))))
          refine range_jump hS35 15 rfl (fun h => nomatch h) (fun w36 hS36 => ?_) _
          refine C_ret (R_blk (R_then (bodyM_ret (w0 := w) ?_)))
          refine .cons 16 hS36 rfl (fun w37 hS37 => ?_)
          refine marks_end (resG (vs := [.slice out.A out.l.length out.c, .bool true, .int .i64 0]) rfl ⟨rC1 (blk_cells (k := 2) hS37 rfl) rfl Try.isAgg43 rfl, rC1 (blk_cells (k := 3) hS37 rfl) rfl Try.isAgg4 rfl, rC1 (blk_cells (k := 4) hS37 rfl) rfl Try.isAgg31 rfl, trivial⟩) ?_
          exact ⟨_, tup3 (rfl) (eqB (by first | (refine (decide_eq_false ?_).symm; intro hq0; have hqa := hq0.1; have hqb := hq0.2.1; have hqc := hq0.2.2; first | exact absurd hqa (by assumption) | exact absurd (by assumption) hqb | omega | (have hq9 := tk_len (l := eachL x known) (i := i) (by omega) (by omega); have hq8 : (out.l.length : Int) = i := (by rw [hn]; exact hq9); rw [← eachL_yes (x := x) hqa] at hqc; omega)) | (have hq9 := tk_len (l := eachL x known) (i := i) (by omega) (by omega); have hq8 : (out.l.length : Int) = i := (by rw [hn]; exact hq9); refine (decide_eq_true ⟨by omega, by omega, ?_⟩).symm; rw [← eachL_yes (x := x) (by omega)]; omega))) (eqI (by first | (rw [sinceE, if_pos (by assumption)]) | (rw [sinceE, if_neg (by omega), if_pos (by assumption)]) | (rw [sinceE, if_neg (by omega), if_neg (by assumption)]))), hS37.kept (k := 0) rfl, own_eq (by first | (rw [sinceL, if_pos (by first | (exact .inl (by assumption)) | (exact .inr (by assumption)))]) | (have hq9 := tk_len (l := eachL x known) (i := i) (by omega) (by omega); have hq8 : (out.l.length : Int) = i := (by rw [hn]; exact hq9); first | (have hqa : (i : Int) = most := (by omega); subst hqa; rw [sinceL, if_neg (by omega), ← eachL_yes (x := x) (by omega), hn]) | (rw [sinceL, if_neg (by omega), ← eachL_yes (x := x) (by omega), hn, tk_full (by omega), tk_full (by omega)]))) (or_no (St.giveR (d := tCh) (no_lt _) hS37 rfl 17 rfl rfl 18 rfl rfl rfl (hS26.kept (k := 0) rfl) hRm26 (by first | omega | (simp only [List.length_nil]; omega) | (have hq := tk_len (l := eachL x known) (i := i) (by omega) (by omega); have hq2 := eachL_len x known; rw [hn]; (try simp only [List.length_append, List.length_cons, List.length_nil]); omega) | (have hq := tk_len (l := eachL x known) (i := i) (by omega) (by omega); rw [← hn] at hq; have hq2 := eachL_len x known; (try simp only [List.length_append, List.length_cons, List.length_nil]); omega))))⟩
        · refine C_skip (K_seq ?_)
          refine C_region ?_
          refine J_q 28 rfl rfl rfl rfl (Q_ldB1' (k := 13) hS29 rfl rfl rfl Try.isAgg43 rfl) ?_
          refine J_q 29 rfl rfl rfl rfl (Q_ldBK' (k := 21) (chL ((nth (eachL x known) i)) A26_0 cap26_0) hS29 rfl rfl rfl Try.isAgg55 Try.sizeOf55 rfl rfl) ?_
          refine J_do 30 rfl rfl rfl rfl (D_bs (e := 55) (ps := [(0, .tmp 29)]) 26 (chL ((nth (eachL x known) i)) A26_0 cap26_0) hS29 rfl rfl (fun _ => by kernel_rfl) (fun g38 w38 hS38 => ?_))
          refine J_do 31 rfl rfl rfl rfl (D_app1L ((nth (eachL x known) i)) out.l app43 hS38 17 rfl 26 rfl rfl rfl rfl rfl rfl (by first | omega | (simp only [List.length_nil]; omega) | (have hq := tk_len (l := eachL x known) (i := i) (by omega) (by omega); have hq2 := eachL_len x known; rw [hn]; (try simp only [List.length_append, List.length_cons, List.length_nil]); omega) | (have hq := tk_len (l := eachL x known) (i := i) (by omega) (by omega); rw [← hn] at hq; have hq2 := eachL_len x known; (try simp only [List.length_append, List.length_cons, List.length_nil]); omega)) (by first | omega | (simp only [List.length_nil]; omega) | (have hq := tk_len (l := eachL x known) (i := i) (by omega) (by omega); have hq2 := eachL_len x known; rw [hn]; (try simp only [List.length_append, List.length_cons, List.length_nil]); omega) | (have hq := tk_len (l := eachL x known) (i := i) (by omega) (by omega); rw [← hn] at hq; have hq2 := eachL_len x known; (try simp only [List.length_append, List.length_cons, List.length_nil]); omega)) (fun g39 cap39 w39 hS39 => ?_))
          refine J_do0 rfl rfl rfl rfl (D_store' (k := 13) hS39 rfl rfl rfl rfl Try.sizeOf43 rfl rfl rfl (fun w40 hS40 => ?_))
          refine J_nil (N_blk (K_rend hS40 15 rfl (fun w41 hS41 => ?_)))
          have hS42 : St w w41 [(19, blkL g24 (chL (nth (eachL x known) i) A23 cap23) 55), (18, fz w26 (or_ out.F (nw w25 w26))), (17, own 55 13 (.slice (some ⟨g39, 0, none⟩) (out.l ++ [((nth (eachL x known) i))]).length cap39) ((out.l ++ [((nth (eachL x known) i))]).length) (out.f ++ chL ((nth (eachL x known) i)) A26_0 cap26_0)), (15, lpE l18 B18 .ready none), (16, dfE d18), (14, fz w17 (nw w16 w17)), (13, blkL g16 ([.slice (some ⟨g39, 0, none⟩) ((out.l ++ [((nth (eachL x known) i))]).length) cap39]) 43), (4, blkL g4 ([.int .i64 0]) 31), (3, blkL g3 ([.bool false]) 4), (2, blkL g2 ([.slice none 0 0]) 43), (1, blkL g1 ([.int .i64 most]) 3), (0, fz w (lt_ w))] := hS41.pick [19, 18, 17, 15, 16, 14, 13, 4, 3, 2, 1, 0] ⟨rfl, rfl, rfl, rfl, rfl, rfl, rfl, rfl, rfl, rfl, rfl, rfl, rfl, rfl, rfl, rfl, rfl, rfl, rfl, rfl, rfl, rfl, rfl, rfl, trivial⟩
          refine J_q 15 rfl rfl rfl rfl (Q_not rfl rfl) ?_
          refine J_nil (K_seq ?_)
          refine C_false rfl ?_
          refine C_skip (N_blk (K_seq ?_))
          refine C_region ?_
          refine J_q 16 rfl rfl rfl rfl (Q_add rfl rfl rfl (by omega) (by omega)) ?_
          refine J_q 7 rfl rfl rfl rfl (Q_move rfl rfl) ?_
          exact J_nil (K_round2 (x0 := i) (x1 := out) (i + 1) ⟨some ⟨g39, 0, none⟩, cap39, out.f ++ chL ((nth (eachL x known) i)) A26_0 cap26_0, out.l ++ [((nth (eachL x known) i))], w26, or_ out.F (nw w25 w26)⟩ ⟨(by first | omega | (rw [tk_snoc h0 (by omega), ← hn]) | (have hq9 := tk_len (l := eachL x known) (i := i) (by omega) (by omega); have hq8 : (out.l.length : Int) = i := (by rw [hn]; exact hq9); omega)), (by first | omega | (rw [tk_snoc h0 (by omega), ← hn]) | (have hq9 := tk_len (l := eachL x known) (i := i) (by omega) (by omega); have hq8 : (out.l.length : Int) = i := (by rw [hn]; exact hq9); omega)), (by first | omega | (rw [tk_snoc h0 (by omega), ← hn]) | (have hq9 := tk_len (l := eachL x known) (i := i) (by omega) (by omega); have hq8 : (out.l.length : Int) = i := (by rw [hn]; exact hq9); omega)), (by first | omega | (rw [tk_snoc h0 (by omega), ← hn]) | (have hq9 := tk_len (l := eachL x known) (i := i) (by omega) (by omega); have hq8 : (out.l.length : Int) = i := (by rw [hn]; exact hq9); omega)), (hS26.kept (k := 0) rfl), (Reps.snoc hRm26 (RdF.gave hr26_0)), (hS42.pick [18, 17, 15, 16, 14, 13, 4, 3, 2, 1, 0] ⟨rfl, rfl, rfl, rfl, rfl, rfl, rfl, rfl, rfl, rfl, rfl, rfl, rfl, rfl, rfl, rfl, rfl, rfl, rfl, rfl, rfl, rfl, trivial⟩)⟩ (by omega) ⟨rfl, rfl, rfl, rfl, rfl, trivial⟩)
      · refine C_exit (X_then (X_then (X_hit (body_end (res0 rfl) ?_))))
        refine range_none hS21 15 rfl (fun h => nomatch h) (fun w43 hS43 => ?_) _
        refine id (N_blk (K_seq ?_))
        refine C_seq ?_
        refine C_region ?_
        refine J_q 32 rfl rfl rfl rfl (Q_ldB1' (k := 13) hS43 rfl rfl rfl Try.isAgg43 rfl) ?_
        refine J_do0 rfl rfl rfl rfl (D_store' (k := 2) hS43 rfl rfl rfl rfl Try.sizeOf43 rfl rfl rfl (fun w44 hS44 => ?_))
        refine J_do0 rfl rfl rfl rfl (D_store' (k := 3) hS44 rfl rfl rfl rfl Try.sizeOf4 rfl rfl rfl (fun w45 hS45 => ?_))
        refine J_do0 rfl rfl rfl rfl (D_store' (k := 4) hS45 rfl rfl rfl rfl Try.sizeOf31 rfl rfl rfl (fun w46 hS46 => ?_))
        refine J_nil (K_seq ?_)
        refine C_ret (bodyM_ret (w0 := w) ?_)
        refine .cons 16 hS46 rfl (fun w47 hS47 => ?_)
        refine marks_end (resG (vs := [.slice out.A out.l.length out.c, .bool false, .int .i64 0]) rfl ⟨rC1 (blk_cells (k := 2) hS47 rfl) rfl Try.isAgg43 rfl, rC1 (blk_cells (k := 3) hS47 rfl) rfl Try.isAgg4 rfl, rC1 (blk_cells (k := 4) hS47 rfl) rfl Try.isAgg31 rfl, trivial⟩) ?_
        exact ⟨_, tup3 (rfl) (eqB (by first | (refine (decide_eq_false ?_).symm; intro hq0; have hqa := hq0.1; have hqb := hq0.2.1; have hqc := hq0.2.2; first | exact absurd hqa (by assumption) | exact absurd (by assumption) hqb | omega | (have hq9 := tk_len (l := eachL x known) (i := i) (by omega) (by omega); have hq8 : (out.l.length : Int) = i := (by rw [hn]; exact hq9); rw [← eachL_yes (x := x) hqa] at hqc; omega)) | (have hq9 := tk_len (l := eachL x known) (i := i) (by omega) (by omega); have hq8 : (out.l.length : Int) = i := (by rw [hn]; exact hq9); refine (decide_eq_true ⟨by omega, by omega, ?_⟩).symm; rw [← eachL_yes (x := x) (by omega)]; omega))) (eqI (by first | (rw [sinceE, if_pos (by assumption)]) | (rw [sinceE, if_neg (by omega), if_pos (by assumption)]) | (rw [sinceE, if_neg (by omega), if_neg (by assumption)]))), hS47.kept (k := 0) rfl, own_eq (by first | (rw [sinceL, if_pos (by first | (exact .inl (by assumption)) | (exact .inr (by assumption)))]) | (have hq9 := tk_len (l := eachL x known) (i := i) (by omega) (by omega); have hq8 : (out.l.length : Int) = i := (by rw [hn]; exact hq9); first | (have hqa : (i : Int) = most := (by omega); subst hqa; rw [sinceL, if_neg (by omega), ← eachL_yes (x := x) (by omega), hn]) | (rw [sinceL, if_neg (by omega), ← eachL_yes (x := x) (by omega), hn, tk_full (by omega), tk_full (by omega)]))) (or_no (St.giveR (d := tCh) (no_lt _) hS47 rfl 17 rfl rfl 18 rfl rfl rfl hK_out hR_out (by first | omega | (simp only [List.length_nil]; omega) | (have hq := tk_len (l := eachL x known) (i := i) (by omega) (by omega); have hq2 := eachL_len x known; rw [hn]; (try simp only [List.length_append, List.length_cons, List.length_nil]); omega) | (have hq := tk_len (l := eachL x known) (i := i) (by omega) (by omega); rw [← hn] at hq; have hq2 := eachL_len x known; (try simp only [List.length_append, List.length_cons, List.length_nil]); omega))))⟩

theorem LAll_calls (w : World) (g_x : Nat) (p_x : LogP) (xR : Int) (x : List Change) (h_x : LogR w (lt_ w) g_x p_x xR x) :
    Calls Try.prog 36 #[.pointer (some ⟨g_x, 0, none⟩)] w fun e w' => ∃ v0, e = .returned (v0) ∧ Kp no w w' ∧ RdF (tSl tCh) w' (nw w w') [v0] (x) := by
  have hS0 := St.start w
  have hle_x := h_x.le
  have hcap_x := h_x.all.cap_le
  have hen := h_x.good.each_nil
  refine fn_calls' 6 (args := [_]) Try.func36 rfl rfl rfl ?_
  refine C_seq ?_
  refine C_region ?_
  refine J_q 2 rfl rfl rfl rfl (Q_assign rfl rfl) ?_
  refine J_nil (K_seq ?_)
  refine C_seq ?_
  refine C_region ?_
  refine J_q 3 rfl rfl rfl rfl (Q_move rfl rfl) ?_
  refine J_call 4 rfl rfl rfl rfl (T_call rfl rfl rfl Try.call24) (LEach_calls _ _ _ _ _ (h_x.kp (hS0.kept (k := 0) rfl)) _ [] (rdNil _ _)) ?_
  rintro _ w1 ⟨gE1, vE1, rfl, hk1, hBE1, hRE1⟩
  have hS1 := hS0.call hk1 1
  obtain ⟨AE1, cE1, rfl, hcE1, hxE1⟩ := hRE1.slice
  have hzE1 := eachL_len x ([] : List Int)
  refine ⟨_, rfl, ?_⟩
  refine J_in 5 rfl rfl rfl rfl (T_call rfl rfl rfl Try.call77) ?_
  refine fn_calls' 5 (args := [_]) Try.func77 rfl rfl rfl ?_
  refine C_seq ?_
  refine C_region ?_
  refine J_q 2 rfl rfl rfl rfl (Q_assign rfl rfl) ?_
  refine J_nil (K_seq ?_)
  refine C_seq ?_
  refine C_region ?_
  refine J_q 3 rfl rfl rfl rfl (Q_move rfl rfl) ?_
  refine J_in 4 rfl rfl rfl rfl (T_call rfl rfl rfl Try.call108) ?_
  refine fn_callsM 13 (args := [_, _]) Try.func108 rfl rfl rfl ?_
  refine C_seq ?_
  refine C_region ?_
  refine J_do 2 rfl rfl rfl rfl (D_box 2 hS1 rfl rfl (fun g2 w2 hS2 => ?_))
  refine J_q 4 rfl rfl rfl rfl (Q_assign rfl rfl) ?_
  refine J_nil (K_seq ?_)
  refine C_seq ?_
  refine C_seq ?_
  refine C_region ?_
  refine J_q 6 rfl rfl rfl rfl (Q_move rfl rfl) ?_
  refine J_nil (K_seq ?_)
  refine C_block ?_
  refine C_range 3 4 hS2 rfl Try.call68 (fun l3 d3 B3 w3 hB3 hS3 => ?_)
  refine fn_calls' 17 (args := [_, _]) Try.func68 rfl rfl rfl ?_
  refine C_seq ?_
  refine C_region ?_
  refine J_q 5 rfl rfl rfl rfl (Q_ldC1' (hBE1 _ (hS3.get (k := 1) rfl)) rfl rfl Try.isAgg43 rfl) ?_
  refine J_q 6 rfl rfl rfl rfl (Q_len rfl rfl Try.underlying43) ?_
  refine J_q 7 rfl rfl rfl rfl (Q_move rfl rfl) ?_
  refine J_nil (K_seq ?_)
  refine C_block ?_
  have hS4 := hS3.nil 5 55 13
  have hS5 := hS4.none 6
  refine C_loop2 (fun (i : Int) (out : RowR Change) => ((eachL x []).length - i).toNat) (fun (i : Int) (out : RowR Change) => [(0, .func (.yield l3) #[] #[]), (1, .pointer (some (⟨gE1, 0, none⟩ : Addr))), (5, .slice AE1 ((eachL x ([] : List Int)).length) cE1), (6, .int .i64 ((eachL x ([] : List Int)).length : Int)), (7, .int .i64 i)]) (fun (i : Int) (out : RowR Change) w' => (0 ≤ i) ∧ (i ≤ (eachL x []).length) ∧ (out.l = tk (eachL x []) i) ∧ (Kp no w out.W) ∧ (Reps tCh out.W (or_ no out.F) out.l out.f) ∧ St w w' [(6, fz out.W out.F), (5, own 55 13 (.slice out.A out.l.length out.c) out.l.length out.f), (3, lpE l3 B3 .ready none), (4, dfE d3), (2, blkL g2 ([.slice out.A out.l.length out.c]) 43), (1, fz w1 (nw w w1)), (0, fz w (lt_ w))]) 0 (⟨none, 0, [], [], w3, no⟩) ⟨(by first | omega | rfl | (simp [tk]; done)), (by first | omega | rfl | (simp [tk]; done)), (by first | omega | rfl | (simp [tk]; done)), (hS5.kept (k := 0) rfl), (Reps.nil _ _ _), hS5⟩ ⟨rfl, rfl, rfl, rfl, rfl, trivial⟩ ?_
  rintro i out w6 ⟨h0, h1, hn, hK_out, hR_out, hS6⟩
  refine C_seq ?_
  refine C_region ?_
  refine J_q 8 rfl rfl rfl rfl (Q_lss rfl rfl rfl) ?_
  refine J_nil (K_seq ?_)
  refine C_seq ?_
  refine C_if rfl (fun h7 => ?_) (fun h7 => ?_)
  · refine C_skip (K_seq ?_)
    refine C_seq ?_
    refine C_block ?_
    refine C_seq ?_
    refine C_region ?_
    obtain ⟨ad8, es8, hA8, hr8, hc8⟩ := RdF.nth hRE1 i (by omega) (by omega)
    obtain ⟨A8, cap8, rfl, hd8, ho8⟩ := openCh hr8
    have hln8 := RdF.lens hd8
    have hsq8 := ho8.seq
    refine J_q 9 rfl rfl rfl rfl (Q_iaE hA8 rfl rfl rfl Try.underlying43 Try.sizeOf55 (by omega) (by omega)) ?_
    refine J_q 10 rfl rfl rfl rfl (Q_ldCK' (chL (nth (eachL x ([] : List Int)) i) A8 cap8) (hc8 _ (hS6.get (k := 1) rfl)) rfl rfl Try.isAgg55 Try.sizeOf55 rfl rfl) ?_
    refine J_do 4 rfl rfl rfl rfl (D_alloc 7 hS6 rfl Try.zeroValue55 (fun g9 w9 hS9 => ?_))
    refine J_do0 rfl rfl rfl rfl (D_store' (k := 7) hS9 rfl rfl rfl rfl Try.sizeOf55 rfl rfl rfl (fun w10 hS10 => ?_))
    refine J_nil (K_seq ?_)
    refine C_seq ?_
    refine C_region ?_
    refine J_q 11 rfl rfl rfl rfl (Q_move rfl rfl) ?_
    refine J_q 12 rfl rfl rfl rfl (Q_ldBK' (k := 7) (chL (nth (eachL x ([] : List Int)) i) A8 cap8) hS10 rfl rfl rfl Try.isAgg55 Try.sizeOf55 rfl rfl) ?_
    refine J_call 13 rfl rfl rfl rfl (T_call rfl rfl rfl Try.call67) (CCopy_calls _ _ (nth (eachL x ([] : List Int)) i) (hS10.rd 1 rfl hr8)) ?_
    rintro _ w11 ⟨l11_0, rfl, hk11, hr11_0⟩
    have hRm11 := Reps.moved hR_out (no_lt _) hS10 rfl 6 rfl hK_out hk11
    have hS11 := hS10.join hk11 6 rfl
    obtain ⟨A11_0, cap11_0, rfl, hd11_0, ho11_0⟩ := openCh hr11_0
    have hln11_0 := RdF.lens hd11_0
    have hsq11_0 := ho11_0.seq
    refine ⟨_, rfl, ?_⟩
    refine J_round 14 (k := 3) rfl rfl rfl rfl rfl rfl rfl hB3 hS11 rfl rfl rfl ?_
    refine C_sub (E' := [(2, .pointer (some (⟨g2, 0, none⟩ : Addr))), (7, .agg (chL ((nth (eachL x ([] : List Int)) i)) A11_0 cap11_0).toArray)]) ⟨rfl, rfl, trivial⟩ ?_
    refine C_region ?_
    refine J_do 5 rfl rfl rfl rfl (D_alloc 9 hS11 rfl Try.zeroValue55 (fun g12 w12 hS12 => ?_))
    refine J_do0 rfl rfl rfl rfl (D_store' (k := 9) hS12 rfl rfl rfl rfl Try.sizeOf55 rfl rfl rfl (fun w13 hS13 => ?_))
    refine J_nil (K_begin hS13 3 rfl (fun w14 hS14 => ?_))
    refine C_block ?_
    refine C_region ?_
    refine J_q 8 rfl rfl rfl rfl (Q_ldB1' (k := 2) hS14 rfl rfl rfl Try.isAgg43 rfl) ?_
    refine J_q 9 rfl rfl rfl rfl (Q_ldBK' (k := 9) (chL ((nth (eachL x ([] : List Int)) i)) A11_0 cap11_0) hS14 rfl rfl rfl Try.isAgg55 Try.sizeOf55 rfl rfl) ?_
    refine J_do 10 rfl rfl rfl rfl (D_bs (e := 55) (ps := [(0, .tmp 9)]) 11 (chL ((nth (eachL x ([] : List Int)) i)) A11_0 cap11_0) hS14 rfl rfl (fun _ => by kernel_rfl) (fun g15 w15 hS15 => ?_))
    refine J_do 11 rfl rfl rfl rfl (D_app1L ((nth (eachL x ([] : List Int)) i)) out.l app43 hS15 5 rfl 11 rfl rfl rfl rfl rfl rfl (by first | omega | (have hq := tk_len (l := eachL x []) (i := i) (by omega) (by omega); rw [← hn] at hq; (try simp only [List.length_append, List.length_cons, List.length_nil]); omega)) (by first | omega | (have hq := tk_len (l := eachL x []) (i := i) (by omega) (by omega); rw [← hn] at hq; (try simp only [List.length_append, List.length_cons, List.length_nil]); omega)) (fun g16 cap16 w16 hS16 => ?_))
    refine J_do0 rfl rfl rfl rfl (D_store' (k := 2) hS16 rfl rfl rfl rfl Try.sizeOf43 rfl rfl rfl (fun w17 hS17 => ?_))
    refine J_nil (N_blk (K_rend hS17 3 rfl (fun w18 hS18 => ?_)))
    have hS19 : St w w18 [(7, blkL g9 (chL (nth (eachL x ([] : List Int)) i) A8 cap8) 55), (6, fz w11 (or_ out.F (nw w10 w11))), (5, own 55 13 (.slice (some ⟨g16, 0, none⟩) (out.l ++ [((nth (eachL x ([] : List Int)) i))]).length cap16) ((out.l ++ [((nth (eachL x ([] : List Int)) i))]).length) (out.f ++ chL ((nth (eachL x ([] : List Int)) i)) A11_0 cap11_0)), (3, lpE l3 B3 .ready none), (4, dfE d3), (2, blkL g2 ([.slice (some ⟨g16, 0, none⟩) ((out.l ++ [((nth (eachL x ([] : List Int)) i))]).length) cap16]) 43), (1, fz w1 (nw w w1)), (0, fz w (lt_ w))] := hS18.pick [7, 6, 5, 3, 4, 2, 1, 0] ⟨rfl, rfl, rfl, rfl, rfl, rfl, rfl, rfl, rfl, rfl, rfl, rfl, rfl, rfl, rfl, rfl, trivial⟩
    refine J_q 15 rfl rfl rfl rfl (Q_not rfl rfl) ?_
    refine J_nil (K_seq ?_)
    refine C_false rfl ?_
    refine C_skip (N_blk (K_seq ?_))
    refine C_region ?_
    refine J_q 16 rfl rfl rfl rfl (Q_add rfl rfl rfl (by omega) (by omega)) ?_
    refine J_q 7 rfl rfl rfl rfl (Q_move rfl rfl) ?_
    exact J_nil (K_round2 (x0 := i) (x1 := out) (i + 1) ⟨some ⟨g16, 0, none⟩, cap16, out.f ++ chL ((nth (eachL x ([] : List Int)) i)) A11_0 cap11_0, out.l ++ [((nth (eachL x ([] : List Int)) i))], w11, or_ out.F (nw w10 w11)⟩ ⟨(by first | omega | (rw [tk_snoc h0 (by omega), ← hn])), (by first | omega | (rw [tk_snoc h0 (by omega), ← hn])), (by first | omega | (rw [tk_snoc h0 (by omega), ← hn])), (hS11.kept (k := 0) rfl), (Reps.snoc hRm11 (RdF.gave hr11_0)), (hS19.pick [6, 5, 3, 4, 2, 1, 0] ⟨rfl, rfl, rfl, rfl, rfl, rfl, rfl, rfl, rfl, rfl, rfl, rfl, rfl, rfl, trivial⟩)⟩ (by omega) ⟨rfl, rfl, rfl, rfl, rfl, trivial⟩)
  · refine C_exit (X_then (X_then (X_hit (body_end (res0 rfl) ?_))))
    refine range_none hS6 3 rfl (fun h => nomatch h) (fun w20 hS20 => ?_) _
    refine id (N_blk (K_seq ?_))
    refine C_seq ?_
    refine C_region ?_
    refine J_q 12 rfl rfl rfl rfl (Q_ldB1' (k := 2) hS20 rfl rfl rfl Try.isAgg43 rfl) ?_
    refine J_q 4 rfl rfl rfl rfl (Q_assign rfl rfl) ?_
    refine J_nil (K_seq ?_)
    refine C_ret (bodyM_ret (w0 := w) ?_)
    refine .cons 4 hS20 rfl (fun w21 hS21 => ?_)
    refine marks_end (res1 rfl rfl) ?_
    refine ⟨_, rfl, ?_⟩
    have hS22 : St w w21 [(6, fz out.W out.F), (5, own 55 13 (.slice out.A out.l.length out.c) out.l.length out.f), (4, blk d3 (.deferred none)), (1, fz w1 (nw w w1)), (0, fz w (lt_ w))] := hS21.pick [6, 5, 4, 1, 0] ⟨rfl, rfl, rfl, rfl, rfl, rfl, rfl, rfl, rfl, rfl, trivial⟩
    refine J_q 2 rfl rfl rfl rfl (Q_assign rfl rfl) ?_
    refine J_nil (K_seq ?_)
    refine C_ret (body_ret (res1 rfl rfl) ?_)
    refine ⟨_, rfl, ?_⟩
    refine J_q 2 rfl rfl rfl rfl (Q_assign rfl rfl) ?_
    refine J_nil (K_seq ?_)
    refine C_ret (body_ret (res1 rfl rfl) ?_)
    exact ⟨_, rfl, hS22.kept (k := 0) rfl, own_eq (by rw [hn, tk_full (by omega), hen]) (or_no (St.giveR (d := tCh) (no_lt _) hS22 rfl 5 rfl rfl 6 rfl rfl rfl hK_out hR_out (by first | omega | (have hq := tk_len (l := eachL x []) (i := i) (by omega) (by omega); rw [← hn] at hq; (try simp only [List.length_append, List.length_cons, List.length_nil]); omega))))⟩
end Go.Proofs.Ytceeellnjckmiaa

/- Printed by a program of mine (gen.py). -/
set_option maxRecDepth 100000
namespace Go.Proofs.Ytceeellnjckmiaa
open Go Go.Sl
theorem InsertC_calls (w : World) {g n cap : Nat} {fl : List Value} (hown : w.ownsRow 0 55 13 (.slice (some ⟨g, 0, none⟩) n cap) n fl) (i : Nat) (hi : i ≤ n) {ge : Nat} {cs : List Value} (hge : w.heap[ge]? = some (.cells cs.toArray 55 (0, 0))) (hne : ge ≠ g) (hcs : cs.length = 13) (hone : cs.all (·.oneCell') = true) (hfl1 : ∀ u ∈ fl, u.oneCell' = true) (hb : n + 1 ≤ 1073741824) :
    Calls Try.prog 73 #[.slice (some ⟨g, 0, none⟩) n cap, .int .i64 (i : Int), .slice (some ⟨ge, 0, none⟩) 1 1] w fun e' w' => ∃ v', e' = .returned v' ∧ Kp (· = g) w w' ∧ w'.ownsRow 0 55 13 v' (n + 1) (fl.take (i * 13) ++ cs ++ fl.drop (i * 13)) ∧ (∀ b, v'.ownBlock = some b → b = g ∨ nw w w' b) := by
  obtain ⟨hbx, hcx, _⟩ := own_room hown
  have hgl : ge < w.heap.size := (Array.getElem?_eq_some_iff.1 hge).1
  have hfl : fl.length = n * 13 := hown.1
  have hS0 := St.begin2 (own 55 13 (.slice (some ⟨g, 0, none⟩) n cap) n fl) hown hbx
  have hE : ∀ w1 : World, (∀ b, (fun b => b < w.heap.size ∧ ¬ (own 55 13 (.slice (some ⟨g, 0, none⟩) n cap) n fl).fp b) b → w1.heap[b]? = w.heap[b]?) → CellsAt w1 ⟨ge, 0, none⟩ cs := fun w1 h => by have h2 := CellsAt.of_blk ((h ge ⟨hgl, fun hb => hne (fpG.1 hb)⟩).trans hge); simpa using h2
  have hmc := (own_shape hown).2
  have hG9 : ∀ w1 : World, (∀ b, (fun b => b < w.heap.size ∧ ¬ (own 55 13 (.slice (some ⟨g, 0, none⟩) n cap) n fl).fp b) b → w1.heap[b]? = w.heap[b]?) → w1.heap[ge]? = some (.cells cs.toArray 55 (0, 0)) := fun w1 h => (h ge ⟨hgl, fun hb => hne (fpG.1 hb)⟩).trans hge
  refine fn_calls' 95 (args := [_, _, _]) Try.func73 rfl rfl rfl ?_
  refine C_seq ?_
  refine C_region ?_
  refine J_q 6 rfl rfl rfl rfl (Q_assign rfl rfl) ?_
  refine J_nil (K_seq ?_)
  refine C_seq ?_
  refine C_region ?_
  refine J_q 10 rfl rfl rfl rfl (Q_move rfl rfl) ?_
  refine J_q 11 rfl rfl rfl rfl (Q_move rfl rfl) ?_
  refine J_q 12 rfl rfl rfl rfl (Q_slice (l := (i : Int)) (h := (n : Int)) rfl rfl rfl rfl (.inr rfl) (.inl ⟨rfl, rfl⟩) Try.underlying43 Try.sizeOf55 (by omega) (by omega) (by omega)) ?_
  refine J_nil (K_seq ?_)
  refine C_seq ?_
  refine C_region ?_
  refine J_q 13 rfl rfl rfl rfl (Q_move rfl rfl) ?_
  refine J_q 14 rfl rfl rfl rfl (Q_toI (i' := 1) (Q_len rfl rfl Try.underlying43) (by decide)) ?_
  refine J_q 7 rfl rfl rfl rfl (Q_assign rfl rfl) ?_
  refine J_nil (K_seq ?_)
  refine C_seq ?_
  refine C_seq ?_
  refine C_region ?_
  refine J_q 15 rfl rfl rfl rfl (Q_move rfl rfl) ?_
  refine J_q 16 rfl rfl rfl rfl (Q_toB (c' := false) (Q_eql rfl rfl rfl) (by decide)) ?_
  refine J_nil (K_seq ?_)
  refine C_false rfl ?_
  refine C_skip (K_seq ?_)
  refine C_seq ?_
  refine C_region ?_
  refine J_q 18 rfl rfl rfl rfl (Q_move rfl rfl) ?_
  refine J_q 19 rfl rfl rfl rfl (Q_len rfl rfl Try.underlying43) ?_
  refine J_q 8 rfl rfl rfl rfl (Q_assign rfl rfl) ?_
  refine J_nil (K_seq ?_)
  refine C_seq ?_
  refine C_seq ?_
  refine C_region ?_
  refine J_q 20 rfl rfl rfl rfl (Q_move rfl rfl) ?_
  refine J_q 21 rfl rfl rfl rfl (Q_move rfl rfl) ?_
  refine J_q 22 rfl rfl rfl rfl (Q_eql rfl rfl rfl) ?_
  refine J_nil (K_seq ?_)
  refine C_if rfl (fun h1 => ?_) (fun h1 => ?_)
  · refine C_seq ?_
    refine C_region ?_
    refine J_q 23 rfl rfl rfl rfl (Q_move rfl rfl) ?_
    refine J_q 24 rfl rfl rfl rfl (Q_move rfl rfl) ?_
    refine J_do 25 rfl rfl rfl rfl (D_app (k := 1) app43 hS0 rfl rfl rfl rfl (hE _ (hS0.get (k := 0) rfl)) (by rw [hcs]) (fun u hu => List.all_eq_true.1 hone u hu) (by omega) (by unfold maxL; omega) Nat.one_pos (fun g2 cap2 w2 hS2 => ?_))
    refine J_q 6 rfl rfl rfl rfl (Q_assign rfl rfl) ?_
    refine J_nil (K_seq ?_)
    refine C_ret (R_then (body_ret (res1 rfl rfl) ?_))
    have hin : i = n := by omega
    subst hin
    have hw := hS2.get (k := 1) rfl
    have e1 : fl.take (i * 13) ++ cs ++ fl.drop (i * 13) = fl ++ cs := by rw [← hfl]; simp
    rw [e1]
    exact ⟨_, rfl, (hS2.keptBut (k := 0) rfl).mono (fun b hb => fpG.1 hb), hw, fun b hb => (newOr hS2 rfl 1 rfl rfl hb).imp_left fpG.1⟩
  · refine C_skip (K_seq ?_)
    refine C_seq ?_
    refine C_seq ?_
    refine C_region ?_
    refine J_q 26 rfl rfl rfl rfl (Q_move rfl rfl) ?_
    refine J_q 27 rfl rfl rfl rfl (Q_move rfl rfl) ?_
    refine J_q 28 rfl rfl rfl rfl (Q_add rfl rfl rfl (by omega) (by omega)) ?_
    refine J_q 29 rfl rfl rfl rfl (Q_move rfl rfl) ?_
    refine J_q 30 rfl rfl rfl rfl (Q_cap rfl rfl Try.underlying43) ?_
    refine J_q 31 rfl rfl rfl rfl (Q_gtr rfl rfl rfl) ?_
    refine J_nil (K_seq ?_)
    refine C_if rfl (fun h3 => ?_) (fun h3 => ?_)
    · refine C_seq ?_
      refine C_region ?_
      refine J_q 32 rfl rfl rfl rfl (Q_move rfl rfl) ?_
      refine J_q 33 rfl rfl rfl rfl (Q_move rfl rfl) ?_
      refine J_q 34 rfl rfl rfl rfl (Q_slTo rfl rfl rfl Try.underlying43 Try.sizeOf55 (by omega) (by omega)) ?_
      refine J_q 35 rfl rfl rfl rfl (Q_move rfl rfl) ?_
      refine J_q 36 rfl rfl rfl rfl (Q_move rfl rfl) ?_
      refine J_q 37 rfl rfl rfl rfl (Q_add rfl rfl rfl (by omega) (by omega)) ?_
      refine J_q 38 rfl rfl rfl rfl (Q_move rfl rfl) ?_
      refine J_q 39 rfl rfl rfl rfl (Q_sub rfl rfl rfl (by omega) (by omega)) ?_
      have hez : (fl.take (i * 13)).length = (i : Int).toNat * 13 := by rw [List.length_take, hfl]; omega
      refine J_do 40 rfl rfl rfl rfl (D_appZ (bytes := 136) (sz := 13) (n + 1 - i) 2 (fl.take (i * 13)) Try.underlying43 Try.underlying3 Try.type55 rfl rfl rfl rfl hS0 rfl rfl rfl (by omega) (ownPre (hS0.get (k := 1) rfl) _) hez (by omega) (by omega) (by decide) (by omega) (by omega) (by omega) (fun g2 cap2 rest2 w4 hn2 hm2 hl2 hS4 => ?_))
      rw [hez] at hl2
      refine J_q 9 rfl rfl rfl rfl (Q_assign rfl rfl) ?_
      refine J_nil (K_seq ?_)
      refine C_seq ?_
      refine C_region ?_
      refine J_q 41 rfl rfl rfl rfl (Q_move rfl rfl) ?_
      refine J_q 42 rfl rfl rfl rfl (Q_move rfl rfl) ?_
      refine J_q 43 rfl rfl rfl rfl (Q_slFrom rfl rfl rfl Try.underlying43 Try.sizeOf55 (by omega) (by omega) (by omega) (by omega)) ?_
      refine J_q 44 rfl rfl rfl rfl (Q_move rfl rfl) ?_
      refine J_do 45 rfl rfl rfl rfl (D_copyB (k := 2) 1 cs hS4 rfl rfl rfl rfl Try.underlying43 Try.sizeOf55 (by show min (_ : Nat) _ = _; omega) (hE _ (hS4.get (k := 0) rfl)) (by first | omega | (simp only [List.length_drop, hfl]; omega)) (fun u hu => List.all_eq_true.1 hone u hu) (by first | (simp only [List.length_append, List.length_take, putL_length, hfl]; omega) | (rw [List.length_append]; omega)) (fun w5 hS5 => ?_))
      refine J_nil (K_seq ?_)
      refine C_seq ?_
      refine C_draw (fun w' => St w w' [(2, blkL g2 (putL (fl.take (i * 13) ++ rest2) ((i : Int).toNat * 13) (cs)) 55), (0, fz w (fun b => b < w.heap.size ∧ ¬ (own 55 13 (.slice (some ⟨g, 0, none⟩) n cap) n fl).fp b))]) 8 mixedOrders 9 rfl (fun w6 hk6 => ?_)
      have hS6 := hS5.kp0 hk6
      refine JA_p 0 46 9 rfl rfl rfl rfl (by kernel_rfl) (by kernel_rfl) (fun _ => Q_move rfl rfl) ?_
      refine JA_p 1 47 9 rfl rfl rfl rfl (by kernel_rfl) (by kernel_rfl) (fun _ => Q_move rfl rfl) ?_
      refine JA_p 2 48 9 rfl rfl rfl rfl (by kernel_rfl) (by kernel_rfl) (fun _ => Q_move rfl rfl) ?_
      refine JA_p 3 49 9 rfl rfl rfl rfl (by kernel_rfl) (by kernel_rfl) (fun _ => Q_add rfl rfl rfl (by omega) (by omega)) ?_
      refine JA_p 4 50 9 rfl rfl rfl rfl (by kernel_rfl) (by kernel_rfl) (fun _ => Q_slFrom rfl rfl rfl Try.underlying43 Try.sizeOf55 (by omega) (by omega) (by omega) (by omega)) ?_
      refine JA_p 5 51 9 rfl rfl rfl rfl (by kernel_rfl) (by kernel_rfl) (fun _ => Q_move rfl rfl) ?_
      refine JA_p 6 52 9 rfl rfl rfl rfl (by kernel_rfl) (by kernel_rfl) (fun _ => Q_move rfl rfl) ?_
      refine JA_p 7 53 9 rfl rfl rfl rfl (by kernel_rfl) (by kernel_rfl) (fun _ => Q_slFrom rfl rfl rfl Try.underlying43 Try.sizeOf55 (by omega) (by omega) (by omega) (by omega)) ?_
      refine JA_do 8 54 rfl rfl rfl rfl (by kernel_rfl) (D_copyB (k := 2) (n - i) (fl.drop (i * 13)) hS6 rfl rfl rfl rfl Try.underlying43 Try.sizeOf55 (by show min (_ : Nat) _ = _; omega) (by have h := ownSub (hS6.get (k := 1) rfl) (i * 13); simpa using h) (by first | omega | (simp only [List.length_drop, hfl]; omega)) (fun u hu => hfl1 u (List.mem_of_mem_drop hu)) (by first | (simp only [List.length_append, List.length_take, putL_length, hfl]; omega) | (rw [List.length_append]; omega)) (fun w8 hS8 => ⟨(fun h => nomatch h), ?_⟩))
      refine JA_end (by kernel_rfl) (K_seq ?_)
      refine C_seq ?_
      refine C_region ?_
      refine J_q 55 rfl rfl rfl rfl (Q_move rfl rfl) ?_
      refine J_q 6 rfl rfl rfl rfl (Q_assign rfl rfl) ?_
      refine J_nil (K_seq ?_)
      refine C_ret (R_then (body_ret (res1 rfl rfl) ?_))
      have e1 := ins_cells2 (s := 13) (es := fl.take (i * 13)) (cs := cs) (d := fl.drop (i * 13)) (rest := rest2) (k := (i : Int).toNat * 13) hez hcs (by rw [List.length_drop, hfl]; omega)
      have hS9 := St.closeOwn (n := n + 1) (cap := cap2) (sz := 13) (fl := fl.take (i * 13) ++ cs ++ fl.drop (i * 13)) (rest := rest2.drop (13 + (fl.drop (i * 13)).length)) (e := 55) (g := g2) hS8 2 (by first | (rw [← e1]; rfl) | (rw [← e1, show (i : Int).toNat * 13 + 13 = ((i : Int) + 1).toNat * 13 by omega]; rfl)) (by simp only [List.length_append, List.length_take, List.length_drop, hcs, hfl]; omega) (by omega) hm2 (by simp only [List.length_append, List.length_take, List.length_drop, hcs, hfl]; omega)
      have hw := hS9.get (k := 2) rfl
      have hk9 := hS9.keptBut (k := 0) rfl
      rw [show (i : Int).toNat + (n + 1 - i) = n + 1 by omega]
      exact ⟨_, rfl, hk9.mono (fun b hb => fpG.1 hb), hw, fun b hb => .inr (freshB hS9 rfl 1 rfl 2 rfl rfl rfl hb)⟩
    · refine C_skip (K_seq ?_)
      refine C_seq ?_
      refine C_region ?_
      refine J_q 56 rfl rfl rfl rfl (Q_move rfl rfl) ?_
      refine J_q 57 rfl rfl rfl rfl (Q_move rfl rfl) ?_
      refine J_q 58 rfl rfl rfl rfl (Q_move rfl rfl) ?_
      refine J_q 59 rfl rfl rfl rfl (Q_add rfl rfl rfl (by omega) (by omega)) ?_
      refine J_q 60 rfl rfl rfl rfl (Q_slTo rfl rfl rfl Try.underlying43 Try.sizeOf55 (by omega) (by omega)) ?_
      refine J_q 0 rfl rfl rfl rfl (Q_assign rfl rfl) ?_
      refine J_nil (K_seq ?_)
      refine C_seq ?_
      refine C_seq ?_
      refine C_region ?_
      refine J_q 61 rfl rfl rfl rfl (Q_move rfl rfl) ?_
      refine J_q 62 rfl rfl rfl rfl (Q_move rfl rfl) ?_
      refine J_q 63 rfl rfl rfl rfl (Q_move rfl rfl) ?_
      refine J_q 64 rfl rfl rfl rfl (Q_move rfl rfl) ?_
      refine J_q 65 rfl rfl rfl rfl (Q_add rfl rfl rfl (by omega) (by omega)) ?_
      refine J_q 66 rfl rfl rfl rfl (Q_slFrom rfl rfl rfl Try.underlying43 Try.sizeOf55 (by omega) (by omega) (by omega) (by omega)) ?_
      refine J_q 67 rfl rfl rfl rfl (Q_apart (fn := Try.f106) (tA := 55) (tB := 55) (kA := 13) (kB := cap * 13) (tS := 43) (tR := 4) rfl rfl (fun args w => by rw [run_callFunc_extern Try.func106 (by kernel_rfl) (by kernel_rfl) (by kernel_rfl) (e := Extern.SlicesOverlaps.overlaps #[43, 43] #[4]) (by kernel_rfl)]; simp [Sem.run_bind]) Try.underlying43 Try.sizeOf55 (fun h => hne h) (by rw [← hcs]; exact (blk_shape (hG9 _ (hS0.get (k := 0) rfl))).1) (own_shape (hS0.get (k := 1) rfl)).1 (by omega) ((blk_shape (hG9 _ (hS0.get (k := 0) rfl))).2 _) ((blk_shape (hG9 _ (hS0.get (k := 0) rfl))).2 _)) ?_
      refine J_q 68 rfl rfl rfl rfl (Q_not rfl rfl) ?_
      refine J_nil (K_seq ?_)
      refine C_true rfl ?_
      refine C_seq ?_
      refine C_draw (fun w' => St w w' [(0, fz w (fun b => b < w.heap.size ∧ ¬ (own 55 13 (.slice (some ⟨g, 0, none⟩) n cap) n fl).fp b))]) 8 mixedOrders 9 rfl (fun w10 hk10 => ?_)
      have hS10 := hS0.kp0 hk10
      refine JA_p 0 69 9 rfl rfl rfl rfl (by kernel_rfl) (by kernel_rfl) (fun _ => Q_move rfl rfl) ?_
      refine JA_p 1 70 9 rfl rfl rfl rfl (by kernel_rfl) (by kernel_rfl) (fun _ => Q_move rfl rfl) ?_
      refine JA_p 2 71 9 rfl rfl rfl rfl (by kernel_rfl) (by kernel_rfl) (fun _ => Q_move rfl rfl) ?_
      refine JA_p 3 72 9 rfl rfl rfl rfl (by kernel_rfl) (by kernel_rfl) (fun _ => Q_add rfl rfl rfl (by omega) (by omega)) ?_
      refine JA_p 4 73 9 rfl rfl rfl rfl (by kernel_rfl) (by kernel_rfl) (fun _ => Q_slFrom rfl rfl rfl Try.underlying43 Try.sizeOf55 (by omega) (by omega) (by omega) (by omega)) ?_
      refine JA_p 5 74 9 rfl rfl rfl rfl (by kernel_rfl) (by kernel_rfl) (fun _ => Q_move rfl rfl) ?_
      refine JA_p 6 75 9 rfl rfl rfl rfl (by kernel_rfl) (by kernel_rfl) (fun _ => Q_move rfl rfl) ?_
      refine JA_p 7 76 9 rfl rfl rfl rfl (by kernel_rfl) (by kernel_rfl) (fun _ => Q_slFrom rfl rfl rfl Try.underlying43 Try.sizeOf55 (by omega) (by omega) (by omega) (by omega)) ?_
      obtain ⟨rest, hS11, _, _, _, hlr⟩ := hS10.openOwn 1 rfl
      refine JA_do 8 77 rfl rfl rfl rfl (by kernel_rfl) (D_copyB (k := 1) (n - i) (fl.drop (i * 13)) hS11 rfl rfl rfl rfl Try.underlying43 Try.sizeOf55 (by show min (_ : Nat) _ = _; omega) (by have h := blkSub (hS11) 1 rfl (i * 13) ((n - i) * 13); rw [show ((fl ++ rest).drop (i * 13)).take ((n - i) * 13) = fl.drop (i * 13) by (rw [List.drop_append_of_le_length (by omega), List.take_append_of_le_length (by rw [List.length_drop]; omega), List.take_of_length_le (by rw [List.length_drop]; omega)])] at h; simpa using h) (by first | omega | (simp only [List.length_drop, hfl]; omega)) (fun u hu => hfl1 u (List.mem_of_mem_drop hu)) (by first | (simp only [List.length_append, List.length_take, putL_length, hfl]; omega) | (rw [List.length_append]; omega)) (fun w12 hS12 => ⟨(fun h => nomatch h), ?_⟩))
      refine JA_end (by kernel_rfl) (K_seq ?_)
      refine C_seq ?_
      refine C_region ?_
      refine J_q 78 rfl rfl rfl rfl (Q_move rfl rfl) ?_
      refine J_q 79 rfl rfl rfl rfl (Q_move rfl rfl) ?_
      refine J_q 80 rfl rfl rfl rfl (Q_slFrom rfl rfl rfl Try.underlying43 Try.sizeOf55 (by omega) (by omega) (by omega) (by omega)) ?_
      refine J_q 81 rfl rfl rfl rfl (Q_move rfl rfl) ?_
      refine J_do 82 rfl rfl rfl rfl (D_copyB (k := 1) 1 cs hS12 rfl rfl rfl rfl Try.underlying43 Try.sizeOf55 (by show min (_ : Nat) _ = _; omega) (hE _ (hS12.get (k := 0) rfl)) (by first | omega | (simp only [List.length_drop, hfl]; omega)) (fun u hu => List.all_eq_true.1 hone u hu) (by first | (simp only [List.length_append, List.length_take, putL_length, hfl]; omega) | (rw [List.length_append]; omega)) (fun w13 hS13 => ?_))
      refine J_nil (K_seq ?_)
      refine C_seq ?_
      refine C_region ?_
      refine J_q 83 rfl rfl rfl rfl (Q_move rfl rfl) ?_
      refine J_q 6 rfl rfl rfl rfl (Q_assign rfl rfl) ?_
      refine J_nil (K_seq ?_)
      refine C_ret (R_then (body_ret (res1 rfl rfl) ?_))
      have e1 := ins_cells (s := 13) (fl := fl) (rest := rest) (cs := cs) (k := i * 13) (by omega) (by omega) hcs
      have hS9 := St.closeOwn (n := n + 1) (cap := cap) (sz := 13) (fl := fl.take (i * 13) ++ cs ++ fl.drop (i * 13)) (rest := rest.drop 13) (e := 55) (g := g) hS13 1 (by rw [← e1, show i * 13 + 13 = ((i : Int) + 1).toNat * 13 by omega, show i * 13 = (i : Int).toNat * 13 by omega]; rfl) (by simp only [List.length_append, List.length_take, List.length_drop, hcs, hfl]; omega) (by omega) hmc (by simp only [List.length_append, List.length_take, List.length_drop, hcs, hfl]; omega)
      have hw := hS9.get (k := 1) rfl
      have hk9 := hS9.keptBut (k := 0) rfl
      rw [show ((n : Int) + 1).toNat = n + 1 by omega]
      exact ⟨_, rfl, hk9.mono (fun b hb => fpG.1 hb), hw, fun b hb => .inl (by have h2 : some g = some b := hb; cases h2; rfl)⟩
end Go.Proofs.Ytceeellnjckmiaa

/- Printed by a program of mine (gen.py). -/
set_option maxRecDepth 100000
namespace Go.Proofs.Ytceeellnjckmiaa
open Go Go.Sl
theorem InsertCN_calls (w : World) {ge : Nat} {cs : List Value} (hge : w.heap[ge]? = some (.cells cs.toArray 55 (0, 0))) (hcs : cs.length = 13) (hone : cs.all (·.oneCell') = true) :
    Calls Try.prog 73 #[.slice none 0 0, .int .i64 0, .slice (some ⟨ge, 0, none⟩) 1 1] w fun e' w' => ∃ v', e' = .returned v' ∧ Kp no w w' ∧ w'.ownsRow 0 55 13 v' 1 cs ∧ (∀ b, v'.ownBlock = some b → nw w w' b) := by
  have hgl : ge < w.heap.size := (Array.getElem?_eq_some_iff.1 hge).1
  have hS0 := (St.start w).nil 1 55 13
  have hE : ∀ w1 : World, (∀ b, lt_ w b → w1.heap[b]? = w.heap[b]?) → CellsAt w1 ⟨ge, 0, none⟩ cs := fun w1 h => by have h2 := CellsAt.of_blk ((h ge hgl).trans hge); simpa using h2
  refine fn_calls' 95 (args := [_, _, _]) Try.func73 rfl rfl rfl ?_
  refine C_seq ?_
  refine C_region ?_
  refine J_q 6 rfl rfl rfl rfl (Q_assign rfl rfl) ?_
  refine J_nil (K_seq ?_)
  refine C_seq ?_
  refine C_region ?_
  refine J_q 10 rfl rfl rfl rfl (Q_move rfl rfl) ?_
  refine J_q 11 rfl rfl rfl rfl (Q_move rfl rfl) ?_
  refine J_q 12 rfl rfl rfl rfl (Q_slice (l := 0) (h := 0) rfl rfl rfl rfl (.inr rfl) (.inl ⟨rfl, rfl⟩) Try.underlying43 Try.sizeOf55 (by decide) (by decide) (by decide)) ?_
  refine J_nil (K_seq ?_)
  refine C_seq ?_
  refine C_region ?_
  refine J_q 13 rfl rfl rfl rfl (Q_move rfl rfl) ?_
  refine J_q 14 rfl rfl rfl rfl (Q_toI (i' := 1) (Q_len rfl rfl Try.underlying43) (by decide)) ?_
  refine J_q 7 rfl rfl rfl rfl (Q_assign rfl rfl) ?_
  refine J_nil (K_seq ?_)
  refine C_seq ?_
  refine C_seq ?_
  refine C_region ?_
  refine J_q 15 rfl rfl rfl rfl (Q_move rfl rfl) ?_
  refine J_q 16 rfl rfl rfl rfl (Q_toB (c' := false) (Q_eql rfl rfl rfl) (by decide)) ?_
  refine J_nil (K_seq ?_)
  refine C_false rfl ?_
  refine C_skip (K_seq ?_)
  refine C_seq ?_
  refine C_region ?_
  refine J_q 18 rfl rfl rfl rfl (Q_move rfl rfl) ?_
  refine J_q 19 rfl rfl rfl rfl (Q_toI (i' := 0) (Q_len rfl rfl Try.underlying43) (by decide)) ?_
  refine J_q 8 rfl rfl rfl rfl (Q_assign rfl rfl) ?_
  refine J_nil (K_seq ?_)
  refine C_seq ?_
  refine C_seq ?_
  refine C_region ?_
  refine J_q 20 rfl rfl rfl rfl (Q_move rfl rfl) ?_
  refine J_q 21 rfl rfl rfl rfl (Q_move rfl rfl) ?_
  refine J_q 22 rfl rfl rfl rfl (Q_toB (c' := true) (Q_eql rfl rfl rfl) (by decide)) ?_
  refine J_nil (K_seq ?_)
  refine C_true rfl ?_
  refine C_seq ?_
  refine C_region ?_
  refine J_q 23 rfl rfl rfl rfl (Q_move rfl rfl) ?_
  refine J_q 24 rfl rfl rfl rfl (Q_move rfl rfl) ?_
  refine J_do 25 rfl rfl rfl rfl (D_app (k := 1) app43 hS0 rfl rfl rfl rfl (hE _ (hS0.get (k := 0) rfl)) (by rw [hcs]) (fun u hu => List.all_eq_true.1 hone u hu) (by decide) (by decide) Nat.one_pos (fun g1 cap1 w1 hS1 => ?_))
  refine J_q 6 rfl rfl rfl rfl (Q_assign rfl rfl) ?_
  refine J_nil (K_seq ?_)
  refine C_ret (R_then (body_ret (res1 rfl rfl) ?_))
  have hw := hS1.get (k := 1) rfl
  exact ⟨_, rfl, hS1.kept (k := 0) rfl, hw, fun b hb => hS1.fresh (k := 1) rfl rfl rfl b hb⟩
end Go.Proofs.Ytceeellnjckmiaa

/- slices.Insert of one change into a row of one's own, nil too. -/
namespace Go.Proofs.Ytceeellnjckmiaa
open Go Go.Sl Go.RowKit
theorem InsertV_calls {w : World} {v : Value} {n : Nat} {fl : List Value} (hown : w.ownsRow 0 55 13 v n fl) {i : Int} (h0 : 0 ≤ i) (hi : i ≤ n) {ge : Nat} {cs : List Value} (hge : w.heap[ge]? = some (.cells cs.toArray 55 (0, 0))) (hne : v.ownBlock ≠ some ge) (hcs : cs.length = 13) (hone : cs.all (·.oneCell') = true) (hfl1 : ∀ u ∈ fl, u.oneCell' = true) (hb : n + 1 ≤ 1073741824) :
    Calls Try.prog 73 #[v, .int .i64 i, .slice (some ⟨ge, 0, none⟩) 1 1] w fun e' w' => ∃ v', e' = .returned v' ∧ Kp (fun b => v.ownBlock = some b) w w' ∧ w'.ownsRow 0 55 13 v' (n + 1) (fl.take (i.toNat * 13) ++ cs ++ fl.drop (i.toNat * 13)) ∧ (∀ b, v'.ownBlock = some b → v.ownBlock = some b ∨ nw w w' b) := by
  have hii : i = (i.toNat : Int) := by omega
  rcases own_form hown with ⟨rfl, rfl⟩ | ⟨g, cap, rfl, _⟩
  · have hi0 : i = 0 := by omega
    subst hi0
    have hfl : fl = [] := List.eq_nil_of_length_eq_zero (by have := hown.1; omega)
    subst hfl
    refine (InsertCN_calls w hge hcs hone).mono ?_
    rintro e w' ⟨v', rfl, hk, ho, hb⟩
    exact ⟨v', rfl, hk.mono fun _ h => h.elim, by simpa using ho, fun b h => .inr (hb b h)⟩
  · have hne' : ge ≠ g := fun h => hne (by rw [h]; rfl)
    have h := InsertC_calls w hown i.toNat (by omega) hge hne' hcs hone hfl1 hb
    rw [← hii] at h
    refine h.mono ?_
    rintro e w' ⟨v', rfl, hk, ho, hb⟩
    have e1 : ∀ b, b = g → (Value.slice (some ⟨g, 0, none⟩) n cap).ownBlock = some b := fun b hb => by rw [hb]; exact rfl
    exact ⟨v', rfl, hk.mono e1, ho, fun b h => (hb b h).imp_left (e1 b)⟩
end Go.Proofs.Ytceeellnjckmiaa

/- Printed by a program of mine (gen.py). -/
set_option maxRecDepth 100000
namespace Go.Proofs.Ytceeellnjckmiaa
open Go Go.Sl
theorem LAdd_calls (w : World) (F : Nat → Prop) (g : Nat) (xR : Int) (x : List Change) (hL : LogAt w F g xR x) (l_c : List Value) (c : Change) (F_c : Nat → Prop) (h_c : RdF tCh w F_c l_c c) (hfc : ∀ b, F_c b → b < w.heap.size ∧ ¬ F b) :
    Calls Try.prog 25 #[.pointer (some ⟨g, 0, none⟩), .agg l_c.toArray] w fun e w' => e = .returned (.int .i64 (whyR x xR c)) ∧ Kp F w w' ∧ ∃ F', (∀ b, F' b → F b ∨ nw w w' b) ∧ LogAt w' F' g xR (if whyR x xR c = 0 then putC x c else x) := by
  obtain ⟨p, fl, WL, G, hO⟩ := hL
  have hf := hO.f
  have hS0 := hO.begin_
  have hgd := hf.good
  have hle := hf.le
  have hr0 := hf.room0
  have hr1 := hf.roomLe
  have hcF : RdF tCh w (fun b => b < w.heap.size ∧ ¬ F b) l_c c := h_c.mono hfc
  obtain ⟨A_c, cap_c, rfl, hd_c, ho_c⟩ := openCh hcF
  have hln_c := RdF.lens hd_c
  have hsq_c := ho_c.seq
  have hpl := posAt_le x c.at_
  have hri : chk5 c = 0 → 1 ≤ c.at_.c ∧ c.at_.c ≤ 1099511627776 ∧ 0 ≤ c.at_.r ∧ c.at_.r < 64 ∧ chk2 c.deps = 0 := fun h => ⟨(chk5_ok h).2.1.1, (chk5_ok h).2.1.2.1, (chk5_ok h).2.1.2.2.1, (chk5_ok h).2.1.2.2.2, (deps5_ok (chk5_ok h).2.2.2.2.1).1⟩
  refine fn_calls' 90 (args := [_, _]) Try.func25 rfl rfl rfl ?_
  refine C_seq ?_
  refine C_region ?_
  refine J_do 3 rfl rfl rfl rfl (D_box 9 hS0 rfl rfl (fun g1 w1 hS1 => ?_))
  refine J_q 4 rfl rfl rfl rfl (Q_assign rfl rfl) ?_
  refine J_nil (K_seq ?_)
  refine C_seq ?_
  refine C_seq ?_
  refine C_region ?_
  refine J_q 11 rfl rfl rfl rfl (Q_ldBK' (k := 9) (chL c A_c cap_c) hS1 rfl rfl rfl Try.isAgg55 Try.sizeOf55 rfl rfl) ?_
  refine J_call 12 rfl rfl rfl rfl (T_call rfl rfl rfl Try.call69) (Check5_calls _ _ c (hS1.rd 0 rfl hcF)) ?_
  rintro _ w2 ⟨rfl, hk2⟩
  have hS2 := hS1.kp0 hk2
  refine ⟨_, rfl, ?_⟩
  refine J_q 5 rfl rfl rfl rfl (Q_assign rfl rfl) ?_
  refine J_nil (K_seq ?_)
  refine C_seq ?_
  refine C_region ?_
  refine J_q 13 rfl rfl rfl rfl (Q_move rfl rfl) ?_
  refine J_q 14 rfl rfl rfl rfl (Q_neqN rfl rfl rfl) ?_
  refine J_nil (K_seq ?_)
  refine C_ifN rfl (fun h3 => ?_) (fun h3 => ?_)
  · refine C_seq ?_
    refine C_region ?_
    refine J_q 15 rfl rfl rfl rfl (Q_move rfl rfl) ?_
    refine J_q 4 rfl rfl rfl rfl (Q_assign rfl rfl) ?_
    refine J_nil (K_seq ?_)
    refine C_ret (R_then (body_ret (res1 rfl rfl) ?_))
    have hwy : whyR x xR c = (chk5 c) := by first | exact why_1 (by assumption) | (rw [hgd.why (by assumption), if_pos (by assumption)]) | (rw [hgd.why (by assumption), if_neg (fun hh => hh (by assumption)), if_pos (by assumption)]) | (rw [hgd.why (by assumption), if_neg (fun hh => hh (by assumption)), if_neg (fun hh => hh (by assumption)), if_pos (by assumption)])
    have hnz : ¬ whyR x xR c = 0 := fun hh => by rw [hwy] at hh; first | exact absurd hh (by assumption) | exact absurd hh (by decide)
    have hcl := hf.close (hS2.pick [0, 1, 2, 3, 4, 5] ⟨rfl, rfl, rfl, rfl, rfl, rfl, rfl, rfl, rfl, rfl, rfl, rfl, trivial⟩)
    exact ⟨by rw [hwy], hS2.keptBut (k := 0) rfl, by rw [if_neg hnz]; exact hcl⟩
  · refine C_skip (K_seq ?_)
    refine C_seq ?_
    refine C_region ?_
    refine J_q 16 rfl rfl rfl rfl (Q_move rfl rfl) ?_
    refine J_q 6 rfl rfl rfl rfl (Q_assign rfl rfl) ?_
    refine J_nil (K_seq ?_)
    refine C_seq ?_
    refine C_seq ?_
    refine C_region ?_
    refine J_q 17 rfl rfl rfl rfl (Q_move rfl rfl) ?_
    refine J_q 18 rfl rfl rfl rfl (Q_eqNilF rfl rfl rfl Try.underlying45) ?_
    refine J_nil (K_seq ?_)
    refine C_false rfl ?_
    refine C_skip (K_seq ?_)
    refine C_seq ?_
    refine C_seq ?_
    refine C_region ?_
    refine J_q 21 rfl rfl rfl rfl (Q_move rfl rfl) ?_
    refine J_q 22 rfl rfl rfl rfl (Q_ldBK' (k := 9) (chL c A_c cap_c) hS2 rfl rfl rfl Try.isAgg55 Try.sizeOf55 rfl rfl) ?_
    refine J_call 23 rfl rfl rfl rfl (T_call rfl rfl rfl Try.call70) (Lknown_calls _ _ _ _ _ (hf.logR hS2 rfl rfl rfl rfl rfl) _ c (hS2.rd 0 rfl hcF) (by first | assumption | omega)) ?_
    rintro _ w4 ⟨rfl, hk4⟩
    have hS4 := hS2.kp0 hk4
    refine ⟨_, rfl, ?_⟩
    refine J_q 7 rfl rfl rfl rfl (Q_assign rfl rfl) ?_
    refine J_nil (K_seq ?_)
    refine C_seq ?_
    refine C_region ?_
    refine J_q 24 rfl rfl rfl rfl (Q_move rfl rfl) ?_
    refine J_q 25 rfl rfl rfl rfl (Q_neqN rfl rfl rfl) ?_
    refine J_nil (K_seq ?_)
    refine C_ifN rfl (fun h5 => ?_) (fun h5 => ?_)
    · refine C_seq ?_
      refine C_region ?_
      refine J_q 26 rfl rfl rfl rfl (Q_move rfl rfl) ?_
      refine J_q 4 rfl rfl rfl rfl (Q_assign rfl rfl) ?_
      refine J_nil (K_seq ?_)
      refine C_ret (R_then (body_ret (res1 rfl rfl) ?_))
      have hwy : whyR x xR c = (knownP x c) := by first | exact why_1 (by assumption) | (rw [hgd.why (by assumption), if_pos (by assumption)]) | (rw [hgd.why (by assumption), if_neg (fun hh => hh (by assumption)), if_pos (by assumption)]) | (rw [hgd.why (by assumption), if_neg (fun hh => hh (by assumption)), if_neg (fun hh => hh (by assumption)), if_pos (by assumption)])
      have hnz : ¬ whyR x xR c = 0 := fun hh => by rw [hwy] at hh; first | exact absurd hh (by assumption) | exact absurd hh (by decide)
      have hcl := hf.close (hS4.pick [0, 1, 2, 3, 4, 5] ⟨rfl, rfl, rfl, rfl, rfl, rfl, rfl, rfl, rfl, rfl, rfl, rfl, trivial⟩)
      exact ⟨by rw [hwy], hS4.keptBut (k := 0) rfl, by rw [if_neg hnz]; exact hcl⟩
    · refine C_skip (K_seq ?_)
      refine C_seq ?_
      refine C_seq ?_
      refine C_region ?_
      refine J_q 27 rfl rfl rfl rfl (Q_move rfl rfl) ?_
      refine J_q 28 rfl rfl rfl rfl (Q_ldBK' (k := 9) (chL c A_c cap_c) hS4 rfl rfl rfl Try.isAgg55 Try.sizeOf55 rfl rfl) ?_
      refine J_call 29 rfl rfl rfl rfl (T_call rfl rfl rfl Try.call71) (Lready_calls _ _ _ _ _ (hf.logR hS4 rfl rfl rfl rfl rfl) _ c (hS4.rd 0 rfl hcF) (by first | assumption | omega) (by first | assumption | omega)) ?_
      rintro _ w6 ⟨rfl, hk6⟩
      have hS6 := hS4.kp0 hk6
      refine ⟨_, rfl, ?_⟩
      refine J_q 8 rfl rfl rfl rfl (Q_assign rfl rfl) ?_
      refine J_nil (K_seq ?_)
      refine C_seq ?_
      refine C_region ?_
      refine J_q 30 rfl rfl rfl rfl (Q_move rfl rfl) ?_
      refine J_q 31 rfl rfl rfl rfl (Q_neqN rfl rfl rfl) ?_
      refine J_nil (K_seq ?_)
      refine C_ifN rfl (fun h7 => ?_) (fun h7 => ?_)
      · refine C_seq ?_
        refine C_region ?_
        refine J_q 32 rfl rfl rfl rfl (Q_move rfl rfl) ?_
        refine J_q 4 rfl rfl rfl rfl (Q_assign rfl rfl) ?_
        refine J_nil (K_seq ?_)
        refine C_ret (R_then (body_ret (res1 rfl rfl) ?_))
        have hwy : whyR x xR c = (readyP x c) := by first | exact why_1 (by assumption) | (rw [hgd.why (by assumption), if_pos (by assumption)]) | (rw [hgd.why (by assumption), if_neg (fun hh => hh (by assumption)), if_pos (by assumption)]) | (rw [hgd.why (by assumption), if_neg (fun hh => hh (by assumption)), if_neg (fun hh => hh (by assumption)), if_pos (by assumption)])
        have hnz : ¬ whyR x xR c = 0 := fun hh => by rw [hwy] at hh; first | exact absurd hh (by assumption) | exact absurd hh (by decide)
        have hcl := hf.close (hS6.pick [0, 1, 2, 3, 4, 5] ⟨rfl, rfl, rfl, rfl, rfl, rfl, rfl, rfl, rfl, rfl, rfl, rfl, trivial⟩)
        exact ⟨by rw [hwy], hS6.keptBut (k := 0) rfl, by rw [if_neg hnz]; exact hcl⟩
      · refine C_skip (K_seq ?_)
        refine C_seq ?_
        refine C_seq ?_
        refine C_draw (fun w' => St w w' [(9, blkL g1 (chL c A_c cap_c) 55), (0, fz w (fun b => b < w.heap.size ∧ ¬ F b)), (1, blkL g (logCells p xR x.length) 117), (3, fz WL G), (4, mapL p.gm p.kv)]) 10 mixedOrders 10 rfl (fun w8 hk8 => ?_)
        have hS8 := hS6.kp0 hk8
        refine JA_p 0 33 10 rfl rfl rfl rfl (by kernel_rfl) (by kernel_rfl) (fun _ => Q_move rfl rfl) ?_
        refine JA_p 1 34 10 rfl rfl rfl rfl (by kernel_rfl) (by kernel_rfl) (fun _ => Q_nil rfl rfl) ?_
        refine JA_p 2 35 10 rfl rfl rfl rfl (by kernel_rfl) (by kernel_rfl) (fun _ => Q_fa0 rfl rfl fo117_1) ?_
        refine JA_q 3 36 rfl rfl rfl rfl (by kernel_rfl) (by kernel_rfl) (hS8.pick [9, 0, 1, 3, 4] ⟨rfl, rfl, rfl, rfl, rfl, rfl, rfl, rfl, rfl, rfl, trivial⟩) (fun _ hI => Q_ldB1 (k := 1) hI rfl rfl rfl Try.isAgg43 rfl) ?_
        refine JA_p 4 37 10 rfl rfl rfl rfl (by kernel_rfl) (by kernel_rfl) (fun _ => Q_len rfl rfl Try.underlying43) ?_
        refine JA_p 5 38 10 rfl rfl rfl rfl (by kernel_rfl) (by kernel_rfl) (fun _ => Q_move rfl rfl) ?_
        refine JA_p 6 39 10 rfl rfl rfl rfl (by kernel_rfl) (by kernel_rfl) (fun _ => Q_nil rfl rfl) ?_
        refine JA_p 7 40 10 rfl rfl rfl rfl (by kernel_rfl) (by kernel_rfl) (fun _ => Q_fa0 rfl rfl fo117_0) ?_
        refine JA_q 8 41 rfl rfl rfl rfl (by kernel_rfl) (by kernel_rfl) (hS8.pick [9, 0, 1, 3, 4] ⟨rfl, rfl, rfl, rfl, rfl, rfl, rfl, rfl, rfl, rfl, trivial⟩) (fun _ hI => Q_ldB1 (k := 1) hI rfl rfl rfl Try.isAgg3 rfl) ?_
        refine JA_p 9 42 10 rfl rfl rfl rfl (by kernel_rfl) (by kernel_rfl) (fun _ => Q_geq rfl rfl rfl) ?_
        refine JA_end (by kernel_rfl) (K_seq ?_)
        refine C_if rfl (fun h9 => ?_) (fun h9 => ?_)
        · refine C_seq ?_
          refine C_region ?_
          refine J_q 4 rfl rfl rfl rfl (Q_assign rfl rfl) ?_
          refine J_nil (K_seq ?_)
          refine C_ret (R_then (body_ret (res1 rfl rfl) ?_))
          have hwy : whyR x xR c = 6 := by first | exact why_1 (by assumption) | (rw [hgd.why (by assumption), if_pos (by assumption)]) | (rw [hgd.why (by assumption), if_neg (fun hh => hh (by assumption)), if_pos (by assumption)]) | (rw [hgd.why (by assumption), if_neg (fun hh => hh (by assumption)), if_neg (fun hh => hh (by assumption)), if_pos (by assumption)])
          have hnz : ¬ whyR x xR c = 0 := fun hh => by rw [hwy] at hh; first | exact absurd hh (by assumption) | exact absurd hh (by decide)
          have hcl := hf.close (hS8.pick [0, 1, 2, 3, 4, 5] ⟨rfl, rfl, rfl, rfl, rfl, rfl, rfl, rfl, rfl, rfl, rfl, rfl, trivial⟩)
          exact ⟨by rw [hwy], hS8.keptBut (k := 0) rfl, by rw [if_neg hnz]; exact hcl⟩
        · refine C_skip (K_seq ?_)
          refine C_seq ?_
          refine C_region ?_
          refine J_q 44 rfl rfl rfl rfl (Q_move rfl rfl) ?_
          refine J_q 45 rfl rfl rfl rfl (Q_fa0 rfl rfl fo55_0) ?_
          refine J_q 46 rfl rfl rfl rfl (Q_ldBK (k := 9) (stL c.at_) hS8 rfl rfl rfl Try.isAgg23 Try.sizeOf23 rfl rfl) ?_
          refine J_call 47 rfl rfl rfl rfl (T_call rfl rfl rfl Try.call72) (Lplace_calls _ _ _ _ _ (hf.logR hS8 rfl rfl rfl rfl rfl) c.at_) ?_
          rintro _ w10 ⟨rfl, hk10⟩
          have hS10 := hS8.kp0 hk10
          have hz11 := posAt_le x c.at_
          refine ⟨_, rfl, ?_⟩
          refine J_q 43 rfl rfl rfl rfl (Q_move rfl rfl) ?_
          refine J_q 48 rfl rfl rfl rfl (Q_extract rfl rfl rfl) ?_
          refine J_q 49 rfl rfl rfl rfl (Q_extract rfl rfl rfl) ?_
          refine J_q 9 rfl rfl rfl rfl (Q_assign rfl rfl) ?_
          refine J_q 10 rfl rfl rfl rfl (Q_assign rfl rfl) ?_
          refine J_nil (K_seq ?_)
          refine C_seq ?_
          refine C_draw (fun w' => St w w' [(9, blkL g1 (chL c A_c cap_c) 55), (0, fz w (fun b => b < w.heap.size ∧ ¬ F b)), (1, blkL g (logCells p xR x.length) 117), (3, fz WL G), (4, mapL p.gm p.kv)]) 12 mixedOrders 13 rfl (fun w12 hk12 => ?_)
          have hS12 := hS10.kp0 hk12
          refine JA_p 0 50 13 rfl rfl rfl rfl (by kernel_rfl) (by kernel_rfl) (fun _ => Q_move rfl rfl) ?_
          refine JA_p 1 51 13 rfl rfl rfl rfl (by kernel_rfl) (by kernel_rfl) (fun _ => Q_move rfl rfl) ?_
          refine JA_p 2 52 13 rfl rfl rfl rfl (by kernel_rfl) (by kernel_rfl) (fun _ => Q_nil rfl rfl) ?_
          refine JA_p 3 53 13 rfl rfl rfl rfl (by kernel_rfl) (by kernel_rfl) (fun _ => Q_fa0 rfl rfl fo117_1) ?_
          refine JA_q 4 54 rfl rfl rfl rfl (by kernel_rfl) (by kernel_rfl) (hS12.pick [9, 0, 1, 3, 4] ⟨rfl, rfl, rfl, rfl, rfl, rfl, rfl, rfl, rfl, rfl, trivial⟩) (fun _ hI => Q_ldB1 (k := 1) hI rfl rfl rfl Try.isAgg43 rfl) ?_
          refine JA_p 5 55 13 rfl rfl rfl rfl (by kernel_rfl) (by kernel_rfl) (fun _ => Q_move rfl rfl) ?_
          refine JA_q 6 56 rfl rfl rfl rfl (by kernel_rfl) (by kernel_rfl) (hS12.pick [9, 0, 1, 3, 4] ⟨rfl, rfl, rfl, rfl, rfl, rfl, rfl, rfl, rfl, rfl, trivial⟩) (fun _ hI => Q_ldBK' (k := 9) (chL c A_c cap_c) hI rfl rfl rfl Try.isAgg55 Try.sizeOf55 rfl rfl) ?_
          refine JA_call 7 57 rfl rfl rfl rfl (by kernel_rfl) (T_call rfl rfl rfl Try.call67) (CCopy_calls _ _ c (hS12.rd 0 rfl hcF)) ?_
          rintro _ w13 ⟨l13_0, rfl, hk13, hr13_0⟩
          have hS13 := hS12.call hk13 10
          obtain ⟨A13_0, cap13_0, rfl, hd13_0, ho13_0⟩ := openCh hr13_0
          have hln13_0 := RdF.lens hd13_0
          have hsq13_0 := ho13_0.seq
          refine ⟨_, rfl, (fun _ => ((hS12.kp0 hk13).pick [9, 0, 1, 3, 4] ⟨rfl, rfl, rfl, rfl, rfl, rfl, rfl, rfl, rfl, rfl, trivial⟩)), ?_⟩
          refine JA_do 8 58 rfl rfl rfl rfl (by kernel_rfl) (D_bs (e := 55) (ps := [(0, .tmp 57)]) 11 (chL (c) A13_0 cap13_0) hS13 rfl rfl (fun _ => by kernel_rfl) (fun g14 w14 hS14 => ⟨(fun _ => (hS14.pick [9, 0, 1, 3, 4] ⟨rfl, rfl, rfl, rfl, rfl, rfl, rfl, rfl, rfl, rfl, trivial⟩)), ?_⟩))
          refine JA_call 9 59 rfl rfl rfl rfl (by kernel_rfl) (T_call rfl rfl rfl Try.call73) (InsertV_calls (hS14.get (k := 2) rfl) (i := posAt x c.at_) (by omega) (by omega) (hS14.get (k := 11) rfl) (fun h => hS14.disj (k := 2) (j := 11) rfl rfl rfl _ h rfl) rfl rfl (reps_one hf.reps) (by omega)) ?_
          rintro _ w15 ⟨vI, rfl, hkI, hoI, hnI⟩
          obtain ⟨gi, ci, rfl⟩ := own_some hoI
          have hS15 := hS14.upd (k := 2) (e' := own 55 13 (.slice (some ⟨gi, 0, none⟩) (x.length + 1) ci) (x.length + 1) (fl.take ((posAt x c.at_).toNat * 13) ++ chL (c) A13_0 cap13_0 ++ fl.drop ((posAt x c.at_).toNat * 13))) rfl hkI hoI hnI
          refine ⟨_, rfl, (fun _ => (hS15.pick [9, 0, 1, 3, 4] ⟨rfl, rfl, rfl, rfl, rfl, rfl, rfl, rfl, rfl, rfl, trivial⟩)), ?_⟩
          refine JA_p 10 60 13 rfl rfl rfl rfl (by kernel_rfl) (by kernel_rfl) (fun _ => Q_nil rfl rfl) ?_
          refine JA_p 11 61 13 rfl rfl rfl rfl (by kernel_rfl) (by kernel_rfl) (fun _ => Q_fa0 rfl rfl fo117_1) ?_
          refine JA_do0 12 rfl rfl rfl rfl (by kernel_rfl) (D_store (k := 1) hS15 rfl rfl rfl rfl Try.sizeOf43 rfl rfl logBle1 (fun w16 hS16 => ⟨(fun h => nomatch h), ?_⟩))
          refine JA_end (by kernel_rfl) (K_seq ?_)
          refine C_seq ?_
          refine C_draw (fun w' => St w w' [(11, blkL g14 (chL (c) A13_0 cap13_0) 55), (10, fz w13 (nw w12 w13)), (9, blkL g1 (chL c A_c cap_c) 55), (0, fz w (fun b => b < w.heap.size ∧ ¬ F b)), (1, blkL g (logCells { p with A := some ⟨gi, 0, none⟩, c := ci } xR (x.length + 1)) 117), (3, fz WL G), (4, mapL p.gm p.kv)]) 9 mixedOrders 10 rfl (fun w17 hk17 => ?_)
          have hS17 := hS16.kp0 hk17
          refine JA_p 0 62 10 rfl rfl rfl rfl (by kernel_rfl) (by kernel_rfl) (fun _ => Q_move rfl rfl) ?_
          refine JA_p 1 63 10 rfl rfl rfl rfl (by kernel_rfl) (by kernel_rfl) (fun _ => Q_nil rfl rfl) ?_
          refine JA_p 2 64 10 rfl rfl rfl rfl (by kernel_rfl) (by kernel_rfl) (fun _ => Q_fa0 rfl rfl fo117_2) ?_
          refine JA_q 3 65 rfl rfl rfl rfl (by kernel_rfl) (by kernel_rfl) (hS17.pick [11, 10, 9, 0, 1, 3, 4] ⟨rfl, rfl, rfl, rfl, rfl, rfl, rfl, rfl, rfl, rfl, rfl, rfl, rfl, rfl, trivial⟩) (fun _ hI => Q_ldB1 (k := 1) hI rfl rfl rfl Try.isAgg114 rfl) ?_
          refine JA_p 4 66 10 rfl rfl rfl rfl (by kernel_rfl) (by kernel_rfl) (fun _ => Q_fa0 rfl rfl fo55_0) ?_
          refine JA_q 5 67 rfl rfl rfl rfl (by kernel_rfl) (by kernel_rfl) (hS17.pick [11, 10, 9, 0, 1, 3, 4] ⟨rfl, rfl, rfl, rfl, rfl, rfl, rfl, rfl, rfl, rfl, rfl, rfl, rfl, rfl, trivial⟩) (fun _ hI => Q_ldBK (k := 9) (stL c.at_) hI rfl rfl rfl Try.isAgg23 Try.sizeOf23 rfl rfl) ?_
          refine JA_p 6 68 10 rfl rfl rfl rfl (by kernel_rfl) (by kernel_rfl) (fun _ => Q_fa0 rfl rfl fo55_1) ?_
          refine JA_q 7 69 rfl rfl rfl rfl (by kernel_rfl) (by kernel_rfl) (hS17.pick [11, 10, 9, 0, 1, 3, 4] ⟨rfl, rfl, rfl, rfl, rfl, rfl, rfl, rfl, rfl, rfl, rfl, rfl, rfl, rfl, trivial⟩) (fun _ hI => Q_ldB1 (k := 9) hI rfl rfl rfl Try.isAgg3 rfl) ?_
          refine JA_p 8 70 10 rfl rfl rfl rfl (by kernel_rfl) (by kernel_rfl) (fun _ => Q_bld (v := .agg ([.int .i64 c.seq]).toArray) (ps := [(0, .tmp 69)]) rfl rfl (fun _ => by kernel_rfl)) ?_
          refine JA_do0 9 rfl rfl rfl rfl (by kernel_rfl) (D_mapUpd (s := c.at_) (v := .agg [.int .i64 c.seq].toArray) stkey23 hS17 (j := 4) rfl Try.underlying114 rfl rfl rfl rfl (fun w18 hS18 => ⟨(fun h => nomatch h), ?_⟩))
          refine JA_end (by kernel_rfl) (K_seq ?_)
          refine C_seq ?_
          refine C_draw (fun w' => St w w' [(11, blkL g14 (chL (c) A13_0 cap13_0) 55), (10, fz w13 (nw w12 w13)), (9, blkL g1 (chL c A_c cap_c) 55), (0, fz w (fun b => b < w.heap.size ∧ ¬ F b)), (1, blkL g (logCells { p with A := some ⟨gi, 0, none⟩, c := ci } xR (x.length + 1)) 117), (3, fz WL G), (4, mapL p.gm (aput p.kv c.at_ (.agg [.int .i64 c.seq].toArray)))]) 19 mixedOrders 20 rfl (fun w19 hk19 => ?_)
          have hS19 := hS18.kp0 hk19
          refine JA_p 0 71 20 rfl rfl rfl rfl (by kernel_rfl) (by kernel_rfl) (fun _ => Q_move rfl rfl) ?_
          refine JA_p 1 72 20 rfl rfl rfl rfl (by kernel_rfl) (by kernel_rfl) (fun _ => Q_fa0 rfl rfl fo55_0) ?_
          refine JA_p 2 73 20 rfl rfl rfl rfl (by kernel_rfl) (by kernel_rfl) (fun _ => Q_fa rfl rfl fo23_1 rfl) ?_
          refine JA_q 3 74 rfl rfl rfl rfl (by kernel_rfl) (by kernel_rfl) (hS19.pick [11, 10, 9, 0, 1, 3, 4] ⟨rfl, rfl, rfl, rfl, rfl, rfl, rfl, rfl, rfl, rfl, rfl, rfl, rfl, rfl, trivial⟩) (fun _ hI => Q_ldB1 (k := 9) hI rfl rfl rfl Try.isAgg3 rfl) ?_
          refine JA_p 4 75 20 rfl rfl rfl rfl (by kernel_rfl) (by kernel_rfl) (fun _ => Q_move rfl rfl) ?_
          refine JA_p 5 76 20 rfl rfl rfl rfl (by kernel_rfl) (by kernel_rfl) (fun _ => Q_fa0 rfl rfl fo55_0) ?_
          refine JA_p 6 77 20 rfl rfl rfl rfl (by kernel_rfl) (by kernel_rfl) (fun _ => Q_fa rfl rfl fo23_1 rfl) ?_
          refine JA_q 7 78 rfl rfl rfl rfl (by kernel_rfl) (by kernel_rfl) (hS19.pick [11, 10, 9, 0, 1, 3, 4] ⟨rfl, rfl, rfl, rfl, rfl, rfl, rfl, rfl, rfl, rfl, rfl, rfl, rfl, rfl, trivial⟩) (fun _ hI => Q_ldB1 (k := 9) hI rfl rfl rfl Try.isAgg3 rfl) ?_
          refine JA_p 8 79 20 rfl rfl rfl rfl (by kernel_rfl) (by kernel_rfl) (fun _ => Q_nil rfl rfl) ?_
          refine JA_p 9 80 20 rfl rfl rfl rfl (by kernel_rfl) (by kernel_rfl) (fun _ => Q_fa0 rfl rfl fo117_3) ?_
          refine JA_p 10 81 20 rfl rfl rfl rfl (by kernel_rfl) (by kernel_rfl) (fun _ => Q_iaArr rfl rfl rfl Try.underlying115 Try.sizeOf36 (by omega) (by omega)) ?_
          refine JA_q 11 82 rfl rfl rfl rfl (by kernel_rfl) (by kernel_rfl) (hS19.pick [11, 10, 9, 0, 1, 3, 4] ⟨rfl, rfl, rfl, rfl, rfl, rfl, rfl, rfl, rfl, rfl, rfl, rfl, rfl, rfl, trivial⟩) (fun _ hI => Q_ldB1 (v := nth p.vs c.at_.r) (k := 1) hI rfl rfl rfl Try.isAgg36 (cgetI (p := { p with A := some ⟨gi, 0, none⟩, c := ci }) hf.len (by omega) (by omega))) ?_
          refine JA_p 12 83 20 rfl rfl rfl rfl (by kernel_rfl) (by kernel_rfl) (fun _ => Q_fa0 rfl rfl fo55_0) ?_
          refine JA_q 13 84 rfl rfl rfl rfl (by kernel_rfl) (by kernel_rfl) (hS19.pick [11, 10, 9, 0, 1, 3, 4] ⟨rfl, rfl, rfl, rfl, rfl, rfl, rfl, rfl, rfl, rfl, rfl, rfl, rfl, rfl, trivial⟩) (fun _ hI => Q_ldBK (k := 9) (stL c.at_) hI rfl rfl rfl Try.isAgg23 Try.sizeOf23 rfl rfl) ?_
          refine JA_p 16 87 20 rfl rfl rfl rfl (by kernel_rfl) (by kernel_rfl) (fun _ => Q_nil rfl rfl) ?_
          refine JA_p 17 88 20 rfl rfl rfl rfl (by kernel_rfl) (by kernel_rfl) (fun _ => Q_fa0 rfl rfl fo117_3) ?_
          refine JA_do 14 85 rfl rfl rfl rfl (by kernel_rfl) (D_bs (e := 23) (ps := [(0, .tmp 84)]) 14 (stL c.at_) hS19 rfl rfl (fun _ => by kernel_rfl) (fun g20 w20 hS20 => ⟨(fun _ => (hS20.pick [11, 10, 9, 0, 1, 3, 4] ⟨rfl, rfl, rfl, rfl, rfl, rfl, rfl, rfl, rfl, rfl, rfl, rfl, rfl, rfl, trivial⟩)), ?_⟩))
          have hSp21 : St w w20 [(5, rowsH 64 p.vs (rowsL x)), (14, blkL g20 (stL c.at_) 23), (11, blkL g14 (chL (c) A13_0 cap13_0) 55), (10, fz w13 (nw w12 w13)), (9, blkL g1 (chL c A_c cap_c) 55), (0, fz w (fun b => b < w.heap.size ∧ ¬ F b)), (1, blkL g (logCells { p with A := some ⟨gi, 0, none⟩, c := ci } xR (x.length + 1)) 117), (2, own 55 13 (.slice (some ⟨gi, 0, none⟩) (x.length + 1) ci) (x.length + 1) (fl.take ((posAt x c.at_).toNat * 13) ++ chL (c) A13_0 cap13_0 ++ fl.drop ((posAt x c.at_).toNat * 13))), (3, fz WL G), (4, mapL p.gm (aput p.kv c.at_ (.agg [.int .i64 c.seq].toArray)))] := hS20.pick [5, 14, 11, 10, 9, 0, 1, 2, 3, 4] ⟨rfl, rfl, rfl, rfl, rfl, rfl, rfl, rfl, rfl, rfl, rfl, rfl, rfl, rfl, rfl, rfl, rfl, rfl, rfl, rfl, trivial⟩
          have hSq21 := hSp21.rowOut (i := c.at_.r.toNat) 60 hf.len (by omega) (vs_getI hf.len (by omega) (by omega)) (rowsL_getI x (by omega) (by omega))
          have hml := mine_le x c.at_.r
          have hrl := rowS_len x c.at_.r
          refine JA_do 15 86 rfl rfl rfl rfl (by kernel_rfl) (D_app1 app36 hSq21 60 rfl 14 rfl rfl rfl rfl rfl rfl (by omega) (by unfold maxL; omega) (fun g21 cap21 w21 hS21 => ⟨(fun _ => (hS21.pick [11, 10, 9, 0, 1, 3, 4] ⟨rfl, rfl, rfl, rfl, rfl, rfl, rfl, rfl, rfl, rfl, rfl, rfl, rfl, rfl, trivial⟩)), ?_⟩))
          refine JA_p 18 89 20 rfl rfl rfl rfl (by kernel_rfl) (by kernel_rfl) (fun _ => Q_iaArr rfl rfl rfl Try.underlying115 Try.sizeOf36 (by omega) (by omega)) ?_
          refine JA_do0 19 rfl rfl rfl rfl (by kernel_rfl) (D_store (k := 1) (j := 3 + c.at_.r.toNat * 1) hS21 rfl rfl rfl rfl Try.sizeOf36 rfl rfl (logBle (p := { p with A := some ⟨gi, 0, none⟩, c := ci }) hf.len (by omega) (by omega)) (fun w22 hS22a => ⟨(fun h => nomatch h), ?_⟩))
          rw [logSet (p := { p with A := some ⟨gi, 0, none⟩, c := ci }) hf.len (by omega) (by omega)] at hS22a
          have hS22 : St w w22 [(5, rowsH c.at_.r.toNat p.vs (rowsL x)), (60, own 23 2 (.slice (some ⟨g21, 0, none⟩) ((rowS x c.at_.r).length + 1) cap21) ((rowS x c.at_.r).length + 1) (flS (rowS x c.at_.r) ++ stL c.at_)), (14, blkL g20 (stL c.at_) 23), (11, blkL g14 (chL (c) A13_0 cap13_0) 55), (10, fz w13 (nw w12 w13)), (9, blkL g1 (chL c A_c cap_c) 55), (0, fz w (fun b => b < w.heap.size ∧ ¬ F b)), (1, blkL g (logCells { p with A := some ⟨gi, 0, none⟩, c := ci, vs := p.vs.set c.at_.r.toNat (.slice (some ⟨g21, 0, none⟩) ((rowS x c.at_.r).length + 1) cap21) } xR (x.length + 1)) 117), (2, own 55 13 (.slice (some ⟨gi, 0, none⟩) (x.length + 1) ci) (x.length + 1) (fl.take ((posAt x c.at_).toNat * 13) ++ chL (c) A13_0 cap13_0 ++ fl.drop ((posAt x c.at_).toNat * 13))), (3, fz WL G), (4, mapL p.gm (aput p.kv c.at_ (.agg [.int .i64 c.seq].toArray)))] := hS22a
          refine JA_end (by kernel_rfl) (K_seq ?_)
          refine C_seq ?_
          refine C_region ?_
          refine J_q 4 rfl rfl rfl rfl (Q_assign rfl rfl) ?_
          refine J_nil (K_seq ?_)
          refine C_ret (body_ret (res1 rfl rfl) ?_)
          have hwy : whyR x xR c = 0 := by rw [hgd.why (by assumption), if_neg (fun hh => hh (by assumption)), if_neg (fun hh => hh (by assumption)), if_neg (by assumption)]
          have hdone := hf.addDone (gi := gi) (ci := ci) hwy (by omega) (by omega) (hS22.pick [3, 10, 5, 60, 0, 1, 2, 4] ⟨rfl, rfl, rfl, rfl, rfl, rfl, rfl, rfl, rfl, rfl, rfl, rfl, rfl, rfl, rfl, rfl, trivial⟩) hr13_0 rfl
          exact ⟨by rw [hwy], hS22.keptBut (k := 0) rfl, by rw [if_pos hwy]; exact hdone⟩
end Go.Proofs.Ytceeellnjckmiaa

/- Printed by a program of mine (gen.py). -/
set_option maxRecDepth 100000
namespace Go.Proofs.Ytceeellnjckmiaa
open Go Go.Sl
theorem first_calls (w : World) :
    Calls Try.prog 26 #[] w fun e w' => ∃ l0, e = .returned (.agg l0.toArray) ∧ Kp no w w' ∧ RdF tCh w' (nw w w') l0 (firstC) := by
  have hS0 := St.start w
  refine fn_calls' 6 (args := []) Try.func26 rfl rfl rfl ?_
  refine C_seq ?_
  refine C_region ?_
  refine J_do 0 rfl rfl rfl rfl (D_alloc 1 hS0 rfl Try.zeroValue55 (fun g1 w1 hS1 => ?_))
  refine J_nil (K_seq ?_)
  refine C_seq ?_
  refine C_region ?_
  refine J_q 2 rfl rfl rfl rfl (Q_bld (v := .agg ([.int .i64 1, .int .i64 0]).toArray) (ps := [(0, .const (.int .i64 1))]) rfl rfl (fun _ => by kernel_rfl)) ?_
  refine J_do 1 rfl rfl rfl rfl (D_alloc 2 hS1 rfl Try.zeroValue23 (fun g2 w2 hS2 => ?_))
  refine J_do0 rfl rfl rfl rfl (D_store' (k := 2) hS2 rfl rfl rfl rfl Try.sizeOf23 rfl rfl rfl (fun w3 hS3 => ?_))
  refine J_nil (K_seq ?_)
  refine C_seq ?_
  refine C_region ?_
  refine J_q 3 rfl rfl rfl rfl (Q_ldBK' (k := 2) ([.int .i64 1, .int .i64 0]) hS3 rfl rfl rfl Try.isAgg23 Try.sizeOf23 rfl rfl) ?_
  refine J_q 4 rfl rfl rfl rfl (Q_ldBK' (k := 2) ([.int .i64 1, .int .i64 0]) hS3 rfl rfl rfl Try.isAgg23 Try.sizeOf23 rfl rfl) ?_
  refine J_q 5 rfl rfl rfl rfl (Q_bld (v := .agg ([.int .i64 1, .int .i64 0, .int .i64 1, .slice none 0 0, .int .i64 1, .int .i64 1, .int .i64 0, .int .i64 0, .int .i64 0, .int .i64 0, .int .i64 0, .string (⟨#[112]⟩ : ByteArray), .string nostr]).toArray) (ps := [(0, .tmp 3), (1, .const (.int .i64 1)), (3, .const (.int .i64 1)), (4, .tmp 4), (7, .const (.string (⟨#[112]⟩ : ByteArray)))]) rfl rfl (fun _ => by kernel_rfl)) ?_
  refine J_do0 rfl rfl rfl rfl (D_store' (k := 1) hS3 rfl rfl rfl rfl Try.sizeOf55 rfl rfl rfl (fun w4 hS4 => ?_))
  refine J_nil (K_seq ?_)
  refine C_ret (body_ret (resG (vs := [.agg ([.int .i64 1, .int .i64 0, .int .i64 1, .slice none 0 0, .int .i64 1, .int .i64 1, .int .i64 0, .int .i64 0, .int .i64 0, .int .i64 0, .int .i64 0, .string (⟨#[112]⟩ : ByteArray), .string nostr]).toArray]) rfl ⟨rCK ([.int .i64 1, .int .i64 0, .int .i64 1, .slice none 0 0, .int .i64 1, .int .i64 1, .int .i64 0, .int .i64 0, .int .i64 0, .int .i64 0, .int .i64 0, .string (⟨#[112]⟩ : ByteArray), .string nostr]) (blk_cells (k := 1) hS4 rfl) rfl Try.isAgg55 Try.sizeOf55 rfl rfl, trivial⟩) ?_)
  exact ⟨_, rfl, hS4.kept (k := 0) rfl, mkCh (fun u _ => rdNil tI u) (firstC_ok)⟩

theorem LNew_calls (w : World) (room : Int) (hr : 1 ≤ room ∧ room ≤ 4096) :
    Calls Try.prog 35 #[.int .i64 room] w fun e w' => ∃ g F, e = .returned (.tuple #[.pointer (some ⟨g, 0, none⟩), .int .i64 0]) ∧ Kp no w w' ∧ (∀ b, F b → nw w w' b) ∧ LogAt w' F g room [] := by
  have hS0 := St.start w
  refine fn_calls' 14 (args := [_]) Try.func35 rfl rfl rfl ?_
  refine C_seq ?_
  refine C_region ?_
  refine J_q 2 rfl rfl rfl rfl (Q_assign rfl rfl) ?_
  refine J_q 3 rfl rfl rfl rfl (Q_assign rfl rfl) ?_
  refine J_nil (K_seq ?_)
  refine C_seq ?_
  refine C_seq ?_
  refine C_region ?_
  refine J_q 4 rfl rfl rfl rfl (Q_move rfl rfl) ?_
  refine J_q 5 rfl rfl rfl rfl (Q_lss rfl rfl rfl) ?_
  refine J_q 6 rfl rfl rfl rfl (Q_move rfl rfl) ?_
  refine J_split 6 rfl (fun h1 => ?_) (fun h1 => ?_)
  · exfalso; omega
  · refine J_q 7 rfl rfl rfl rfl (Q_move rfl rfl) ?_
    refine J_q 8 rfl rfl rfl rfl (Q_gtr rfl rfl rfl) ?_
    refine J_q 9 rfl rfl rfl rfl (Q_pickF rfl rfl rfl) ?_
    refine J_nil (K_seq ?_)
    refine C_if rfl (fun h2 => ?_) (fun h2 => ?_)
    · exfalso; omega
    · refine C_skip (K_seq ?_)
      refine C_seq ?_
      refine C_region ?_
      refine J_q 10 rfl rfl rfl rfl (Q_move rfl rfl) ?_
      refine J_do 11 rfl rfl rfl rfl (D_mkMapL 1 hS0 rfl (fun g3 w3 hS3 => ?_))
      refine J_q 12 rfl rfl rfl rfl (Q_bld (v := .agg ([.int .i64 room, .slice none 0 0, .map (some g3), .slice none 0 0, .slice none 0 0, .slice none 0 0, .slice none 0 0, .slice none 0 0, .slice none 0 0, .slice none 0 0, .slice none 0 0, .slice none 0 0, .slice none 0 0, .slice none 0 0, .slice none 0 0, .slice none 0 0, .slice none 0 0, .slice none 0 0, .slice none 0 0, .slice none 0 0, .slice none 0 0, .slice none 0 0, .slice none 0 0, .slice none 0 0, .slice none 0 0, .slice none 0 0, .slice none 0 0, .slice none 0 0, .slice none 0 0, .slice none 0 0, .slice none 0 0, .slice none 0 0, .slice none 0 0, .slice none 0 0, .slice none 0 0, .slice none 0 0, .slice none 0 0, .slice none 0 0, .slice none 0 0, .slice none 0 0, .slice none 0 0, .slice none 0 0, .slice none 0 0, .slice none 0 0, .slice none 0 0, .slice none 0 0, .slice none 0 0, .slice none 0 0, .slice none 0 0, .slice none 0 0, .slice none 0 0, .slice none 0 0, .slice none 0 0, .slice none 0 0, .slice none 0 0, .slice none 0 0, .slice none 0 0, .slice none 0 0, .slice none 0 0, .slice none 0 0, .slice none 0 0, .slice none 0 0, .slice none 0 0, .slice none 0 0, .slice none 0 0, .slice none 0 0, .slice none 0 0]).toArray) (ps := [(0, .tmp 10), (2, .tmp 11)]) rfl rfl (fun _ => by kernel_rfl)) ?_
      refine J_do 13 rfl rfl rfl rfl (D_box 2 hS3 rfl rfl (fun g4 w4 hS4 => ?_))
      refine J_q 2 rfl rfl rfl rfl (Q_assign rfl rfl) ?_
      refine J_q 3 rfl rfl rfl rfl (Q_assign rfl rfl) ?_
      refine J_nil (K_seq ?_)
      refine C_ret (body_ret (res2 rfl rfl rfl) ?_)
      obtain ⟨F, hF, hL⟩ := newLog (g := g4) (gm := g3) (room := room) (a := 2) (b := 1) (by exact hS4.pick [2, 1, 0] ⟨rfl, rfl, rfl, rfl, rfl, rfl, trivial⟩) rfl rfl rfl (by omega) (by omega)
      exact ⟨_, F, rfl, hS4.kept (k := 0) rfl, hF, hL⟩

theorem LNewBad_calls (w : World) (room : Int) (hr : room < 1 ∨ 4096 < room) :
    Calls Try.prog 35 #[.int .i64 room] w fun e w' => e = .returned (.tuple #[.pointer none, .int .i64 1]) ∧ Kp no w w' := by
  have hS0 := St.start w
  refine fn_calls' 14 (args := [_]) Try.func35 rfl rfl rfl ?_
  refine C_seq ?_
  refine C_region ?_
  refine J_q 2 rfl rfl rfl rfl (Q_assign rfl rfl) ?_
  refine J_q 3 rfl rfl rfl rfl (Q_assign rfl rfl) ?_
  refine J_nil (K_seq ?_)
  refine C_seq ?_
  refine C_seq ?_
  refine C_region ?_
  refine J_q 4 rfl rfl rfl rfl (Q_move rfl rfl) ?_
  refine J_q 5 rfl rfl rfl rfl (Q_lss rfl rfl rfl) ?_
  refine J_q 6 rfl rfl rfl rfl (Q_move rfl rfl) ?_
  refine J_split 6 rfl (fun h1 => ?_) (fun h1 => ?_)
  · refine J_no rfl rfl rfl ?_
    refine J_no rfl rfl rfl ?_
    refine J_q 9 rfl rfl rfl rfl (Q_pickT rfl rfl rfl) ?_
    refine J_nil (K_seq ?_)
    refine C_true rfl ?_
    refine C_seq ?_
    refine C_region ?_
    refine J_q 2 rfl rfl rfl rfl (Q_assign rfl rfl) ?_
    refine J_q 3 rfl rfl rfl rfl (Q_assign rfl rfl) ?_
    refine J_nil (K_seq ?_)
    refine C_ret (R_then (body_ret (res2 rfl rfl rfl) ?_))
    exact ⟨rfl, hS0.kept (k := 0) rfl⟩
  · refine J_q 7 rfl rfl rfl rfl (Q_move rfl rfl) ?_
    refine J_q 8 rfl rfl rfl rfl (Q_gtr rfl rfl rfl) ?_
    refine J_q 9 rfl rfl rfl rfl (Q_pickF rfl rfl rfl) ?_
    refine J_nil (K_seq ?_)
    refine C_if rfl (fun h2 => ?_) (fun h2 => ?_)
    · refine C_seq ?_
      refine C_region ?_
      refine J_q 2 rfl rfl rfl rfl (Q_assign rfl rfl) ?_
      refine J_q 3 rfl rfl rfl rfl (Q_assign rfl rfl) ?_
      refine J_nil (K_seq ?_)
      refine C_ret (R_then (body_ret (res2 rfl rfl rfl) ?_))
      exact ⟨rfl, hS0.kept (k := 0) rfl⟩
    · exfalso; omega

theorem awake_calls (w : World) :
    Calls Try.prog 30 #[] w fun e w' => e = .returned (.bool true) ∧ Kp no w w' := by
  have hS0 := St.start w
  have awake_2 : whyR (if whyR [] 3 firstC = 0 then putC [] firstC else []) 3 firstC = 5 := by rw [awake_x]; exact first_5
  have awx2 : (if whyR (if whyR [] 3 firstC = 0 then putC [] firstC else []) 3 firstC = 0 then putC (if whyR [] 3 firstC = 0 then putC [] firstC else []) firstC else (if whyR [] 3 firstC = 0 then putC [] firstC else [])) = [firstC] := by rw [awake_x, first_5]; rfl
  have awake_3 : (((if whyR (if whyR [] 3 firstC = 0 then putC [] firstC else []) 3 firstC = 0 then putC (if whyR [] 3 firstC = 0 then putC [] firstC else []) firstC else (if whyR [] 3 firstC = 0 then putC [] firstC else [])).length : Int)) = 1 := by rw [awx2]; rfl
  have awake_4 : lastC (if whyR (if whyR [] 3 firstC = 0 then putC [] firstC else []) 3 firstC = 0 then putC (if whyR [] 3 firstC = 0 then putC [] firstC else []) firstC else (if whyR [] 3 firstC = 0 then putC [] firstC else [])) = 1 := by rw [awx2]; rfl
  refine fn_calls' 35 (args := []) Try.func30 rfl rfl rfl ?_
  refine C_seq ?_
  refine C_region ?_
  refine J_q 0 rfl rfl rfl rfl (Q_assign rfl rfl) ?_
  refine J_nil (K_seq ?_)
  refine C_seq ?_
  refine C_region ?_
  refine J_call 4 rfl rfl rfl rfl (T_call rfl rfl rfl Try.call35) (LNew_calls _ 3 (by omega)) ?_
  rintro _ w1 ⟨gL1, FL1, rfl, hk1, hFL1, hLL1⟩
  have hS1 := hS0.new hk1 1 (logE FL1 gL1 3 []) hLL1 hFL1
  refine ⟨_, rfl, ?_⟩
  refine J_q 3 rfl rfl rfl rfl (Q_move rfl rfl) ?_
  refine J_q 5 rfl rfl rfl rfl (Q_extract rfl rfl rfl) ?_
  refine J_q 6 rfl rfl rfl rfl (Q_extract rfl rfl rfl) ?_
  refine J_q 1 rfl rfl rfl rfl (Q_assign rfl rfl) ?_
  refine J_q 2 rfl rfl rfl rfl (Q_assign rfl rfl) ?_
  refine J_nil (K_seq ?_)
  refine C_seq ?_
  refine C_region ?_
  refine J_q 7 rfl rfl rfl rfl (Q_move rfl rfl) ?_
  refine J_q 8 rfl rfl rfl rfl (Q_toB (c' := true) (Q_eql rfl rfl rfl) (by decide)) ?_
  refine J_q 9 rfl rfl rfl rfl (Q_move rfl rfl) ?_
  refine J_q 10 rfl rfl rfl rfl (Q_move rfl rfl) ?_
  refine J_q 11 rfl rfl rfl rfl (Q_neNilT rfl rfl rfl Try.underlying45) ?_
  refine J_q 12 rfl rfl rfl rfl (Q_pickT rfl rfl rfl) ?_
  refine J_q 13 rfl rfl rfl rfl (Q_move rfl rfl) ?_
  refine J_q 14 rfl rfl rfl rfl (Q_move rfl rfl) ?_
  refine J_call 15 rfl rfl rfl rfl (T_call rfl rfl rfl Try.call26) (first_calls _) ?_
  rintro _ w2 ⟨l2_0, rfl, hk2, hr2_0⟩
  have hS2 := hS1.call hk2 2
  obtain ⟨A2_0, cap2_0, rfl, hd2_0, ho2_0⟩ := openCh hr2_0
  have hln2_0 := RdF.lens hd2_0
  have hsq2_0 := ho2_0.seq
  refine ⟨_, rfl, ?_⟩
  refine J_call 16 rfl rfl rfl rfl (T_call rfl rfl rfl Try.call25) (LAdd_calls _ FL1 gL1 3 ([]) (hS2.get (k := 1) rfl) _ (firstC) _ (hS2.rdF 2 rfl hr2_0) (fun b hb => ⟨hS2.fpLt (k := 2) rfl b hb, fun h => hS2.disj (k := 2) (j := 1) rfl rfl rfl b hb h⟩)) ?_
  rintro _ w3 ⟨rfl, hk3, FN3, hFN3, hLN3⟩
  have hS3 := hS2.upd (k := 1) (e' := logE FN3 gL1 3 (if whyR ([]) 3 (firstC) = 0 then putC ([]) (firstC) else ([]))) rfl hk3 hLN3 hFN3
  refine ⟨_, rfl, ?_⟩
  refine J_q 17 rfl rfl rfl rfl (Q_eql rfl rfl rfl) ?_
  refine J_q 18 rfl rfl rfl rfl (Q_pickT rfl rfl rfl) ?_
  refine J_q 19 rfl rfl rfl rfl (Q_move rfl rfl) ?_
  refine J_setT 19 rfl awake_1 ?_
  refine J_q 20 rfl rfl rfl rfl (Q_move rfl rfl) ?_
  refine J_call 21 rfl rfl rfl rfl (T_call rfl rfl rfl Try.call26) (first_calls _) ?_
  rintro _ w4 ⟨l4_0, rfl, hk4, hr4_0⟩
  have hS4 := hS3.call hk4 3
  obtain ⟨A4_0, cap4_0, rfl, hd4_0, ho4_0⟩ := openCh hr4_0
  have hln4_0 := RdF.lens hd4_0
  have hsq4_0 := ho4_0.seq
  refine ⟨_, rfl, ?_⟩
  refine J_call 22 rfl rfl rfl rfl (T_call rfl rfl rfl Try.call25) (LAdd_calls _ FN3 gL1 3 (if whyR ([]) 3 (firstC) = 0 then putC ([]) (firstC) else ([])) (hS4.get (k := 1) rfl) _ (firstC) _ (hS4.rdF 3 rfl hr4_0) (fun b hb => ⟨hS4.fpLt (k := 3) rfl b hb, fun h => hS4.disj (k := 3) (j := 1) rfl rfl rfl b hb h⟩)) ?_
  rintro _ w5 ⟨rfl, hk5, FN5, hFN5, hLN5⟩
  have hS5 := hS4.upd (k := 1) (e' := logE FN5 gL1 3 (if whyR (if whyR ([]) 3 (firstC) = 0 then putC ([]) (firstC) else ([])) 3 (firstC) = 0 then putC (if whyR ([]) 3 (firstC) = 0 then putC ([]) (firstC) else ([])) (firstC) else (if whyR ([]) 3 (firstC) = 0 then putC ([]) (firstC) else ([])))) rfl hk5 hLN5 hFN5
  refine ⟨_, rfl, ?_⟩
  refine J_q 23 rfl rfl rfl rfl (Q_eql rfl rfl rfl) ?_
  refine J_q 24 rfl rfl rfl rfl (Q_pickT rfl rfl rfl) ?_
  refine J_q 25 rfl rfl rfl rfl (Q_move rfl rfl) ?_
  refine J_setT 25 rfl awake_2 ?_
  refine J_q 26 rfl rfl rfl rfl (Q_move rfl rfl) ?_
  obtain ⟨pL6, hLR6⟩ := LogAt.logR (hS5.get (k := 1) rfl)
  refine J_call 27 rfl rfl rfl rfl (T_call rfl rfl rfl Try.call75) (LLen_calls _ _ _ _ _ (hLR6.mono (hS5.fpLt (k := 1) rfl))) ?_
  rintro _ w7 ⟨rfl, hk7⟩
  have hS7 := hS5.kp0 hk7
  refine ⟨_, rfl, ?_⟩
  refine J_q 28 rfl rfl rfl rfl (Q_eql rfl rfl rfl) ?_
  refine J_q 29 rfl rfl rfl rfl (Q_pickT rfl rfl rfl) ?_
  refine J_q 30 rfl rfl rfl rfl (Q_move rfl rfl) ?_
  refine J_setT 30 rfl awake_3 ?_
  refine J_q 31 rfl rfl rfl rfl (Q_move rfl rfl) ?_
  obtain ⟨pL8, hLR8⟩ := LogAt.logR (hS7.get (k := 1) rfl)
  refine J_call 32 rfl rfl rfl rfl (T_call rfl rfl rfl Try.call76) (LLast_calls _ _ _ _ _ (hLR8.mono (hS7.fpLt (k := 1) rfl))) ?_
  rintro _ w9 ⟨rfl, hk9⟩
  have hS9 := hS7.kp0 hk9
  refine ⟨_, rfl, ?_⟩
  refine J_q 33 rfl rfl rfl rfl (Q_eql rfl rfl rfl) ?_
  refine J_q 34 rfl rfl rfl rfl (Q_pickT rfl rfl rfl) ?_
  refine J_q 0 rfl rfl rfl rfl (Q_assign rfl rfl) ?_
  refine J_nil (K_seq ?_)
  refine C_ret (body_ret (res1 rfl rfl) ?_)
  exact ⟨congrArg Ending.returned (eqB (decide_eq_true awake_4)), hS9.kept (k := 0) rfl⟩
end Go.Proofs.Ytceeellnjckmiaa

/- Printed by a program of mine (gen.py). -/
set_option maxRecDepth 100000
namespace Go.Proofs.Ytceeellnjckmiaa
open Go Go.Sl
theorem Ltold_calls (w : World) (g_x : Nat) (p_x : LogP) (xR : Int) (x : List Change) (h_x : LogR w (lt_ w) g_x p_x xR x) (v_y : Value) (h_y : (tSl tCh).rd w [v_y] x) :
    Calls Try.prog 47 #[.pointer (some ⟨g_x, 0, none⟩), .agg #[.int .i64 xR, v_y]] w fun e w' => e = .returned (.bool true) ∧ Kp no w w' := by
  have hS0 := St.start w
  have hle_x := h_x.le
  have hcap_x := h_x.all.cap_le
  have hF_y := RdF.of_rd h_y
  obtain ⟨A_y, cap_y, rfl, hc_y, hm_y⟩ := hF_y.slice
  refine fn_calls' 41 (args := [_, _]) Try.func47 rfl rfl rfl ?_
  refine C_seq ?_
  refine C_region ?_
  refine J_do 3 rfl rfl rfl rfl (D_box 1 hS0 rfl rfl (fun g1 w1 hS1 => ?_))
  refine J_q 4 rfl rfl rfl rfl (Q_assign rfl rfl) ?_
  refine J_nil (K_seq ?_)
  refine C_seq ?_
  refine C_draw (fun w' => St w w' [(1, blkL g1 ([.int .i64 xR, .slice A_y x.length cap_y]) 47), (0, fz w (lt_ w))]) 37 mixedOrders 37 rfl (fun w2 hk2 => ?_)
  have hS2 := hS1.kp0 hk2
  refine JA_p 0 5 37 rfl rfl rfl rfl (by kernel_rfl) (by kernel_rfl) (fun _ => Q_move rfl rfl) ?_
  refine JA_p 2 7 37 rfl rfl rfl rfl (by kernel_rfl) (by kernel_rfl) (fun _ => Q_fa0 rfl rfl fo47_1) ?_
  refine JA_q 3 8 rfl rfl rfl rfl (by kernel_rfl) (by kernel_rfl) hS2 (fun _ hI => Q_ldB1 (k := 1) hI rfl rfl rfl Try.isAgg43 rfl) ?_
  refine JA_p 4 9 37 rfl rfl rfl rfl (by kernel_rfl) (by kernel_rfl) (fun _ => Q_len rfl rfl Try.underlying43) ?_
  refine JA_call 1 6 rfl rfl rfl rfl (by kernel_rfl) (T_call rfl rfl rfl Try.call75) (LLen_calls _ _ _ _ _ (h_x.kp (hS2.kept (k := 0) rfl))) ?_
  rintro _ w3 ⟨rfl, hk3⟩
  have hS3 := hS2.kp0 hk3
  refine ⟨_, rfl, (fun _ => (hS2.kp0 hk3)), ?_⟩
  refine JA_p 5 10 37 rfl rfl rfl rfl (by kernel_rfl) (by kernel_rfl) (fun _ => Q_eql rfl rfl rfl) ?_
  refine JA_p 6 11 37 rfl rfl rfl rfl (by kernel_rfl) (by kernel_rfl) (fun _ => Q_move rfl rfl) ?_
  refine JA_setT 11 rfl rfl ?_
  refine JA_p 7 12 37 rfl rfl rfl rfl (by kernel_rfl) (by kernel_rfl) (fun _ => Q_move rfl rfl) ?_
  refine JA_p 9 14 37 rfl rfl rfl rfl (by kernel_rfl) (by kernel_rfl) (fun _ => Q_fa0 rfl rfl fo47_0) ?_
  refine JA_q 10 15 rfl rfl rfl rfl (by kernel_rfl) (by kernel_rfl) hS3 (fun _ hI => Q_ldB1 (k := 1) hI rfl rfl rfl Try.isAgg3 rfl) ?_
  refine JA_call 8 13 rfl rfl rfl rfl (by kernel_rfl) (T_call rfl rfl rfl Try.call82) (LRoom_calls _ _ _ _ _ (h_x.kp (hS3.kept (k := 0) rfl))) ?_
  rintro _ w4 ⟨rfl, hk4⟩
  have hS4 := hS3.kp0 hk4
  refine ⟨_, rfl, (fun _ => (hS3.kp0 hk4)), ?_⟩
  refine JA_p 11 16 37 rfl rfl rfl rfl (by kernel_rfl) (by kernel_rfl) (fun _ => Q_eql rfl rfl rfl) ?_
  refine JA_p 12 17 37 rfl rfl rfl rfl (by kernel_rfl) (by kernel_rfl) (fun _ => Q_pickT rfl rfl rfl) ?_
  refine JA_p 13 18 37 rfl rfl rfl rfl (by kernel_rfl) (by kernel_rfl) (fun _ => Q_move rfl rfl) ?_
  refine JA_setT 18 rfl rfl ?_
  refine JA_p 14 19 37 rfl rfl rfl rfl (by kernel_rfl) (by kernel_rfl) (fun _ => Q_move rfl rfl) ?_
  refine JA_p 16 21 37 rfl rfl rfl rfl (by kernel_rfl) (by kernel_rfl) (fun _ => Q_fa0 rfl rfl fo47_1) ?_
  refine JA_q 17 22 rfl rfl rfl rfl (by kernel_rfl) (by kernel_rfl) hS4 (fun _ hI => Q_ldB1 (k := 1) hI rfl rfl rfl Try.isAgg43 rfl) ?_
  refine JA_call 15 20 rfl rfl rfl rfl (by kernel_rfl) (T_call rfl rfl rfl Try.call76) (LLast_calls _ _ _ _ _ (h_x.kp (hS4.kept (k := 0) rfl))) ?_
  rintro _ w5 ⟨rfl, hk5⟩
  have hS5 := hS4.kp0 hk5
  refine ⟨_, rfl, (fun _ => (hS4.kp0 hk5)), ?_⟩
  refine JA_call 18 23 rfl rfl rfl rfl (by kernel_rfl) (T_call rfl rfl rfl Try.call83) (RLast_calls _ _ x (hS5.rd 0 rfl hF_y)) ?_
  rintro _ w6 ⟨rfl, hk6⟩
  have hS6 := hS5.kp0 hk6
  refine ⟨_, rfl, (fun _ => (hS5.kp0 hk6)), ?_⟩
  refine JA_p 19 24 37 rfl rfl rfl rfl (by kernel_rfl) (by kernel_rfl) (fun _ => Q_toB (c' := true) (Q_eql rfl rfl rfl) (by simp)) ?_
  refine JA_p 20 25 37 rfl rfl rfl rfl (by kernel_rfl) (by kernel_rfl) (fun _ => Q_pickT rfl rfl rfl) ?_
  refine JA_p 21 26 37 rfl rfl rfl rfl (by kernel_rfl) (by kernel_rfl) (fun _ => Q_move rfl rfl) ?_
  refine JA_p 22 27 37 rfl rfl rfl rfl (by kernel_rfl) (by kernel_rfl) (fun _ => Q_move rfl rfl) ?_
  refine JA_p 24 29 37 rfl rfl rfl rfl (by kernel_rfl) (by kernel_rfl) (fun _ => Q_fa0 rfl rfl fo47_1) ?_
  refine JA_q 25 30 rfl rfl rfl rfl (by kernel_rfl) (by kernel_rfl) hS6 (fun _ hI => Q_ldB1 (k := 1) hI rfl rfl rfl Try.isAgg43 rfl) ?_
  refine JA_call 23 28 rfl rfl rfl rfl (by kernel_rfl) (T_call rfl rfl rfl Try.call50) (LClock_calls _ _ _ _ _ (h_x.kp (hS6.kept (k := 0) rfl))) ?_
  rintro _ w7 ⟨vv7_0, rfl, hk7, hr7_0⟩
  have hS7 := hS6.call hk7 2
  obtain ⟨A7_0, cap7_0, rfl, hc7_0, hm7_0⟩ := hr7_0.slice
  refine ⟨_, rfl, (fun _ => (hS6.kp0 hk7)), ?_⟩
  refine JA_call 26 31 rfl rfl rfl rfl (by kernel_rfl) (T_call rfl rfl rfl Try.call38) (RClock_calls _ _ x (hS7.rd 0 rfl hF_y)) ?_
  rintro _ w8 ⟨vv8_0, rfl, hk8, hr8_0⟩
  have hS8 := hS7.call hk8 3
  obtain ⟨A8_0, cap8_0, rfl, hc8_0, hm8_0⟩ := hr8_0.slice
  refine ⟨_, rfl, (fun _ => ((hS7.kp0 hk8).pick [1, 0] ⟨rfl, rfl, rfl, rfl, trivial⟩)), ?_⟩
  refine JA_call 27 32 rfl rfl rfl rfl (by kernel_rfl) (T_call rfl rfl rfl Try.call51) (RSame_calls _ _ (clockR x) (hS8.rd 2 rfl hr7_0) _ (clockR x) (hS8.rd 3 rfl hr8_0)) ?_
  rintro _ w9 ⟨rfl, hk9⟩
  have hS9 := hS8.kp0 hk9
  refine ⟨_, rfl, (fun _ => ((hS8.kp0 hk9).pick [1, 0] ⟨rfl, rfl, rfl, rfl, trivial⟩)), ?_⟩
  refine JA_p 28 33 37 rfl rfl rfl rfl (by kernel_rfl) (by kernel_rfl) (fun _ => Q_pickT rfl rfl rfl) ?_
  refine JA_p 29 34 37 rfl rfl rfl rfl (by kernel_rfl) (by kernel_rfl) (fun _ => Q_move rfl rfl) ?_
  refine JA_setT 34 rfl rfl ?_
  refine JA_p 30 35 37 rfl rfl rfl rfl (by kernel_rfl) (by kernel_rfl) (fun _ => Q_move rfl rfl) ?_
  refine JA_p 32 37 37 rfl rfl rfl rfl (by kernel_rfl) (by kernel_rfl) (fun _ => Q_fa0 rfl rfl fo47_1) ?_
  refine JA_q 33 38 rfl rfl rfl rfl (by kernel_rfl) (by kernel_rfl) (hS9.pick [1, 0] ⟨rfl, rfl, rfl, rfl, trivial⟩) (fun _ hI => Q_ldB1 (k := 1) hI rfl rfl rfl Try.isAgg43 rfl) ?_
  refine JA_call 31 36 rfl rfl rfl rfl (by kernel_rfl) (T_call rfl rfl rfl Try.call36) (LAll_calls _ _ _ _ _ (h_x.kp (hS9.kept (k := 0) rfl))) ?_
  rintro _ w10 ⟨vv10_0, rfl, hk10, hr10_0⟩
  have hS10 := hS9.call hk10 4
  obtain ⟨A10_0, cap10_0, rfl, hc10_0, hm10_0⟩ := hr10_0.slice
  refine ⟨_, rfl, (fun _ => ((hS9.kp0 hk10).pick [1, 0] ⟨rfl, rfl, rfl, rfl, trivial⟩)), ?_⟩
  refine JA_call 34 39 rfl rfl rfl rfl (by kernel_rfl) (T_call rfl rfl rfl Try.call44) (SameAll_calls _ _ (x) (hS10.rd 4 rfl hr10_0) _ x (hS10.rd 0 rfl hF_y)) ?_
  rintro _ w11 ⟨rfl, hk11⟩
  have hS11 := hS10.kp0 hk11
  refine ⟨_, rfl, (fun _ => ((hS10.kp0 hk11).pick [1, 0] ⟨rfl, rfl, rfl, rfl, trivial⟩)), ?_⟩
  refine JA_p 35 40 37 rfl rfl rfl rfl (by kernel_rfl) (by kernel_rfl) (fun _ => Q_pickT rfl rfl rfl) ?_
  refine JA_p 36 4 37 rfl rfl rfl rfl (by kernel_rfl) (by kernel_rfl) (fun _ => Q_assign rfl rfl) ?_
  refine JA_end (by kernel_rfl) (K_seq ?_)
  refine C_ret (body_ret (res1 rfl rfl) ?_)
  exact ⟨congrArg Ending.returned (eqB (decide_eq_true rfl)), hS11.kept (k := 0) rfl⟩

theorem Lfilled_calls (w : World) (room : Int) (v_l : Value) (l : List Change) (h_l : (tSl tCh).rd w [v_l] l) (hr : 1 ≤ room ∧ room ≤ 4096) :
    Calls Try.prog 23 #[.int .i64 room, v_l] w fun e w' => ∃ g F v, e = .returned (.tuple #[.pointer (some ⟨g, 0, none⟩), .agg #[.int .i64 room, v]]) ∧ Kp no w w' ∧ (∀ b, F b → nw w w' b) ∧ LogAt w' F g room (addAll room l) ∧ ∃ G, (∀ b, G b → nw w w' b) ∧ (∀ b, F b → G b → False) ∧ RdF (tSl tCh) w' G [v] (addAll room l) := by
  have hS0 := St.start w
  have hF_l := RdF.of_rd h_l
  obtain ⟨A_l, cap_l, rfl, hc_l, hm_l⟩ := hF_l.slice
  refine fn_calls' 40 (args := [_, _]) Try.func23 rfl rfl rfl ?_
  refine C_seq ?_
  refine C_region ?_
  refine J_q 4 rfl rfl rfl rfl (Q_assign rfl rfl) ?_
  refine J_do 5 rfl rfl rfl rfl (D_alloc 1 hS0 rfl Try.zeroValue47 (fun g1 w1 hS1 => ?_))
  refine J_nil (K_seq ?_)
  refine C_seq ?_
  refine C_region ?_
  refine J_q 11 rfl rfl rfl rfl (Q_move rfl rfl) ?_
  refine J_call 12 rfl rfl rfl rfl (T_call rfl rfl rfl Try.call35) (LNew_calls _ room (by omega)) ?_
  rintro _ w2 ⟨gL2, FL2, rfl, hk2, hFL2, hLL2⟩
  have hS2 := hS1.new hk2 2 (logE FL2 gL2 room []) hLL2 hFL2
  refine ⟨_, rfl, ?_⟩
  refine J_q 10 rfl rfl rfl rfl (Q_move rfl rfl) ?_
  refine J_q 13 rfl rfl rfl rfl (Q_extract rfl rfl rfl) ?_
  refine J_q 14 rfl rfl rfl rfl (Q_extract rfl rfl rfl) ?_
  refine J_q 6 rfl rfl rfl rfl (Q_assign rfl rfl) ?_
  refine J_q 7 rfl rfl rfl rfl (Q_assign rfl rfl) ?_
  refine J_nil (K_seq ?_)
  refine C_seq ?_
  refine C_region ?_
  refine J_q 15 rfl rfl rfl rfl (Q_move rfl rfl) ?_
  refine J_q 16 rfl rfl rfl rfl (Q_bld (v := .agg ([.int .i64 room, .slice none 0 0]).toArray) (ps := [(0, .tmp 15)]) rfl rfl (fun _ => by kernel_rfl)) ?_
  refine J_do 8 rfl rfl rfl rfl (D_alloc 3 hS2 rfl Try.zeroValue47 (fun g3 w3 hS3 => ?_))
  refine J_do0 rfl rfl rfl rfl (D_store' (k := 3) hS3 rfl rfl rfl rfl Try.sizeOf47 rfl rfl rfl (fun w4 hS4 => ?_))
  refine J_nil (K_seq ?_)
  refine C_seq ?_
  refine C_seq ?_
  refine C_region ?_
  refine J_q 9 rfl rfl rfl rfl (Q_assign rfl rfl) ?_
  refine J_nil (K_seq ?_)
  refine C_block ?_
  have hS5 := hS4.none 5
  refine C_loop3 (fun (i : Int) (lv : LgV) (yl : Rg Change) => (l.length - i).toNat) (fun (i : Int) (lv : LgV) (yl : Rg Change) => [(0, .int .i64 room), (1, .slice A_l l.length cap_l), (4, .pointer none), (5, .pointer (some (⟨g1, 0, none⟩ : Addr))), (11, .int .i64 room), (12, .tuple #[.pointer (some (⟨gL2, 0, none⟩ : Addr)), .int .i64 0]), (10, .tuple #[.pointer (some (⟨gL2, 0, none⟩ : Addr)), .int .i64 0]), (13, .pointer (some (⟨gL2, 0, none⟩ : Addr))), (14, .int .i64 0), (6, .pointer (some (⟨gL2, 0, none⟩ : Addr))), (15, .int .i64 room), (16, .agg ([.int .i64 room, .slice none 0 0]).toArray), (8, .pointer (some (⟨g3, 0, none⟩ : Addr))), (9, .int .i64 i)]) (fun (i : Int) (lv : LgV) (yl : Rg Change) w' => (0 ≤ i) ∧ (i ≤ l.length) ∧ (lv.l = addAll room (tk l i)) ∧ (yl.l = addAll room (tk l i)) ∧ (RdF (tSl tCh) yl.W yl.F [.slice yl.A yl.l.length yl.c] yl.l) ∧ St w w' [(5, fz yl.W yl.F), (3, blkL g3 ([.int .i64 room, .slice yl.A yl.l.length yl.c]) 47), (2, logE lv.F gL2 room lv.l), (1, blkL g1 ([.int .i64 0, .slice none 0 0]) 47), (0, fz w (lt_ w))]) 0 (⟨FL2, []⟩) (⟨none, 0, [], w4, no⟩) ⟨(by first | omega | (exact addAll_zero.symm)), (by first | omega | (exact addAll_zero.symm)), (by first | omega | (exact addAll_zero.symm)), (by first | omega | (exact addAll_zero.symm)), (fun u _ => rdNil tCh u), hS5⟩ ⟨rfl, rfl, rfl, rfl, rfl, rfl, rfl, rfl, rfl, rfl, rfl, rfl, rfl, rfl, trivial⟩ ?_
  rintro i lv yl w6 ⟨h0, h1, hn1, hn2, hG_yl, hS6⟩
  have hyl : yl.l = lv.l := hn2.trans hn1.symm
  have hyl2 := congrArg List.length hyl
  have hlf := LogAt.f (hS6.get (k := 2) rfl)
  refine C_seq ?_
  refine C_seq ?_
  refine C_region ?_
  refine J_q 17 rfl rfl rfl rfl (Q_move rfl rfl) ?_
  refine J_q 18 rfl rfl rfl rfl (Q_move rfl rfl) ?_
  refine J_q 19 rfl rfl rfl rfl (Q_len rfl rfl Try.underlying43) ?_
  refine J_q 20 rfl rfl rfl rfl (Q_lss rfl rfl rfl) ?_
  refine J_nil (K_seq ?_)
  refine C_if rfl (fun h7 => ?_) (fun h7 => ?_)
  · refine C_skip (K_seq ?_)
    refine C_seq ?_
    refine C_block ?_
    refine C_seq ?_
    refine C_region ?_
    refine J_q 23 rfl rfl rfl rfl (Q_move rfl rfl) ?_
    refine J_q 24 rfl rfl rfl rfl (Q_move rfl rfl) ?_
    refine J_q 25 rfl rfl rfl rfl (Q_move rfl rfl) ?_
    obtain ⟨ad8, es8, hA8, hr8, hc8⟩ := RdF.nth hF_l i (by omega) (by omega)
    obtain ⟨A8, cap8, rfl, hd8, ho8⟩ := openCh hr8
    have hln8 := RdF.lens hd8
    have hsq8 := ho8.seq
    refine J_q 26 rfl rfl rfl rfl (Q_iaE hA8 rfl rfl rfl Try.underlying43 Try.sizeOf55 (by omega) (by omega)) ?_
    refine J_q 27 rfl rfl rfl rfl (Q_ldCK' (chL (nth l i) A8 cap8) (hc8 _ (hS6.get (k := 0) rfl)) rfl rfl Try.isAgg55 Try.sizeOf55 rfl rfl) ?_
    refine J_call 28 rfl rfl rfl rfl (T_call rfl rfl rfl Try.call25) (LAdd_calls _ lv.F gL2 room lv.l (hS6.get (k := 2) rfl) _ (nth l i) _ (hS6.rdF 0 rfl hr8) (fun b hb => ⟨hS6.fpLt (k := 0) rfl b hb, fun h => hS6.disj (k := 0) (j := 2) rfl rfl rfl b hb h⟩)) ?_
    rintro _ w9 ⟨rfl, hk9, FN9, hFN9, hLN9⟩
    have hS9 := hS6.upd (k := 2) (e' := logE FN9 gL2 room (if whyR lv.l room (nth l i) = 0 then putC lv.l (nth l i) else lv.l)) rfl hk9 hLN9 hFN9
    refine ⟨_, rfl, ?_⟩
    refine J_nil (K_seq ?_)
    refine C_draw (fun w' => St w w' [(5, fz yl.W yl.F), (3, blkL g3 ([.int .i64 room, .slice yl.A yl.l.length yl.c]) 47), (1, blkL g1 ([.int .i64 0, .slice none 0 0]) 47), (0, fz w (lt_ w))]) 9 mixedOrders 10 rfl (fun w10 hk10 => ?_)
    have hS10 := hS9.kp0 hk10
    refine JA_q 0 30 rfl rfl rfl rfl (by kernel_rfl) (by kernel_rfl) (hS10.pick [5, 3, 1, 0] ⟨rfl, rfl, rfl, rfl, rfl, rfl, rfl, rfl, trivial⟩) (fun _ hI => Q_ldBK' (k := 3) ([.int .i64 room, .slice yl.A yl.l.length yl.c]) hI rfl rfl rfl Try.isAgg47 Try.sizeOf47 rfl rfl) ?_
    refine JA_p 1 31 10 rfl rfl rfl rfl (by kernel_rfl) (by kernel_rfl) (fun _ => Q_move rfl rfl) ?_
    refine JA_p 2 32 10 rfl rfl rfl rfl (by kernel_rfl) (by kernel_rfl) (fun _ => Q_move rfl rfl) ?_
    refine JA_p 3 33 10 rfl rfl rfl rfl (by kernel_rfl) (by kernel_rfl) (fun _ => Q_iaE hA8 rfl rfl rfl Try.underlying43 Try.sizeOf55 (by omega) (by omega)) ?_
    refine JA_q 4 34 rfl rfl rfl rfl (by kernel_rfl) (by kernel_rfl) (hS10.pick [5, 3, 1, 0] ⟨rfl, rfl, rfl, rfl, rfl, rfl, rfl, rfl, trivial⟩) (fun _ hI => Q_ldCK' (chL (nth l i) A8 cap8) (hc8 _ (hI.get (k := 0) rfl)) rfl rfl Try.isAgg55 Try.sizeOf55 rfl rfl) ?_
    refine JA_call 5 35 rfl rfl rfl rfl (by kernel_rfl) (T_call rfl rfl rfl Try.call46) (RAdd_calls _ room yl.F (hS10.fpLt (k := 5) rfl) _ yl.l (hS10.rdF 5 rfl hG_yl) _ (nth l i) (hS10.rd 0 rfl hr8) (by omega)) ?_
    rintro _ w11 ⟨vy11, rfl, hk11, hry11⟩
    have hS11 := hS10.join hk11 5 rfl
    obtain ⟨Ay11, cy11, rfl, hcy11, hmy11⟩ := hry11.slice
    refine ⟨_, rfl, (fun _ => ((hS10.kp0 hk11).pick [5, 3, 1, 0] ⟨rfl, rfl, rfl, rfl, rfl, rfl, rfl, rfl, trivial⟩)), ?_⟩
    refine JA_p 6 29 10 rfl rfl rfl rfl (by kernel_rfl) (by kernel_rfl) (fun _ => Q_move rfl rfl) ?_
    refine JA_p 7 36 10 rfl rfl rfl rfl (by kernel_rfl) (by kernel_rfl) (fun _ => Q_extract rfl rfl rfl) ?_
    refine JA_p 8 37 10 rfl rfl rfl rfl (by kernel_rfl) (by kernel_rfl) (fun _ => Q_extract rfl rfl rfl) ?_
    refine JA_do0 9 rfl rfl rfl rfl (by kernel_rfl) (D_store' (k := 3) hS11 rfl rfl rfl rfl Try.sizeOf47 rfl rfl rfl (fun w12 hS12 => ⟨(fun h => nomatch h), ?_⟩))
    refine JA_end (by kernel_rfl) (N_blk (K_seq ?_))
    refine C_region ?_
    refine J_q 21 rfl rfl rfl rfl (Q_move rfl rfl) ?_
    refine J_q 22 rfl rfl rfl rfl (Q_add rfl rfl rfl (by omega) (by omega)) ?_
    refine J_q 9 rfl rfl rfl rfl (Q_assign rfl rfl) ?_
    exact J_nil (K_round3 (x0 := i) (x1 := lv) (x2 := yl) (i + 1) ⟨FN9, (if whyR lv.l room (nth l i) = 0 then putC lv.l (nth l i) else lv.l)⟩ ⟨Ay11, cy11, (if whyR yl.l room (nth l i) = 0 then putC yl.l (nth l i) else yl.l), w11, or_ yl.F (nw w10 w11)⟩ ⟨(by first | omega | (rw [addAll_snoc h0 (by omega), ← hn1]; done) | (rw [addAll_snoc h0 (by omega), ← hn2]; done)), (by first | omega | (rw [addAll_snoc h0 (by omega), ← hn1]; done) | (rw [addAll_snoc h0 (by omega), ← hn2]; done)), (by first | omega | (rw [addAll_snoc h0 (by omega), ← hn1]; done) | (rw [addAll_snoc h0 (by omega), ← hn2]; done)), (by first | omega | (rw [addAll_snoc h0 (by omega), ← hn1]; done) | (rw [addAll_snoc h0 (by omega), ← hn2]; done)), hry11, hS12⟩ (by omega) ⟨rfl, rfl, rfl, rfl, rfl, rfl, rfl, rfl, rfl, rfl, rfl, rfl, rfl, rfl, trivial⟩)
  · refine C_exit (X_then (X_then (X_hit (K_seq ?_))))
    refine C_seq ?_
    refine C_draw (fun w' => St w w' [(5, fz yl.W yl.F), (3, blkL g3 ([.int .i64 room, .slice yl.A yl.l.length yl.c]) 47), (1, blkL g1 ([.int .i64 0, .slice none 0 0]) 47), (0, fz w (lt_ w))]) 3 mixedOrders 4 rfl (fun w13 hk13 => ?_)
    have hS13 := hS6.kp0 hk13
    refine JA_p 0 38 4 rfl rfl rfl rfl (by kernel_rfl) (by kernel_rfl) (fun _ => Q_move rfl rfl) ?_
    refine JA_q 1 39 rfl rfl rfl rfl (by kernel_rfl) (by kernel_rfl) (hS13.pick [5, 3, 1, 0] ⟨rfl, rfl, rfl, rfl, rfl, rfl, rfl, rfl, trivial⟩) (fun _ hI => Q_ldBK' (k := 3) ([.int .i64 room, .slice yl.A yl.l.length yl.c]) hI rfl rfl rfl Try.isAgg47 Try.sizeOf47 rfl rfl) ?_
    refine JA_p 2 4 4 rfl rfl rfl rfl (by kernel_rfl) (by kernel_rfl) (fun _ => Q_assign rfl rfl) ?_
    refine JA_do0 3 rfl rfl rfl rfl (by kernel_rfl) (D_store' (k := 1) hS13 rfl rfl rfl rfl Try.sizeOf47 rfl rfl rfl (fun w14 hS14 => ⟨(fun h => nomatch h), ?_⟩))
    refine JA_end (by kernel_rfl) (K_seq ?_)
    refine C_ret (body_ret (resG (vs := [.pointer (some (⟨gL2, 0, none⟩ : Addr)), .agg ([.int .i64 room, .slice yl.A yl.l.length yl.c]).toArray]) rfl ⟨rT rfl, rCK ([.int .i64 room, .slice yl.A yl.l.length yl.c]) (blk_cells (k := 1) hS14 rfl) rfl Try.isAgg47 Try.sizeOf47 rfl rfl, trivial⟩) ?_)
    have hfin : lv.l = addAll room l := by rw [hn1, tk_full (by omega)]
    have hfin2 : yl.l = addAll room l := by rw [hn2, tk_full (by omega)]
    exact ⟨_, _, _, rfl, hS14.kept (k := 0) rfl, fun b hb => hS14.fresh (k := 2) rfl rfl rfl b hb, hfin ▸ (hS14.get (k := 2) rfl), _, fun b hb => hS14.fresh (k := 5) rfl rfl rfl b hb, fun b h1 h2 => hS14.disj (k := 2) (j := 5) rfl rfl rfl b h1 h2, own_eq hfin2 (hS14.rdF 5 rfl hG_yl)⟩
end Go.Proofs.Ytceeellnjckmiaa

