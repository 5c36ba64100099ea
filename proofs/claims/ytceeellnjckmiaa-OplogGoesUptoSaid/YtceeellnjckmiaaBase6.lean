/- The texts Og, Oh, Oi, Oj, Ok, Oq, merged. Proved: what their theorems say, with no condition but those written. -/
import Derived.Test.YtceeellnjckmiaaBase5
/- Printed by a program of mine (gen.py). -/
set_option linter.unusedVariables false
set_option linter.unusedSimpArgs false
set_option maxRecDepth 100000
namespace Go.Proofs.Ytceeellnjckmiaa
open Go Go.Sl
theorem Put1_calls (w : World) (F_l : Nat → Prop) (hf_l : ∀ b, F_l b → b < w.heap.size) (v_l : Value) (l : List Stamp) (h_l : RdF (tSl tSt) w F_l [v_l] l) (s : Stamp) (hs : StOk s) (hl : l.length ≤ 1073741824) :
    Calls Try.prog 80 #[v_l, .agg (stL s).toArray] w fun e w' => ∃ v0, e = .returned (v0) ∧ Kp no w w' ∧ RdF (tSl tSt) w' (or_ F_l (nw w w')) [v0] (put1 l s) := by
  have hS0 := St.start w
  have hF_l := h_l.mono hf_l
  obtain ⟨A_l, cap_l, rfl, hc_l, hm_l⟩ := h_l.slice
  refine fn_calls' 47 (args := [_, _]) Try.func80 rfl rfl rfl ?_
  refine C_seq ?_
  refine C_region ?_
  refine J_do 3 rfl rfl rfl rfl (D_box 1 hS0 rfl rfl (fun g1 w1 hS1 => ?_))
  refine J_q 4 rfl rfl rfl rfl (Q_assign rfl rfl) ?_
  refine J_nil (K_seq ?_)
  refine C_seq ?_
  refine C_seq ?_
  refine C_region ?_
  refine J_q 8 rfl rfl rfl rfl (Q_move rfl rfl) ?_
  refine J_q 9 rfl rfl rfl rfl (Q_ldBK' (k := 1) (stL s) hS1 rfl rfl rfl Try.isAgg23 Try.sizeOf23 rfl rfl) ?_
  refine J_call 10 rfl rfl rfl rfl (T_call rfl rfl rfl Try.call109) (Has_calls _ _ l (hS1.rd 0 rfl hF_l) s) ?_
  rintro _ w2 ⟨rfl, hk2⟩
  have hS2 := hS1.kp0 hk2
  refine ⟨_, rfl, ?_⟩
  refine J_nil (K_seq ?_)
  refine C_if rfl (fun h3 => ?_) (fun h3 => ?_)
  · refine C_seq ?_
    refine C_region ?_
    refine J_q 11 rfl rfl rfl rfl (Q_move rfl rfl) ?_
    refine J_q 4 rfl rfl rfl rfl (Q_assign rfl rfl) ?_
    refine J_nil (K_seq ?_)
    refine C_ret (R_then (body_ret (res1 rfl rfl) ?_))
    exact ⟨_, rfl, hS2.kept (k := 0) rfl, own_eq (by first | (rw [put1, if_pos (by assumption)]) | (rw [put1, if_neg (by assumption), ← hp.end_ (by omega), if_pos (by assumption)]) | (rw [put1, if_neg (by assumption), ← hp.end_ (by omega), if_neg (show ¬ done = true by rw [(by assumption : done = false)]; decide)])) (h_l.keepF hf_l (hS2.kept (k := 0) rfl)).inl⟩
  · refine C_skip (K_seq ?_)
    refine C_seq ?_
    refine C_region ?_
    refine J_do 12 rfl rfl rfl rfl (D_bs (e := 23) (ps := []) 2 ([]) hS2 rfl rfl (fun _ => by kernel_rfl) (fun g4 w4 hS4 => ?_))
    refine J_q 5 rfl rfl rfl rfl (Q_assign rfl rfl) ?_
    refine J_nil (K_seq ?_)
    refine C_seq ?_
    refine C_region ?_
    refine J_q 6 rfl rfl rfl rfl (Q_assign rfl rfl) ?_
    refine J_nil (K_seq ?_)
    refine C_seq ?_
    refine C_seq ?_
    refine C_region ?_
    refine J_q 7 rfl rfl rfl rfl (Q_assign rfl rfl) ?_
    refine J_nil (K_seq ?_)
    refine C_block ?_
    have hS5 := hS4.lit0 (sz := 2) 2 rfl
    refine C_loop3 (fun (i : Int) (done : Bool) (out : Row Stamp) => (l.length - i).toNat) (fun (i : Int) (done : Bool) (out : Row Stamp) => [(0, .slice A_l l.length cap_l), (1, .agg (stL s).toArray), (3, .pointer (some (⟨g1, 0, none⟩ : Addr))), (4, .slice none 0 0), (8, .slice A_l l.length cap_l), (9, .agg (stL s).toArray), (10, .bool (decide ((s ∈ l)))), (12, .slice (some ⟨g4, 0, none⟩) 0 0), (7, .int .i64 i), (6, .bool done), (5, .slice out.A out.l.length out.c)]) (fun (i : Int) (done : Bool) (out : Row Stamp) w' => (0 ≤ i) ∧ (i ≤ l.length) ∧ (PutInv (fun y => decide (less s y)) l s i done out.l) ∧ (Reps tSt w no out.l out.f) ∧ St w w' [(2, own 23 2 (.slice out.A out.l.length out.c) out.l.length out.f), (1, blkL g1 (stL s) 23), (0, fz w (lt_ w))]) 0 false (⟨some ⟨g4, 0, none⟩, 0, [], []⟩) ⟨(by first | omega | (exact PutInv.zero)), (by first | omega | (exact PutInv.zero)), (by first | omega | (exact PutInv.zero)), (Reps.nil _ _ _), hS5⟩ ⟨rfl, rfl, rfl, rfl, rfl, rfl, rfl, rfl, rfl, rfl, rfl, trivial⟩ ?_
    rintro i done out w6 ⟨h0, h1, hp, hR_out, hS6⟩
    refine C_seq ?_
    refine C_seq ?_
    refine C_region ?_
    refine J_q 13 rfl rfl rfl rfl (Q_move rfl rfl) ?_
    refine J_q 14 rfl rfl rfl rfl (Q_move rfl rfl) ?_
    refine J_q 15 rfl rfl rfl rfl (Q_len rfl rfl Try.underlying36) ?_
    refine J_q 16 rfl rfl rfl rfl (Q_lss rfl rfl rfl) ?_
    refine J_nil (K_seq ?_)
    refine C_if rfl (fun h7 => ?_) (fun h7 => ?_)
    · refine C_skip (K_seq ?_)
      refine C_seq ?_
      refine C_block ?_
      refine C_seq ?_
      refine C_seq ?_
      refine C_draw (fun w' => St w w' [(1, blkL g1 (stL s) 23), (0, fz w (lt_ w))]) 10 mixedOrders 10 rfl (fun w8 hk8 => ?_)
      have hS8 := hS6.kp0 hk8
      refine JA_p 0 19 10 rfl rfl rfl rfl (by kernel_rfl) (by kernel_rfl) (fun _ => Q_move rfl rfl) ?_
      refine JA_p 1 20 10 rfl rfl rfl rfl (by kernel_rfl) (by kernel_rfl) (fun _ => Q_not rfl rfl) ?_
      refine JA_p 2 21 10 rfl rfl rfl rfl (by kernel_rfl) (by kernel_rfl) (fun _ => Q_move rfl rfl) ?_
      refine JA_splitB 21 rfl (fun h9 => ?_) (fun h9 => ?_)
      · replace h9 : done = false := by simpa using h9
        refine JA_q 3 22 rfl rfl rfl rfl (by kernel_rfl) (by kernel_rfl) (hS8.pick [1, 0] ⟨rfl, rfl, rfl, rfl, trivial⟩) (fun _ hI => Q_ldBK' (k := 1) (stL s) hI rfl rfl rfl Try.isAgg23 Try.sizeOf23 rfl rfl) ?_
        refine JA_p 4 23 10 rfl rfl rfl rfl (by kernel_rfl) (by kernel_rfl) (fun _ => Q_move rfl rfl) ?_
        refine JA_p 5 24 10 rfl rfl rfl rfl (by kernel_rfl) (by kernel_rfl) (fun _ => Q_move rfl rfl) ?_
        obtain ⟨ad10, es10, hA10, hr10, hc10⟩ := RdF.nth hF_l i (by omega) (by omega)
        obtain ⟨rfl, ho10⟩ := openSt hr10
        refine JA_p 6 25 10 rfl rfl rfl rfl (by kernel_rfl) (by kernel_rfl) (fun _ => Q_iaE hA10 rfl rfl rfl Try.underlying36 Try.sizeOf23 (by omega) (by omega)) ?_
        refine JA_q 7 26 rfl rfl rfl rfl (by kernel_rfl) (by kernel_rfl) (hS8.pick [1, 0] ⟨rfl, rfl, rfl, rfl, trivial⟩) (fun _ hI => Q_ldCK' (stL (nth l i)) (hc10 _ (hI.get (k := 0) rfl)) rfl rfl Try.isAgg23 Try.sizeOf23 rfl rfl) ?_
        refine JA_call 8 27 rfl rfl rfl rfl (by kernel_rfl) (T_call rfl rfl rfl Try.call37) (RLess_calls _ s (nth l i)) ?_
        rintro _ w11 ⟨rfl, hk11⟩
        have hS11 := hS8.kp0 hk11
        refine ⟨_, rfl, (fun _ => (hS11.pick [1, 0] ⟨rfl, rfl, rfl, rfl, trivial⟩)), ?_⟩
        refine JA_p 9 28 10 rfl rfl rfl rfl (by kernel_rfl) (by kernel_rfl) (fun _ => Q_pickT rfl rfl rfl) ?_
        refine JA_end (by kernel_rfl) (K_seq ?_)
        refine C_if rfl (fun h12 => ?_) (fun h12 => ?_)
        · refine C_seq ?_
          refine C_region ?_
          refine J_q 29 rfl rfl rfl rfl (Q_move rfl rfl) ?_
          refine J_q 30 rfl rfl rfl rfl (Q_ldBK' (k := 1) (stL s) hS11 rfl rfl rfl Try.isAgg23 Try.sizeOf23 rfl rfl) ?_
          refine J_do 31 rfl rfl rfl rfl (D_bs (e := 23) (ps := [(0, .tmp 30)]) 3 (stL s) hS11 rfl rfl (fun _ => by kernel_rfl) (fun g13 w13 hS13 => ?_))
          refine J_do 32 rfl rfl rfl rfl (D_app1L s out.l app36 hS13 2 rfl 3 rfl rfl rfl rfl rfl rfl (by have hq := hp.len h0 h1; (try simp only [List.length_nil, List.length_append, List.length_cons]); omega) (by have hq := hp.len h0 h1; (try simp only [List.length_nil, List.length_append, List.length_cons]); omega) (fun g14 cap14 w14 hS14 => ?_))
          refine J_q 5 rfl rfl rfl rfl (Q_assign rfl rfl) ?_
          refine J_nil (K_seq ?_)
          refine C_region ?_
          refine J_q 6 rfl rfl rfl rfl (Q_assign rfl rfl) ?_
          refine J_nil (K_seq ?_)
          refine C_region ?_
          refine J_q 33 rfl rfl rfl rfl (Q_move rfl rfl) ?_
          refine J_q 34 rfl rfl rfl rfl (Q_move rfl rfl) ?_
          refine J_q 35 rfl rfl rfl rfl (Q_move rfl rfl) ?_
          refine J_q 36 rfl rfl rfl rfl (Q_iaE hA10 rfl rfl rfl Try.underlying36 Try.sizeOf23 (by omega) (by omega)) ?_
          refine J_q 37 rfl rfl rfl rfl (Q_ldCK' (stL (nth l i)) (hc10 _ (hS14.get (k := 0) rfl)) rfl rfl Try.isAgg23 Try.sizeOf23 rfl rfl) ?_
          refine J_do 38 rfl rfl rfl rfl (D_bs (e := 23) (ps := [(0, .tmp 37)]) 4 (stL (nth l i)) hS14 rfl rfl (fun _ => by kernel_rfl) (fun g15 w15 hS15 => ?_))
          refine J_do 39 rfl rfl rfl rfl (D_app1L (nth l i) (out.l ++ [s]) app36 hS15 2 rfl 4 rfl rfl rfl rfl rfl rfl (by have hq := hp.len h0 h1; (try simp only [List.length_nil, List.length_append, List.length_cons]); omega) (by have hq := hp.len h0 h1; (try simp only [List.length_nil, List.length_append, List.length_cons]); omega) (fun g16 cap16 w16 hS16 => ?_))
          refine J_q 5 rfl rfl rfl rfl (Q_assign rfl rfl) ?_
          refine J_nil (N_blk (K_seq ?_))
          refine C_region ?_
          refine J_q 17 rfl rfl rfl rfl (Q_move rfl rfl) ?_
          refine J_q 18 rfl rfl rfl rfl (Q_add rfl rfl rfl (by omega) (by omega)) ?_
          refine J_q 7 rfl rfl rfl rfl (Q_assign rfl rfl) ?_
          exact J_nil (K_round3 (x0 := i) (x1 := done) (x2 := out) (i + 1) true ⟨some ⟨g16, 0, none⟩, cap16, out.f ++ stL s ++ stL (nth l i), out.l ++ [s] ++ [(nth l i)]⟩ ⟨(by first | omega | (exact hp.put (by assumption) h0 (by omega) (decide_eq_true (by assumption))) | (exact hp.on (fun _ => decide_eq_false (by assumption)) h0 (by omega)) | (exact hp.on (fun hd => absurd (hd.symm.trans (show done = true by assumption)) (by decide)) h0 (by omega))), (by first | omega | (exact hp.put (by assumption) h0 (by omega) (decide_eq_true (by assumption))) | (exact hp.on (fun _ => decide_eq_false (by assumption)) h0 (by omega)) | (exact hp.on (fun hd => absurd (hd.symm.trans (show done = true by assumption)) (by decide)) h0 (by omega))), (by first | omega | (exact hp.put (by assumption) h0 (by omega) (decide_eq_true (by assumption))) | (exact hp.on (fun _ => decide_eq_false (by assumption)) h0 (by omega)) | (exact hp.on (fun hd => absurd (hd.symm.trans (show done = true by assumption)) (by decide)) h0 (by omega))), (Reps.snoc (Reps.snoc hR_out (mkSt (by first | assumption | exact ⟨by omega, by omega⟩))) (mkSt (by first | assumption | exact ⟨by omega, by omega⟩))), (hS16.pick [2, 1, 0] ⟨rfl, rfl, rfl, rfl, rfl, rfl, trivial⟩)⟩ (by omega) ⟨rfl, rfl, rfl, rfl, rfl, rfl, rfl, rfl, rfl, rfl, rfl, trivial⟩)
        · refine C_skip (K_seq ?_)
          refine C_region ?_
          refine J_q 33 rfl rfl rfl rfl (Q_move rfl rfl) ?_
          refine J_q 34 rfl rfl rfl rfl (Q_move rfl rfl) ?_
          refine J_q 35 rfl rfl rfl rfl (Q_move rfl rfl) ?_
          refine J_q 36 rfl rfl rfl rfl (Q_iaE hA10 rfl rfl rfl Try.underlying36 Try.sizeOf23 (by omega) (by omega)) ?_
          refine J_q 37 rfl rfl rfl rfl (Q_ldCK' (stL (nth l i)) (hc10 _ (hS11.get (k := 0) rfl)) rfl rfl Try.isAgg23 Try.sizeOf23 rfl rfl) ?_
          refine J_do 38 rfl rfl rfl rfl (D_bs (e := 23) (ps := [(0, .tmp 37)]) 5 (stL (nth l i)) hS11 rfl rfl (fun _ => by kernel_rfl) (fun g17 w17 hS17 => ?_))
          refine J_do 39 rfl rfl rfl rfl (D_app1L (nth l i) out.l app36 hS17 2 rfl 5 rfl rfl rfl rfl rfl rfl (by have hq := hp.len h0 h1; (try simp only [List.length_nil, List.length_append, List.length_cons]); omega) (by have hq := hp.len h0 h1; (try simp only [List.length_nil, List.length_append, List.length_cons]); omega) (fun g18 cap18 w18 hS18 => ?_))
          refine J_q 5 rfl rfl rfl rfl (Q_assign rfl rfl) ?_
          refine J_nil (N_blk (K_seq ?_))
          refine C_region ?_
          refine J_q 17 rfl rfl rfl rfl (Q_move rfl rfl) ?_
          refine J_q 18 rfl rfl rfl rfl (Q_add rfl rfl rfl (by omega) (by omega)) ?_
          refine J_q 7 rfl rfl rfl rfl (Q_assign rfl rfl) ?_
          exact J_nil (K_round3 (x0 := i) (x1 := done) (x2 := out) (i + 1) done ⟨some ⟨g18, 0, none⟩, cap18, out.f ++ stL (nth l i), out.l ++ [(nth l i)]⟩ ⟨(by first | omega | (exact hp.put (by assumption) h0 (by omega) (decide_eq_true (by assumption))) | (exact hp.on (fun _ => decide_eq_false (by assumption)) h0 (by omega)) | (exact hp.on (fun hd => absurd (hd.symm.trans (show done = true by assumption)) (by decide)) h0 (by omega))), (by first | omega | (exact hp.put (by assumption) h0 (by omega) (decide_eq_true (by assumption))) | (exact hp.on (fun _ => decide_eq_false (by assumption)) h0 (by omega)) | (exact hp.on (fun hd => absurd (hd.symm.trans (show done = true by assumption)) (by decide)) h0 (by omega))), (by first | omega | (exact hp.put (by assumption) h0 (by omega) (decide_eq_true (by assumption))) | (exact hp.on (fun _ => decide_eq_false (by assumption)) h0 (by omega)) | (exact hp.on (fun hd => absurd (hd.symm.trans (show done = true by assumption)) (by decide)) h0 (by omega))), (Reps.snoc hR_out (mkSt (by first | assumption | exact ⟨by omega, by omega⟩))), (hS18.pick [2, 1, 0] ⟨rfl, rfl, rfl, rfl, rfl, rfl, trivial⟩)⟩ (by omega) ⟨rfl, rfl, rfl, rfl, rfl, rfl, rfl, rfl, rfl, rfl, rfl, trivial⟩)
      · replace h9 : done = true := by simpa using h9
        refine JA_no 3 10 rfl rfl rfl (by kernel_rfl) (by kernel_rfl) (fun _ h => by cases h; rfl) ?_
        refine JA_no 4 10 rfl rfl rfl (by kernel_rfl) (by kernel_rfl) (fun _ h => by cases h; rfl) ?_
        refine JA_no 5 10 rfl rfl rfl (by kernel_rfl) (by kernel_rfl) (fun _ h => by cases h; rfl) ?_
        refine JA_no 6 10 rfl rfl rfl (by kernel_rfl) (by kernel_rfl) (fun _ h => by cases h; rfl) ?_
        refine JA_no 7 10 rfl rfl rfl (by kernel_rfl) (by kernel_rfl) (fun _ h => by cases h; rfl) ?_
        refine JA_no 8 10 rfl rfl rfl (by kernel_rfl) (by kernel_rfl) (fun _ h => by cases h; rfl) ?_
        refine JA_p 9 28 10 rfl rfl rfl rfl (by kernel_rfl) (by kernel_rfl) (fun _ => Q_pickF rfl rfl rfl) ?_
        refine JA_end (by kernel_rfl) (K_seq ?_)
        refine C_false rfl ?_
        refine C_skip (K_seq ?_)
        refine C_region ?_
        refine J_q 33 rfl rfl rfl rfl (Q_move rfl rfl) ?_
        refine J_q 34 rfl rfl rfl rfl (Q_move rfl rfl) ?_
        refine J_q 35 rfl rfl rfl rfl (Q_move rfl rfl) ?_
        obtain ⟨ad19, es19, hA19, hr19, hc19⟩ := RdF.nth hF_l i (by omega) (by omega)
        obtain ⟨rfl, ho19⟩ := openSt hr19
        refine J_q 36 rfl rfl rfl rfl (Q_iaE hA19 rfl rfl rfl Try.underlying36 Try.sizeOf23 (by omega) (by omega)) ?_
        refine J_q 37 rfl rfl rfl rfl (Q_ldCK' (stL (nth l i)) (hc19 _ (hS8.get (k := 0) rfl)) rfl rfl Try.isAgg23 Try.sizeOf23 rfl rfl) ?_
        refine J_do 38 rfl rfl rfl rfl (D_bs (e := 23) (ps := [(0, .tmp 37)]) 6 (stL (nth l i)) hS8 rfl rfl (fun _ => by kernel_rfl) (fun g20 w20 hS20 => ?_))
        refine J_do 39 rfl rfl rfl rfl (D_app1L (nth l i) out.l app36 hS20 2 rfl 6 rfl rfl rfl rfl rfl rfl (by have hq := hp.len h0 h1; (try simp only [List.length_nil, List.length_append, List.length_cons]); omega) (by have hq := hp.len h0 h1; (try simp only [List.length_nil, List.length_append, List.length_cons]); omega) (fun g21 cap21 w21 hS21 => ?_))
        refine J_q 5 rfl rfl rfl rfl (Q_assign rfl rfl) ?_
        refine J_nil (N_blk (K_seq ?_))
        refine C_region ?_
        refine J_q 17 rfl rfl rfl rfl (Q_move rfl rfl) ?_
        refine J_q 18 rfl rfl rfl rfl (Q_add rfl rfl rfl (by omega) (by omega)) ?_
        refine J_q 7 rfl rfl rfl rfl (Q_assign rfl rfl) ?_
        exact J_nil (K_round3 (x0 := i) (x1 := done) (x2 := out) (i + 1) done ⟨some ⟨g21, 0, none⟩, cap21, out.f ++ stL (nth l i), out.l ++ [(nth l i)]⟩ ⟨(by first | omega | (exact hp.put (by assumption) h0 (by omega) (decide_eq_true (by assumption))) | (exact hp.on (fun _ => decide_eq_false (by assumption)) h0 (by omega)) | (exact hp.on (fun hd => absurd (hd.symm.trans (show done = true by assumption)) (by decide)) h0 (by omega))), (by first | omega | (exact hp.put (by assumption) h0 (by omega) (decide_eq_true (by assumption))) | (exact hp.on (fun _ => decide_eq_false (by assumption)) h0 (by omega)) | (exact hp.on (fun hd => absurd (hd.symm.trans (show done = true by assumption)) (by decide)) h0 (by omega))), (by first | omega | (exact hp.put (by assumption) h0 (by omega) (decide_eq_true (by assumption))) | (exact hp.on (fun _ => decide_eq_false (by assumption)) h0 (by omega)) | (exact hp.on (fun hd => absurd (hd.symm.trans (show done = true by assumption)) (by decide)) h0 (by omega))), (Reps.snoc hR_out (mkSt (by first | assumption | exact ⟨by omega, by omega⟩))), (hS21.pick [2, 1, 0] ⟨rfl, rfl, rfl, rfl, rfl, rfl, trivial⟩)⟩ (by omega) ⟨rfl, rfl, rfl, rfl, rfl, rfl, rfl, rfl, rfl, rfl, rfl, trivial⟩)
    · refine C_exit (X_then (X_then (X_hit (K_seq ?_))))
      refine C_seq ?_
      refine C_seq ?_
      refine C_region ?_
      refine J_q 40 rfl rfl rfl rfl (Q_move rfl rfl) ?_
      refine J_q 41 rfl rfl rfl rfl (Q_not rfl rfl) ?_
      refine J_nil (K_seq ?_)
      refine C_bool rfl (fun h22 => ?_) (fun h22 => ?_)
      · replace h22 : done = false := by simpa using h22
        refine C_region ?_
        refine J_q 42 rfl rfl rfl rfl (Q_move rfl rfl) ?_
        refine J_q 43 rfl rfl rfl rfl (Q_ldBK' (k := 1) (stL s) hS6 rfl rfl rfl Try.isAgg23 Try.sizeOf23 rfl rfl) ?_
        refine J_do 44 rfl rfl rfl rfl (D_bs (e := 23) (ps := [(0, .tmp 43)]) 7 (stL s) hS6 rfl rfl (fun _ => by kernel_rfl) (fun g23 w23 hS23 => ?_))
        refine J_do 45 rfl rfl rfl rfl (D_app1L s out.l app36 hS23 2 rfl 7 rfl rfl rfl rfl rfl rfl (by have hq := hp.len h0 h1; (try simp only [List.length_nil, List.length_append, List.length_cons]); omega) (by have hq := hp.len h0 h1; (try simp only [List.length_nil, List.length_append, List.length_cons]); omega) (fun g24 cap24 w24 hS24 => ?_))
        refine J_q 5 rfl rfl rfl rfl (Q_assign rfl rfl) ?_
        refine J_nil (K_seq ?_)
        refine C_seq ?_
        refine C_region ?_
        refine J_q 46 rfl rfl rfl rfl (Q_move rfl rfl) ?_
        refine J_q 4 rfl rfl rfl rfl (Q_assign rfl rfl) ?_
        refine J_nil (K_seq ?_)
        refine C_ret (body_ret (res1 rfl rfl) ?_)
        exact ⟨_, rfl, hS24.kept (k := 0) rfl, own_eq (by first | (rw [put1, if_pos (by assumption)]) | (rw [put1, if_neg (by assumption), ← hp.end_ (by omega), if_pos (by assumption)]) | (rw [put1, if_neg (by assumption), ← hp.end_ (by omega), if_neg (show ¬ done = true by rw [(by assumption : done = false)]; decide)])) ((hS24.give (d := tSt) rfl 2 rfl rfl rfl (Reps.snoc hR_out (mkSt (by first | assumption | exact ⟨by omega, by omega⟩))) (show _ ≤ 68719476736 by have hq := hp.len h0 h1; (try simp only [List.length_nil, List.length_append, List.length_cons]); omega))).inr⟩
      · replace h22 : done = true := by simpa using h22
        refine C_skip (K_seq ?_)
        refine C_seq ?_
        refine C_region ?_
        refine J_q 46 rfl rfl rfl rfl (Q_move rfl rfl) ?_
        refine J_q 4 rfl rfl rfl rfl (Q_assign rfl rfl) ?_
        refine J_nil (K_seq ?_)
        refine C_ret (body_ret (res1 rfl rfl) ?_)
        exact ⟨_, rfl, hS6.kept (k := 0) rfl, own_eq (by first | (rw [put1, if_pos (by assumption)]) | (rw [put1, if_neg (by assumption), ← hp.end_ (by omega), if_pos (by assumption)]) | (rw [put1, if_neg (by assumption), ← hp.end_ (by omega), if_neg (show ¬ done = true by rw [(by assumption : done = false)]; decide)])) ((hS6.give (d := tSt) rfl 2 rfl rfl rfl hR_out (show _ ≤ 68719476736 by have hq := hp.len h0 h1; (try simp only [List.length_nil, List.length_append, List.length_cons]); omega))).inr⟩

theorem RNames_calls (w : World) (l_c : List Value) (c : Change) (h_c : tCh.rd w l_c c) :
    Calls Try.prog 41 #[.agg l_c.toArray] w fun e w' => ∃ v0, e = .returned (v0) ∧ Kp no w w' ∧ RdF (tSl tSt) w' (nw w w') [v0] (names5 c) := by
  have hS0 := St.start w
  have hF_c := RdF.of_rd h_c
  obtain ⟨A_c, cap_c, rfl, hd_c, ho_c⟩ := openCh hF_c
  have hln_c := RdF.lens hd_c
  have hsq_c := ho_c.seq
  refine fn_calls' 41 (args := [_]) Try.func41 rfl rfl rfl ?_
  refine C_seq ?_
  refine C_region ?_
  refine J_do 1 rfl rfl rfl rfl (D_box 1 hS0 rfl rfl (fun g1 w1 hS1 => ?_))
  refine J_q 2 rfl rfl rfl rfl (Q_assign rfl rfl) ?_
  refine J_nil (K_seq ?_)
  refine C_seq ?_
  refine C_region ?_
  refine J_q 6 rfl rfl rfl rfl (Q_fa0 rfl rfl fo55_4) ?_
  refine J_q 7 rfl rfl rfl rfl (Q_ldBK (k := 1) (stL c.node) hS1 rfl rfl rfl Try.isAgg23 Try.sizeOf23 rfl rfl) ?_
  refine J_q 8 rfl rfl rfl rfl (Q_fa0 rfl rfl fo55_5) ?_
  refine J_q 9 rfl rfl rfl rfl (Q_ldBK (k := 1) (stL c.par) hS1 rfl rfl rfl Try.isAgg23 Try.sizeOf23 rfl rfl) ?_
  refine J_q 10 rfl rfl rfl rfl (Q_fa0 rfl rfl fo55_6) ?_
  refine J_q 11 rfl rfl rfl rfl (Q_ldBK (k := 1) (stL c.aft) hS1 rfl rfl rfl Try.isAgg23 Try.sizeOf23 rfl rfl) ?_
  refine J_do 12 rfl rfl rfl rfl (D_bs (e := 23) (ps := [(0, .tmp 7), (1, .tmp 9), (2, .tmp 11)]) 2 ([.int .i64 c.node.c, .int .i64 c.node.r, .int .i64 c.par.c, .int .i64 c.par.r, .int .i64 c.aft.c, .int .i64 c.aft.r]) hS1 rfl rfl (fun _ => by kernel_rfl) (fun g2 w2 hS2 => ?_))
  refine J_q 3 rfl rfl rfl rfl (Q_assign rfl rfl) ?_
  refine J_nil (K_seq ?_)
  refine C_seq ?_
  refine C_region ?_
  refine J_do 13 rfl rfl rfl rfl (D_bs (e := 23) (ps := []) 3 ([]) hS2 rfl rfl (fun _ => by kernel_rfl) (fun g3 w3 hS3 => ?_))
  refine J_q 4 rfl rfl rfl rfl (Q_assign rfl rfl) ?_
  refine J_nil (K_seq ?_)
  refine C_seq ?_
  refine C_seq ?_
  refine C_region ?_
  refine J_q 5 rfl rfl rfl rfl (Q_assign rfl rfl) ?_
  refine J_nil (K_seq ?_)
  refine C_block ?_
  have hr4 := blk_rd (d := tSt) (xs := [c.node, c.par, c.aft]) hS3 2 rfl (Reps.snoc (Reps.snoc (Reps.snoc (Reps.nil _ w _) (mkSt (by first | exact ho_c.node | exact ho_c.par | exact ho_c.aft))) (mkSt (by first | exact ho_c.node | exact ho_c.par | exact ho_c.aft))) (mkSt (by first | exact ho_c.node | exact ho_c.par | exact ho_c.aft))) (by simp only [List.length_cons, List.length_nil]; omega)
  have hS4 := hS3.frz 2 rfl
  have hr5 := blk_rd (d := tSt) (xs := []) hS4 3 rfl (Reps.nil _ w _) (by decide)
  have hS5 := hS4.frz 3 rfl
  refine C_loop2 (fun (i : Int) (out : Rg Stamp) => (3 - i).toNat) (fun (i : Int) (out : Rg Stamp) => [(0, .agg (chL c A_c cap_c).toArray), (1, .pointer (some (⟨g1, 0, none⟩ : Addr))), (2, .slice none 0 0), (6, .pointer (some ((⟨g1, 0, none⟩ : Addr).add 5))), (7, .agg (stL c.node).toArray), (8, .pointer (some ((⟨g1, 0, none⟩ : Addr).add 7))), (9, .agg (stL c.par).toArray), (10, .pointer (some ((⟨g1, 0, none⟩ : Addr).add 9))), (11, .agg (stL c.aft).toArray), (12, .slice (some ⟨g2, 0, none⟩) 3 3), (3, .slice (some ⟨g2, 0, none⟩) 3 3), (13, .slice (some ⟨g3, 0, none⟩) 0 0), (5, .int .i64 i), (4, .slice out.A out.l.length out.c)]) (fun (i : Int) (out : Rg Stamp) w' => (0 ≤ i) ∧ (i ≤ 3) ∧ (out.l.length ≤ i) ∧ (out.l = (tk [c.node, c.par, c.aft] i).foldl (nstep c) []) ∧ (RdF (tSl tSt) out.W out.F [.slice out.A out.l.length out.c] out.l) ∧ St w w' [(3, fz out.W out.F), (2, fz w3 (· = g2)), (1, blkL g1 (chL c A_c cap_c) 55), (0, fz w (lt_ w))]) 0 (⟨some ⟨g3, 0, none⟩, 0, [], w3, (· = g3)⟩) ⟨(by first | omega | (simp; done) | (simp [tk]; done)), (by first | omega | (simp; done) | (simp [tk]; done)), (by first | omega | (simp; done) | (simp [tk]; done)), (by first | omega | (simp; done) | (simp [tk]; done)), hr5, hS5⟩ ⟨rfl, rfl, rfl, rfl, rfl, rfl, rfl, rfl, rfl, rfl, rfl, rfl, rfl, rfl, trivial⟩ ?_
  rintro i out w6 ⟨h0, h1, ho, hn, hG_out, hS6⟩
  refine C_seq ?_
  refine C_seq ?_
  refine C_region ?_
  refine J_q 14 rfl rfl rfl rfl (Q_move rfl rfl) ?_
  refine J_q 15 rfl rfl rfl rfl (Q_move rfl rfl) ?_
  refine J_q 16 rfl rfl rfl rfl (Q_toI (i' := 3) (Q_len rfl rfl Try.underlying36) (by decide)) ?_
  refine J_q 17 rfl rfl rfl rfl (Q_lss rfl rfl rfl) ?_
  refine J_nil (K_seq ?_)
  refine C_if rfl (fun h7 => ?_) (fun h7 => ?_)
  · refine C_skip (K_seq ?_)
    refine C_seq ?_
    refine C_block ?_
    refine C_seq ?_
    refine C_draw (fun w' => St w w' [(3, fz out.W out.F), (2, fz w3 (· = g2)), (1, blkL g1 (chL c A_c cap_c) 55), (0, fz w (lt_ w))]) 14 mixedOrders 14 rfl (fun w8 hk8 => ?_)
    have hS8 := hS6.kp0 hk8
    refine JA_p 0 20 14 rfl rfl rfl rfl (by kernel_rfl) (by kernel_rfl) (fun _ => Q_move rfl rfl) ?_
    refine JA_p 1 21 14 rfl rfl rfl rfl (by kernel_rfl) (by kernel_rfl) (fun _ => Q_move rfl rfl) ?_
    obtain ⟨ad9, es9, hA9, hr9, hc9⟩ := RdF.nth hr4 i (by omega) (by simp only [List.length_cons, List.length_nil]; omega)
    obtain ⟨rfl, ho9⟩ := openSt hr9
    refine JA_p 2 22 14 rfl rfl rfl rfl (by kernel_rfl) (by kernel_rfl) (fun _ => Q_iaE hA9 rfl rfl rfl Try.underlying36 Try.sizeOf23 (by omega) (by omega)) ?_
    refine JA_q 3 23 rfl rfl rfl rfl (by kernel_rfl) (by kernel_rfl) hS8 (fun _ hI => Q_ldCK' (stL (nth ([c.node, c.par, c.aft]) i)) (hc9 _ (hI.get (k := 2) rfl)) rfl rfl Try.isAgg23 Try.sizeOf23 rfl rfl) ?_
    refine JA_call 4 24 rfl rfl rfl rfl (by kernel_rfl) (T_call rfl rfl rfl Try.call79) (RRight_calls _ (nth ([c.node, c.par, c.aft]) i)) ?_
    rintro _ w10 ⟨rfl, hk10⟩
    have hS10 := hS8.kp0 hk10
    refine ⟨_, rfl, (fun _ => hS10), ?_⟩
    refine JA_p 5 25 14 rfl rfl rfl rfl (by kernel_rfl) (by kernel_rfl) (fun _ => Q_move rfl rfl) ?_
    refine JA_split 25 rfl (fun h11 => ?_) (fun h11 => ?_)
    · refine JA_p 6 26 14 rfl rfl rfl rfl (by kernel_rfl) (by kernel_rfl) (fun _ => Q_move rfl rfl) ?_
      refine JA_p 7 27 14 rfl rfl rfl rfl (by kernel_rfl) (by kernel_rfl) (fun _ => Q_move rfl rfl) ?_
      refine JA_p 8 28 14 rfl rfl rfl rfl (by kernel_rfl) (by kernel_rfl) (fun _ => Q_iaE hA9 rfl rfl rfl Try.underlying36 Try.sizeOf23 (by omega) (by omega)) ?_
      refine JA_q 9 29 rfl rfl rfl rfl (by kernel_rfl) (by kernel_rfl) hS10 (fun _ hI => Q_ldCK' (stL (nth ([c.node, c.par, c.aft]) i)) (hc9 _ (hI.get (k := 2) rfl)) rfl rfl Try.isAgg23 Try.sizeOf23 rfl rfl) ?_
      refine JA_p 10 30 14 rfl rfl rfl rfl (by kernel_rfl) (by kernel_rfl) (fun _ => Q_fa0 rfl rfl fo55_0) ?_
      refine JA_q 11 31 rfl rfl rfl rfl (by kernel_rfl) (by kernel_rfl) hS10 (fun _ hI => Q_ldBK (k := 1) (stL c.at_) hI rfl rfl rfl Try.isAgg23 Try.sizeOf23 rfl rfl) ?_
      refine JA_p 12 32 14 rfl rfl rfl rfl (by kernel_rfl) (by kernel_rfl) (fun _ => Q_neqP rfl rfl rfl pe23) ?_
      refine JA_p 13 33 14 rfl rfl rfl rfl (by kernel_rfl) (by kernel_rfl) (fun _ => Q_pickT rfl rfl rfl) ?_
      refine JA_end (by kernel_rfl) (K_seq ?_)
      refine C_ifN rfl (fun h12 => ?_) (fun h12 => ?_)
      · refine C_region ?_
        refine J_q 34 rfl rfl rfl rfl (Q_move rfl rfl) ?_
        refine J_q 35 rfl rfl rfl rfl (Q_move rfl rfl) ?_
        refine J_q 36 rfl rfl rfl rfl (Q_move rfl rfl) ?_
        refine J_q 37 rfl rfl rfl rfl (Q_iaE hA9 rfl rfl rfl Try.underlying36 Try.sizeOf23 (by omega) (by omega)) ?_
        refine J_q 38 rfl rfl rfl rfl (Q_ldCK' (stL (nth ([c.node, c.par, c.aft]) i)) (hc9 _ (hS10.get (k := 2) rfl)) rfl rfl Try.isAgg23 Try.sizeOf23 rfl rfl) ?_
        refine J_call 39 rfl rfl rfl rfl (T_call rfl rfl rfl Try.call80) (Put1_calls _ out.F (hS10.fpLt (k := 3) rfl) _ out.l (hS10.rdF 3 rfl hG_out) (nth ([c.node, c.par, c.aft]) i) (by first | assumption | omega) (by first | assumption | omega)) ?_
        rintro _ w13 ⟨vv13_0, rfl, hk13, hr13_0⟩
        have hS13 := hS10.join hk13 3 rfl
        obtain ⟨A13_0, cap13_0, rfl, hc13_0, hm13_0⟩ := hr13_0.slice
        refine ⟨_, rfl, ?_⟩
        refine J_q 4 rfl rfl rfl rfl (Q_assign rfl rfl) ?_
        refine J_nil (N_blk (K_seq ?_))
        refine C_region ?_
        refine J_q 18 rfl rfl rfl rfl (Q_move rfl rfl) ?_
        refine J_q 19 rfl rfl rfl rfl (Q_add rfl rfl rfl (by omega) (by omega)) ?_
        refine J_q 5 rfl rfl rfl rfl (Q_assign rfl rfl) ?_
        exact J_nil (K_round2 (x0 := i) (x1 := out) (i + 1) ⟨A13_0, cap13_0, (put1 out.l (nth ([c.node, c.par, c.aft]) i)), w13, or_ out.F (nw w10 w13)⟩ ⟨(by first | omega | (have hq := put1_len out.l (nth [c.node, c.par, c.aft] i); simp only; omega) | (simp only; omega) | (rw [fold_snoc h0 (by simp only [List.length_cons, List.length_nil]; omega) hn]; first | exact (nstep_yes (by assumption) (by assumption)).symm | exact (nstep_no1 (by assumption)).symm | exact (nstep_no2 (by assumption)).symm)), (by first | omega | (have hq := put1_len out.l (nth [c.node, c.par, c.aft] i); simp only; omega) | (simp only; omega) | (rw [fold_snoc h0 (by simp only [List.length_cons, List.length_nil]; omega) hn]; first | exact (nstep_yes (by assumption) (by assumption)).symm | exact (nstep_no1 (by assumption)).symm | exact (nstep_no2 (by assumption)).symm)), (by first | omega | (have hq := put1_len out.l (nth [c.node, c.par, c.aft] i); simp only; omega) | (simp only; omega) | (rw [fold_snoc h0 (by simp only [List.length_cons, List.length_nil]; omega) hn]; first | exact (nstep_yes (by assumption) (by assumption)).symm | exact (nstep_no1 (by assumption)).symm | exact (nstep_no2 (by assumption)).symm)), (by first | omega | (have hq := put1_len out.l (nth [c.node, c.par, c.aft] i); simp only; omega) | (simp only; omega) | (rw [fold_snoc h0 (by simp only [List.length_cons, List.length_nil]; omega) hn]; first | exact (nstep_yes (by assumption) (by assumption)).symm | exact (nstep_no1 (by assumption)).symm | exact (nstep_no2 (by assumption)).symm)), hr13_0, hS13⟩ (by omega) ⟨rfl, rfl, rfl, rfl, rfl, rfl, rfl, rfl, rfl, rfl, rfl, rfl, rfl, rfl, trivial⟩)
      · refine C_skip (N_blk (K_seq ?_))
        refine C_region ?_
        refine J_q 18 rfl rfl rfl rfl (Q_move rfl rfl) ?_
        refine J_q 19 rfl rfl rfl rfl (Q_add rfl rfl rfl (by omega) (by omega)) ?_
        refine J_q 5 rfl rfl rfl rfl (Q_assign rfl rfl) ?_
        exact J_nil (K_round2 (x0 := i) (x1 := out) (i + 1) ⟨out.A, out.c, out.l, out.W, out.F⟩ ⟨(by first | omega | (have hq := put1_len out.l (nth [c.node, c.par, c.aft] i); simp only; omega) | (simp only; omega) | (rw [fold_snoc h0 (by simp only [List.length_cons, List.length_nil]; omega) hn]; first | exact (nstep_yes (by assumption) (by assumption)).symm | exact (nstep_no1 (by assumption)).symm | exact (nstep_no2 (by assumption)).symm)), (by first | omega | (have hq := put1_len out.l (nth [c.node, c.par, c.aft] i); simp only; omega) | (simp only; omega) | (rw [fold_snoc h0 (by simp only [List.length_cons, List.length_nil]; omega) hn]; first | exact (nstep_yes (by assumption) (by assumption)).symm | exact (nstep_no1 (by assumption)).symm | exact (nstep_no2 (by assumption)).symm)), (by first | omega | (have hq := put1_len out.l (nth [c.node, c.par, c.aft] i); simp only; omega) | (simp only; omega) | (rw [fold_snoc h0 (by simp only [List.length_cons, List.length_nil]; omega) hn]; first | exact (nstep_yes (by assumption) (by assumption)).symm | exact (nstep_no1 (by assumption)).symm | exact (nstep_no2 (by assumption)).symm)), (by first | omega | (have hq := put1_len out.l (nth [c.node, c.par, c.aft] i); simp only; omega) | (simp only; omega) | (rw [fold_snoc h0 (by simp only [List.length_cons, List.length_nil]; omega) hn]; first | exact (nstep_yes (by assumption) (by assumption)).symm | exact (nstep_no1 (by assumption)).symm | exact (nstep_no2 (by assumption)).symm)), hG_out, hS10⟩ (by omega) ⟨rfl, rfl, rfl, rfl, rfl, rfl, rfl, rfl, rfl, rfl, rfl, rfl, rfl, rfl, trivial⟩)
    · refine JA_no 6 14 rfl rfl rfl (by kernel_rfl) (by kernel_rfl) (fun _ h => by cases h; rfl) ?_
      refine JA_no 7 14 rfl rfl rfl (by kernel_rfl) (by kernel_rfl) (fun _ h => by cases h; rfl) ?_
      refine JA_no 8 14 rfl rfl rfl (by kernel_rfl) (by kernel_rfl) (fun _ h => by cases h; rfl) ?_
      refine JA_no 9 14 rfl rfl rfl (by kernel_rfl) (by kernel_rfl) (fun _ h => by cases h; rfl) ?_
      refine JA_no 10 14 rfl rfl rfl (by kernel_rfl) (by kernel_rfl) (fun _ h => by cases h; rfl) ?_
      refine JA_no 11 14 rfl rfl rfl (by kernel_rfl) (by kernel_rfl) (fun _ h => by cases h; rfl) ?_
      refine JA_no 12 14 rfl rfl rfl (by kernel_rfl) (by kernel_rfl) (fun _ h => by cases h; rfl) ?_
      refine JA_p 13 33 14 rfl rfl rfl rfl (by kernel_rfl) (by kernel_rfl) (fun _ => Q_pickF rfl rfl rfl) ?_
      refine JA_end (by kernel_rfl) (K_seq ?_)
      refine C_false rfl ?_
      refine C_skip (N_blk (K_seq ?_))
      refine C_region ?_
      refine J_q 18 rfl rfl rfl rfl (Q_move rfl rfl) ?_
      refine J_q 19 rfl rfl rfl rfl (Q_add rfl rfl rfl (by omega) (by omega)) ?_
      refine J_q 5 rfl rfl rfl rfl (Q_assign rfl rfl) ?_
      exact J_nil (K_round2 (x0 := i) (x1 := out) (i + 1) ⟨out.A, out.c, out.l, out.W, out.F⟩ ⟨(by first | omega | (have hq := put1_len out.l (nth [c.node, c.par, c.aft] i); simp only; omega) | (simp only; omega) | (rw [fold_snoc h0 (by simp only [List.length_cons, List.length_nil]; omega) hn]; first | exact (nstep_yes (by assumption) (by assumption)).symm | exact (nstep_no1 (by assumption)).symm | exact (nstep_no2 (by assumption)).symm)), (by first | omega | (have hq := put1_len out.l (nth [c.node, c.par, c.aft] i); simp only; omega) | (simp only; omega) | (rw [fold_snoc h0 (by simp only [List.length_cons, List.length_nil]; omega) hn]; first | exact (nstep_yes (by assumption) (by assumption)).symm | exact (nstep_no1 (by assumption)).symm | exact (nstep_no2 (by assumption)).symm)), (by first | omega | (have hq := put1_len out.l (nth [c.node, c.par, c.aft] i); simp only; omega) | (simp only; omega) | (rw [fold_snoc h0 (by simp only [List.length_cons, List.length_nil]; omega) hn]; first | exact (nstep_yes (by assumption) (by assumption)).symm | exact (nstep_no1 (by assumption)).symm | exact (nstep_no2 (by assumption)).symm)), (by first | omega | (have hq := put1_len out.l (nth [c.node, c.par, c.aft] i); simp only; omega) | (simp only; omega) | (rw [fold_snoc h0 (by simp only [List.length_cons, List.length_nil]; omega) hn]; first | exact (nstep_yes (by assumption) (by assumption)).symm | exact (nstep_no1 (by assumption)).symm | exact (nstep_no2 (by assumption)).symm)), hG_out, hS10⟩ (by omega) ⟨rfl, rfl, rfl, rfl, rfl, rfl, rfl, rfl, rfl, rfl, rfl, rfl, rfl, rfl, trivial⟩)
  · refine C_exit (X_then (X_then (X_hit (K_seq ?_))))
    refine C_seq ?_
    refine C_region ?_
    refine J_q 40 rfl rfl rfl rfl (Q_move rfl rfl) ?_
    refine J_q 2 rfl rfl rfl rfl (Q_assign rfl rfl) ?_
    refine J_nil (K_seq ?_)
    refine C_ret (body_ret (res1 rfl rfl) ?_)
    exact ⟨_, rfl, hS6.kept (k := 0) rfl, own_eq (by rw [hn, tk_full (by simp only [List.length_cons, List.length_nil]; omega)]; rfl) (hS6.giveRd (d := tSt) rfl 3 rfl rfl hG_out)⟩
end Go.Proofs.Ytceeellnjckmiaa

/- Printed by a program of mine (gen.py). -/
set_option maxRecDepth 100000
namespace Go.Proofs.Ytceeellnjckmiaa
open Go Go.Sl
theorem RClock_calls (w : World) (v_l : Value) (l : List Change) (h_l : (tSl tCh).rd w [v_l] l) :
    Calls Try.prog 38 #[v_l] w fun e w' => ∃ v0, e = .returned (v0) ∧ Kp no w w' ∧ RdF (tSl tI) w' (nw w w') [v0] (clockR l) := by
  have hS0 := St.start w
  have hF_l := RdF.of_rd h_l
  obtain ⟨A_l, cap_l, rfl, hc_l, hm_l⟩ := hF_l.slice
  refine fn_calls' 37 (args := [_]) Try.func38 rfl rfl rfl ?_
  refine C_seq ?_
  refine C_region ?_
  refine J_q 2 rfl rfl rfl rfl (Q_assign rfl rfl) ?_
  refine J_nil (K_seq ?_)
  refine C_seq ?_
  refine C_region ?_
  refine J_do 6 rfl rfl rfl rfl (D_makeI 1 64 (List.replicate 64 (.int .i64 0)) app44 hS0 rfl rfl rfl (fun z hz v hv => by cases hz.symm.trans Try.type3; cases hv; kernel_rfl) (by decide) (by decide) (fun g1 w1 hS1 => ?_))
  refine J_q 3 rfl rfl rfl rfl (Q_assign rfl rfl) ?_
  refine J_nil (K_seq ?_)
  refine C_seq ?_
  refine C_seq ?_
  refine C_region ?_
  refine J_q 4 rfl rfl rfl rfl (Q_assign rfl rfl) ?_
  refine J_nil (K_seq ?_)
  refine C_block ?_
  refine C_loop2 (fun (i : Int) (out : Row Int) => (l.length - i).toNat) (fun (i : Int) (out : Row Int) => [(0, .slice A_l l.length cap_l), (2, .slice none 0 0), (6, .slice (some ⟨g1, 0, none⟩) 64 64), (3, .slice out.A 64 out.c), (4, .int .i64 i)]) (fun (i : Int) (out : Row Int) w' => (0 ≤ i) ∧ (i ≤ l.length) ∧ (out.l.length = 64) ∧ (∀ x ∈ out.l, 0 ≤ x ∧ x ≤ i) ∧ (out.l = (tk l i).foldl cstep (List.replicate 64 0)) ∧ (Reps tI w no out.l out.f) ∧ St w w' [(1, own 3 1 (.slice out.A 64 out.c) 64 out.f), (0, fz w (lt_ w))]) 0 (⟨some ⟨g1, 0, none⟩, 64, (List.replicate 64 (.int .i64 0)), (List.replicate 64 0)⟩) ⟨(by first | omega | (simp; done) | (intro x hx; have hx2 := List.eq_of_mem_replicate hx; omega) | (simp [tk]; done)), (by first | omega | (simp; done) | (intro x hx; have hx2 := List.eq_of_mem_replicate hx; omega) | (simp [tk]; done)), (by first | omega | (simp; done) | (intro x hx; have hx2 := List.eq_of_mem_replicate hx; omega) | (simp [tk]; done)), (by first | omega | (simp; done) | (intro x hx; have hx2 := List.eq_of_mem_replicate hx; omega) | (simp [tk]; done)), (by first | omega | (simp; done) | (intro x hx; have hx2 := List.eq_of_mem_replicate hx; omega) | (simp [tk]; done)), (Reps.zeros 64), hS1⟩ ⟨rfl, rfl, rfl, rfl, rfl, trivial⟩ ?_
  rintro i out w2 ⟨h0, h1, hl, hb, hn, hR_out, hS2⟩
  refine C_seq ?_
  refine C_seq ?_
  refine C_region ?_
  refine J_q 7 rfl rfl rfl rfl (Q_move rfl rfl) ?_
  refine J_q 8 rfl rfl rfl rfl (Q_move rfl rfl) ?_
  refine J_q 9 rfl rfl rfl rfl (Q_len rfl rfl Try.underlying43) ?_
  refine J_q 10 rfl rfl rfl rfl (Q_lss rfl rfl rfl) ?_
  refine J_nil (K_seq ?_)
  refine C_if rfl (fun h3 => ?_) (fun h3 => ?_)
  · refine C_skip (K_seq ?_)
    refine C_seq ?_
    refine C_block ?_
    refine C_seq ?_
    refine C_region ?_
    refine J_q 13 rfl rfl rfl rfl (Q_move rfl rfl) ?_
    refine J_q 14 rfl rfl rfl rfl (Q_move rfl rfl) ?_
    obtain ⟨ad4, es4, hA4, hr4, hc4⟩ := RdF.nth hF_l i (by omega) (by omega)
    obtain ⟨A4, cap4, rfl, hd4, ho4⟩ := openCh hr4
    have hln4 := RdF.lens hd4
    have hsq4 := ho4.seq
    refine J_q 15 rfl rfl rfl rfl (Q_iaE hA4 rfl rfl rfl Try.underlying43 Try.sizeOf55 (by omega) (by omega)) ?_
    refine J_q 16 rfl rfl rfl rfl (Q_fa0 rfl rfl fo55_0) ?_
    refine J_q 17 rfl rfl rfl rfl (Q_fa rfl rfl fo23_1 rfl) ?_
    refine J_q 18 rfl rfl rfl rfl (Q_ldC1 (hc4 _ (hS2.get (k := 0) rfl)) rfl rfl Try.isAgg3 rfl) ?_
    refine J_q 5 rfl rfl rfl rfl (Q_assign rfl rfl) ?_
    refine J_nil (K_seq ?_)
    refine C_seq ?_
    refine C_region ?_
    refine J_q 19 rfl rfl rfl rfl (Q_move rfl rfl) ?_
    refine J_q 20 rfl rfl rfl rfl (Q_geq rfl rfl rfl) ?_
    refine J_q 21 rfl rfl rfl rfl (Q_move rfl rfl) ?_
    refine J_split 21 rfl (fun h5 => ?_) (fun h5 => ?_)
    · refine J_q 22 rfl rfl rfl rfl (Q_move rfl rfl) ?_
      refine J_q 23 rfl rfl rfl rfl (Q_move rfl rfl) ?_
      refine J_q 24 rfl rfl rfl rfl (Q_len rfl rfl Try.underlying44) ?_
      refine J_q 25 rfl rfl rfl rfl (Q_lss rfl rfl rfl) ?_
      refine J_q 26 rfl rfl rfl rfl (Q_pickT rfl rfl rfl) ?_
      refine J_nil (K_seq ?_)
      refine C_if rfl (fun h6 => ?_) (fun h6 => ?_)
      · refine C_region ?_
        refine J_q 27 rfl rfl rfl rfl (Q_move rfl rfl) ?_
        refine J_q 28 rfl rfl rfl rfl (Q_move rfl rfl) ?_
        refine J_q 29 rfl rfl rfl rfl (Q_move rfl rfl) ?_
        refine J_q 30 rfl rfl rfl rfl (Q_move rfl rfl) ?_
        obtain ⟨ga7, hA7⟩ := own_addr (hS2.get (k := 1) rfl) (by omega)
        refine J_q 31 rfl rfl rfl rfl (Q_iaE hA7 rfl rfl rfl Try.underlying44 Try.sizeOf3 (by omega) (by omega)) ?_
        have hi8 := Reps.inR (i := (nth l i).at_.r) hR_out (by omega) (by omega)
        have hld8 := hb _ (nth_mem (i := (nth l i).at_.r) (by omega) (by omega))
        refine J_q 32 rfl rfl rfl rfl (Q_ldOI (k := 1) hl hS2 rfl hR_out hA7 (by omega) (by omega) rfl rfl Try.isAgg3) ?_
        refine J_q 33 rfl rfl rfl rfl (Q_add rfl rfl rfl (by omega) (by omega)) ?_
        obtain ⟨ga9, hA9⟩ := own_addr (hS2.get (k := 1) rfl) (by omega)
        refine J_q 34 rfl rfl rfl rfl (Q_iaE hA9 rfl rfl rfl Try.underlying44 Try.sizeOf3 (by omega) (by omega)) ?_
        refine J_do0 rfl rfl rfl rfl (D_setI (k := 1) out.l ((nth l i).at_.r) ((nth out.l ((nth l i).at_.r)) + 1) hl hS2 rfl hR_out hA9 (by omega) (by omega) rfl rfl rfl Try.sizeOf3 (fun w10 hS10 => ?_))
        refine J_nil (N_blk (K_seq ?_))
        refine C_region ?_
        refine J_q 11 rfl rfl rfl rfl (Q_move rfl rfl) ?_
        refine J_q 12 rfl rfl rfl rfl (Q_add rfl rfl rfl (by omega) (by omega)) ?_
        refine J_q 4 rfl rfl rfl rfl (Q_assign rfl rfl) ?_
        exact J_nil (K_round2 (x0 := i) (x1 := out) (i + 1) ⟨out.A, out.c, (out.f.set ((nth l i).at_.r).toNat (.int .i64 ((nth out.l ((nth l i).at_.r)) + 1))), (out.l.set ((nth l i).at_.r).toNat ((nth out.l ((nth l i).at_.r)) + 1))⟩ ⟨(by first | omega | (simp only [List.length_set]; omega) | (rw [fold_snoc h0 (by omega) hn]; first | exact (cstep_yes (out := out.l) (by assumption) (by omega)).symm | exact (cstep_no (out := out.l) (c := nth l i) (by omega)).symm) | (have hq := cstep_le (c := nth l i) hb; first | (rw [cstep_yes (by assumption) (by omega)] at hq; exact hq) | (rw [cstep_no (by omega)] at hq; exact hq))), (by first | omega | (simp only [List.length_set]; omega) | (rw [fold_snoc h0 (by omega) hn]; first | exact (cstep_yes (out := out.l) (by assumption) (by omega)).symm | exact (cstep_no (out := out.l) (c := nth l i) (by omega)).symm) | (have hq := cstep_le (c := nth l i) hb; first | (rw [cstep_yes (by assumption) (by omega)] at hq; exact hq) | (rw [cstep_no (by omega)] at hq; exact hq))), (by first | omega | (simp only [List.length_set]; omega) | (rw [fold_snoc h0 (by omega) hn]; first | exact (cstep_yes (out := out.l) (by assumption) (by omega)).symm | exact (cstep_no (out := out.l) (c := nth l i) (by omega)).symm) | (have hq := cstep_le (c := nth l i) hb; first | (rw [cstep_yes (by assumption) (by omega)] at hq; exact hq) | (rw [cstep_no (by omega)] at hq; exact hq))), (by first | omega | (simp only [List.length_set]; omega) | (rw [fold_snoc h0 (by omega) hn]; first | exact (cstep_yes (out := out.l) (by assumption) (by omega)).symm | exact (cstep_no (out := out.l) (c := nth l i) (by omega)).symm) | (have hq := cstep_le (c := nth l i) hb; first | (rw [cstep_yes (by assumption) (by omega)] at hq; exact hq) | (rw [cstep_no (by omega)] at hq; exact hq))), (by first | omega | (simp only [List.length_set]; omega) | (rw [fold_snoc h0 (by omega) hn]; first | exact (cstep_yes (out := out.l) (by assumption) (by omega)).symm | exact (cstep_no (out := out.l) (c := nth l i) (by omega)).symm) | (have hq := cstep_le (c := nth l i) hb; first | (rw [cstep_yes (by assumption) (by omega)] at hq; exact hq) | (rw [cstep_no (by omega)] at hq; exact hq))), (Reps.setI hR_out (by omega) (by have hq := hb _ (nth_mem (by assumption) (by omega)); omega)), hS10⟩ (by omega) ⟨rfl, rfl, rfl, rfl, rfl, trivial⟩)
      · refine C_skip (N_blk (K_seq ?_))
        refine C_region ?_
        refine J_q 11 rfl rfl rfl rfl (Q_move rfl rfl) ?_
        refine J_q 12 rfl rfl rfl rfl (Q_add rfl rfl rfl (by omega) (by omega)) ?_
        refine J_q 4 rfl rfl rfl rfl (Q_assign rfl rfl) ?_
        exact J_nil (K_round2 (x0 := i) (x1 := out) (i + 1) ⟨out.A, out.c, out.f, out.l⟩ ⟨(by first | omega | (simp only [List.length_set]; omega) | (rw [fold_snoc h0 (by omega) hn]; first | exact (cstep_yes (out := out.l) (by assumption) (by omega)).symm | exact (cstep_no (out := out.l) (c := nth l i) (by omega)).symm) | (have hq := cstep_le (c := nth l i) hb; first | (rw [cstep_yes (by assumption) (by omega)] at hq; exact hq) | (rw [cstep_no (by omega)] at hq; exact hq))), (by first | omega | (simp only [List.length_set]; omega) | (rw [fold_snoc h0 (by omega) hn]; first | exact (cstep_yes (out := out.l) (by assumption) (by omega)).symm | exact (cstep_no (out := out.l) (c := nth l i) (by omega)).symm) | (have hq := cstep_le (c := nth l i) hb; first | (rw [cstep_yes (by assumption) (by omega)] at hq; exact hq) | (rw [cstep_no (by omega)] at hq; exact hq))), (by first | omega | (simp only [List.length_set]; omega) | (rw [fold_snoc h0 (by omega) hn]; first | exact (cstep_yes (out := out.l) (by assumption) (by omega)).symm | exact (cstep_no (out := out.l) (c := nth l i) (by omega)).symm) | (have hq := cstep_le (c := nth l i) hb; first | (rw [cstep_yes (by assumption) (by omega)] at hq; exact hq) | (rw [cstep_no (by omega)] at hq; exact hq))), (by first | omega | (simp only [List.length_set]; omega) | (rw [fold_snoc h0 (by omega) hn]; first | exact (cstep_yes (out := out.l) (by assumption) (by omega)).symm | exact (cstep_no (out := out.l) (c := nth l i) (by omega)).symm) | (have hq := cstep_le (c := nth l i) hb; first | (rw [cstep_yes (by assumption) (by omega)] at hq; exact hq) | (rw [cstep_no (by omega)] at hq; exact hq))), (by first | omega | (simp only [List.length_set]; omega) | (rw [fold_snoc h0 (by omega) hn]; first | exact (cstep_yes (out := out.l) (by assumption) (by omega)).symm | exact (cstep_no (out := out.l) (c := nth l i) (by omega)).symm) | (have hq := cstep_le (c := nth l i) hb; first | (rw [cstep_yes (by assumption) (by omega)] at hq; exact hq) | (rw [cstep_no (by omega)] at hq; exact hq))), hR_out, hS2⟩ (by omega) ⟨rfl, rfl, rfl, rfl, rfl, trivial⟩)
    · refine J_no rfl rfl rfl ?_
      refine J_no rfl rfl rfl ?_
      refine J_no rfl rfl rfl ?_
      refine J_no rfl rfl rfl ?_
      refine J_q 26 rfl rfl rfl rfl (Q_pickF rfl rfl rfl) ?_
      refine J_nil (K_seq ?_)
      refine C_false rfl ?_
      refine C_skip (N_blk (K_seq ?_))
      refine C_region ?_
      refine J_q 11 rfl rfl rfl rfl (Q_move rfl rfl) ?_
      refine J_q 12 rfl rfl rfl rfl (Q_add rfl rfl rfl (by omega) (by omega)) ?_
      refine J_q 4 rfl rfl rfl rfl (Q_assign rfl rfl) ?_
      exact J_nil (K_round2 (x0 := i) (x1 := out) (i + 1) ⟨out.A, out.c, out.f, out.l⟩ ⟨(by first | omega | (simp only [List.length_set]; omega) | (rw [fold_snoc h0 (by omega) hn]; first | exact (cstep_yes (out := out.l) (by assumption) (by omega)).symm | exact (cstep_no (out := out.l) (c := nth l i) (by omega)).symm) | (have hq := cstep_le (c := nth l i) hb; first | (rw [cstep_yes (by assumption) (by omega)] at hq; exact hq) | (rw [cstep_no (by omega)] at hq; exact hq))), (by first | omega | (simp only [List.length_set]; omega) | (rw [fold_snoc h0 (by omega) hn]; first | exact (cstep_yes (out := out.l) (by assumption) (by omega)).symm | exact (cstep_no (out := out.l) (c := nth l i) (by omega)).symm) | (have hq := cstep_le (c := nth l i) hb; first | (rw [cstep_yes (by assumption) (by omega)] at hq; exact hq) | (rw [cstep_no (by omega)] at hq; exact hq))), (by first | omega | (simp only [List.length_set]; omega) | (rw [fold_snoc h0 (by omega) hn]; first | exact (cstep_yes (out := out.l) (by assumption) (by omega)).symm | exact (cstep_no (out := out.l) (c := nth l i) (by omega)).symm) | (have hq := cstep_le (c := nth l i) hb; first | (rw [cstep_yes (by assumption) (by omega)] at hq; exact hq) | (rw [cstep_no (by omega)] at hq; exact hq))), (by first | omega | (simp only [List.length_set]; omega) | (rw [fold_snoc h0 (by omega) hn]; first | exact (cstep_yes (out := out.l) (by assumption) (by omega)).symm | exact (cstep_no (out := out.l) (c := nth l i) (by omega)).symm) | (have hq := cstep_le (c := nth l i) hb; first | (rw [cstep_yes (by assumption) (by omega)] at hq; exact hq) | (rw [cstep_no (by omega)] at hq; exact hq))), (by first | omega | (simp only [List.length_set]; omega) | (rw [fold_snoc h0 (by omega) hn]; first | exact (cstep_yes (out := out.l) (by assumption) (by omega)).symm | exact (cstep_no (out := out.l) (c := nth l i) (by omega)).symm) | (have hq := cstep_le (c := nth l i) hb; first | (rw [cstep_yes (by assumption) (by omega)] at hq; exact hq) | (rw [cstep_no (by omega)] at hq; exact hq))), hR_out, hS2⟩ (by omega) ⟨rfl, rfl, rfl, rfl, rfl, trivial⟩)
  · refine C_exit (X_then (X_then (X_hit (K_seq ?_))))
    refine C_seq ?_
    refine C_region ?_
    refine J_q 35 rfl rfl rfl rfl (Q_move rfl rfl) ?_
    have hr11 := own_rd0 (d := tI) hS2 1 rfl (hl).symm hR_out (by first | omega | (simp only [List.length_nil, List.length_append, List.length_cons]; omega))
    have hS11 := hS2.frzO 1 rfl
    refine J_call 36 rfl rfl rfl rfl (T_call rfl rfl rfl Try.call78) (RTrim_calls _ _ out.l (hS11.rd 1 rfl hr11)) ?_
    rintro _ w12 ⟨vv12_0, rfl, hk12, hr12_0⟩
    have hS12 := hS11.call hk12 3
    obtain ⟨A12_0, cap12_0, rfl, hc12_0, hm12_0⟩ := hr12_0.slice
    refine ⟨_, rfl, ?_⟩
    refine J_q 2 rfl rfl rfl rfl (Q_assign rfl rfl) ?_
    refine J_nil (K_seq ?_)
    refine C_ret (body_ret (res1 rfl rfl) ?_)
    exact ⟨_, rfl, hS12.kept (k := 0) rfl, own_eq (by rw [hn, tk_full (by omega)]; rfl) (hS12.giveRd (d := tI) rfl 3 rfl rfl hr12_0)⟩
end Go.Proofs.Ytceeellnjckmiaa

/- Printed by a program of mine (gen.py). -/
set_option maxRecDepth 100000
namespace Go.Proofs.Ytceeellnjckmiaa
open Go Go.Sl
theorem behind_calls (w : World) (v_l : Value) (l : List Change) (h_l : (tSl tCh).rd w [v_l] l) (l_c : List Value) (c : Change) (h_c : tCh.rd w l_c c) :
    Calls Try.prog 87 #[v_l, .agg l_c.toArray] w fun e w' => e = .returned (.bool (decide (behindOk l c))) ∧ Kp no w w' := by
  have hS0 := St.start w
  have hF_l := RdF.of_rd h_l
  obtain ⟨A_l, cap_l, rfl, hc_l, hm_l⟩ := hF_l.slice
  have hF_c := RdF.of_rd h_c
  obtain ⟨A_c, cap_c, rfl, hd_c, ho_c⟩ := openCh hF_c
  have hln_c := RdF.lens hd_c
  have hsq_c := ho_c.seq
  refine fn_calls' 70 (args := [_, _]) Try.func87 rfl rfl rfl ?_
  refine C_seq ?_
  refine C_region ?_
  refine J_do 3 rfl rfl rfl rfl (D_box 1 hS0 rfl rfl (fun g1 w1 hS1 => ?_))
  refine J_q 4 rfl rfl rfl rfl (Q_assign rfl rfl) ?_
  refine J_nil (K_seq ?_)
  refine C_seq ?_
  refine C_seq ?_
  refine C_region ?_
  refine J_q 5 rfl rfl rfl rfl (Q_assign rfl rfl) ?_
  refine J_nil (K_seq ?_)
  refine C_block ?_
  refine C_loop1 (fun (i : Int) => (c.deps.length - i).toNat) (fun (i : Int) => [(0, .slice A_l l.length cap_l), (1, .agg (chL c A_c cap_c).toArray), (3, .pointer (some (⟨g1, 0, none⟩ : Addr))), (5, .int .i64 i)]) (fun (i : Int) w' => (0 ≤ i) ∧ (i ≤ c.deps.length) ∧ (Up i (depOk l c)) ∧ St w w' [(1, blkL g1 (chL c A_c cap_c) 55), (0, fz w (lt_ w))]) 0 ⟨(by first | omega | exact Up.zero), (by first | omega | exact Up.zero), (by first | omega | exact Up.zero), hS1⟩ ⟨rfl, rfl, rfl, rfl, trivial⟩ ?_
  rintro i w2 ⟨h0, h1, hu, hS2⟩
  refine C_seq ?_
  refine C_seq ?_
  refine C_region ?_
  refine J_q 10 rfl rfl rfl rfl (Q_move rfl rfl) ?_
  refine J_q 11 rfl rfl rfl rfl (Q_fa0 rfl rfl fo55_2) ?_
  refine J_q 12 rfl rfl rfl rfl (Q_ldB1 (k := 1) hS2 rfl rfl rfl Try.isAgg44 rfl) ?_
  refine J_q 13 rfl rfl rfl rfl (Q_len rfl rfl Try.underlying44) ?_
  refine J_q 14 rfl rfl rfl rfl (Q_lss rfl rfl rfl) ?_
  refine J_nil (K_seq ?_)
  refine C_if rfl (fun h3 => ?_) (fun h3 => ?_)
  · refine C_skip (K_seq ?_)
    refine C_seq ?_
    refine C_block ?_
    refine C_seq ?_
    refine C_seq ?_
    refine C_region ?_
    refine J_q 17 rfl rfl rfl rfl (Q_fa0 rfl rfl fo55_2) ?_
    refine J_q 18 rfl rfl rfl rfl (Q_ldB1 (k := 1) hS2 rfl rfl rfl Try.isAgg44 rfl) ?_
    refine J_q 19 rfl rfl rfl rfl (Q_move rfl rfl) ?_
    obtain ⟨ad4, es4, hA4, hr4, hc4⟩ := RdF.nth hd_c i (by omega) (by omega)
    obtain ⟨rfl, ho4⟩ := openI hr4
    refine J_q 20 rfl rfl rfl rfl (Q_iaE hA4 rfl rfl rfl Try.underlying44 Try.sizeOf3 (by omega) (by omega)) ?_
    refine J_q 21 rfl rfl rfl rfl (Q_ldC1' (hc4 _ (hS2.get (k := 0) rfl)) rfl rfl Try.isAgg3 rfl) ?_
    refine J_q 22 rfl rfl rfl rfl (Q_eql rfl rfl rfl) ?_
    refine J_nil (K_seq ?_)
    refine C_if rfl (fun h5 => ?_) (fun h5 => ?_)
    · refine C_exit (X_then (X_hit (K_seq ?_)))
      refine C_region ?_
      refine J_q 15 rfl rfl rfl rfl (Q_move rfl rfl) ?_
      refine J_q 16 rfl rfl rfl rfl (Q_add rfl rfl rfl (by omega) (by omega)) ?_
      refine J_q 5 rfl rfl rfl rfl (Q_assign rfl rfl) ?_
      exact J_nil (K_round1 (x0 := i) (i + 1) ⟨(by first | omega | (exact Up.snoc hu (show depOk l c i by omega))), (by first | omega | (exact Up.snoc hu (show depOk l c i by omega))), (by first | omega | (exact Up.snoc hu (show depOk l c i by omega))), hS2⟩ (by omega) ⟨rfl, rfl, rfl, rfl, trivial⟩)
    · refine C_skip (K_seq ?_)
      refine C_seq ?_
      refine C_region ?_
      refine J_q 23 rfl rfl rfl rfl (Q_move rfl rfl) ?_
      refine J_q 24 rfl rfl rfl rfl (Q_move rfl rfl) ?_
      refine J_q 25 rfl rfl rfl rfl (Q_fa0 rfl rfl fo55_2) ?_
      refine J_q 26 rfl rfl rfl rfl (Q_ldB1 (k := 1) hS2 rfl rfl rfl Try.isAgg44 rfl) ?_
      refine J_q 27 rfl rfl rfl rfl (Q_move rfl rfl) ?_
      refine J_q 28 rfl rfl rfl rfl (Q_iaE hA4 rfl rfl rfl Try.underlying44 Try.sizeOf3 (by omega) (by omega)) ?_
      refine J_q 29 rfl rfl rfl rfl (Q_ldC1' (hc4 _ (hS2.get (k := 0) rfl)) rfl rfl Try.isAgg3 rfl) ?_
      refine J_call 30 rfl rfl rfl rfl (T_call rfl rfl rfl Try.call34) (ROwn_calls _ _ l (hS2.rd 0 rfl hF_l) i (nth c.deps i)) ?_
      rintro _ w6 ⟨rfl, hk6⟩
      have hS6 := hS2.kp0 hk6
      have hz7 := ownAt_lt l i (nth c.deps i)
      refine ⟨_, rfl, ?_⟩
      refine J_q 6 rfl rfl rfl rfl (Q_assign rfl rfl) ?_
      refine J_nil (K_seq ?_)
      refine C_seq ?_
      refine C_draw (fun w' => St w w' [(1, blkL g1 (chL c A_c cap_c) 55), (0, fz w (lt_ w))]) 13 mixedOrders 13 rfl (fun w8 hk8 => ?_)
      have hS8 := hS6.kp0 hk8
      refine JA_p 0 31 13 rfl rfl rfl rfl (by kernel_rfl) (by kernel_rfl) (fun _ => Q_move rfl rfl) ?_
      refine JA_p 1 32 13 rfl rfl rfl rfl (by kernel_rfl) (by kernel_rfl) (fun _ => Q_lss rfl rfl rfl) ?_
      refine JA_p 2 33 13 rfl rfl rfl rfl (by kernel_rfl) (by kernel_rfl) (fun _ => Q_move rfl rfl) ?_
      refine JA_split 33 rfl (fun h9 => ?_) (fun h9 => ?_)
      · refine JA_no 3 13 rfl rfl rfl (by kernel_rfl) (by kernel_rfl) (fun _ h => by cases h; rfl) ?_
        refine JA_no 4 13 rfl rfl rfl (by kernel_rfl) (by kernel_rfl) (fun _ h => by cases h; rfl) ?_
        refine JA_no 5 13 rfl rfl rfl (by kernel_rfl) (by kernel_rfl) (fun _ h => by cases h; rfl) ?_
        refine JA_no 6 13 rfl rfl rfl (by kernel_rfl) (by kernel_rfl) (fun _ h => by cases h; rfl) ?_
        refine JA_no 7 13 rfl rfl rfl (by kernel_rfl) (by kernel_rfl) (fun _ h => by cases h; rfl) ?_
        refine JA_no 8 13 rfl rfl rfl (by kernel_rfl) (by kernel_rfl) (fun _ h => by cases h; rfl) ?_
        refine JA_no 9 13 rfl rfl rfl (by kernel_rfl) (by kernel_rfl) (fun _ h => by cases h; rfl) ?_
        refine JA_no 10 13 rfl rfl rfl (by kernel_rfl) (by kernel_rfl) (fun _ h => by cases h; rfl) ?_
        refine JA_no 11 13 rfl rfl rfl (by kernel_rfl) (by kernel_rfl) (fun _ h => by cases h; rfl) ?_
        refine JA_p 12 43 13 rfl rfl rfl rfl (by kernel_rfl) (by kernel_rfl) (fun _ => Q_pickT rfl rfl rfl) ?_
        refine JA_end (by kernel_rfl) (K_seq ?_)
        refine C_true rfl ?_
        refine C_seq ?_
        refine C_region ?_
        refine J_q 4 rfl rfl rfl rfl (Q_assign rfl rfl) ?_
        refine J_nil (K_seq ?_)
        refine C_ret (R_blk (R_then (R_then (R_blk (R_then (body_ret (res1 rfl rfl) ?_))))))
        exact ⟨congrArg Ending.returned (eqB (by first | (exact (decide_eq_true ⟨hu.full (by omega), hv.full (by omega)⟩).symm) | (refine (decide_eq_false fun hk => ?_).symm; have hk1 := hk.1 i h0 (by omega); simp only [depOk] at hk1; omega) | (refine (decide_eq_false fun hk => ?_).symm; have hk1 := hk.2 k h2 (by omega); simp only [nameIn, within] at hk1; omega))), hS8.kept (k := 0) rfl⟩
      · refine JA_p 3 34 13 rfl rfl rfl rfl (by kernel_rfl) (by kernel_rfl) (fun _ => Q_move rfl rfl) ?_
        refine JA_p 4 35 13 rfl rfl rfl rfl (by kernel_rfl) (by kernel_rfl) (fun _ => Q_move rfl rfl) ?_
        obtain ⟨ad10, es10, hA10, hr10, hc10⟩ := RdF.nth hF_l (ownAt l i (nth c.deps i)) (by omega) (by omega)
        obtain ⟨A10, cap10, rfl, hd10, ho10⟩ := openCh hr10
        have hln10 := RdF.lens hd10
        have hsq10 := ho10.seq
        refine JA_p 5 36 13 rfl rfl rfl rfl (by kernel_rfl) (by kernel_rfl) (fun _ => Q_iaE hA10 rfl rfl rfl Try.underlying43 Try.sizeOf55 (by omega) (by omega)) ?_
        refine JA_p 6 37 13 rfl rfl rfl rfl (by kernel_rfl) (by kernel_rfl) (fun _ => Q_fa0 rfl rfl fo55_0) ?_
        refine JA_q 7 38 rfl rfl rfl rfl (by kernel_rfl) (by kernel_rfl) hS8 (fun _ hI => Q_ldCK (stL ((nth l (ownAt l i (nth c.deps i))).at_)) (hc10 _ (hI.get (k := 0) rfl)) rfl rfl Try.isAgg23 Try.sizeOf23 rfl rfl) ?_
        refine JA_p 8 39 13 rfl rfl rfl rfl (by kernel_rfl) (by kernel_rfl) (fun _ => Q_fa0 rfl rfl fo55_0) ?_
        refine JA_q 9 40 rfl rfl rfl rfl (by kernel_rfl) (by kernel_rfl) hS8 (fun _ hI => Q_ldBK (k := 1) (stL c.at_) hI rfl rfl rfl Try.isAgg23 Try.sizeOf23 rfl rfl) ?_
        refine JA_call 10 41 rfl rfl rfl rfl (by kernel_rfl) (T_call rfl rfl rfl Try.call37) (RLess_calls _ ((nth l (ownAt l i (nth c.deps i))).at_) c.at_) ?_
        rintro _ w11 ⟨rfl, hk11⟩
        have hS11 := hS8.kp0 hk11
        refine ⟨_, rfl, (fun _ => hS11), ?_⟩
        refine JA_p 11 42 13 rfl rfl rfl rfl (by kernel_rfl) (by kernel_rfl) (fun _ => Q_not rfl rfl) ?_
        refine JA_p 12 43 13 rfl rfl rfl rfl (by kernel_rfl) (by kernel_rfl) (fun _ => Q_pickF rfl rfl rfl) ?_
        refine JA_end (by kernel_rfl) (K_seq ?_)
        refine C_ifN rfl (fun h12 => ?_) (fun h12 => ?_)
        · refine C_seq ?_
          refine C_region ?_
          refine J_q 4 rfl rfl rfl rfl (Q_assign rfl rfl) ?_
          refine J_nil (K_seq ?_)
          refine C_ret (R_blk (R_then (R_then (R_blk (R_then (body_ret (res1 rfl rfl) ?_))))))
          exact ⟨congrArg Ending.returned (eqB (by first | (exact (decide_eq_true ⟨hu.full (by omega), hv.full (by omega)⟩).symm) | (refine (decide_eq_false fun hk => ?_).symm; have hk1 := hk.1 i h0 (by omega); simp only [depOk] at hk1; omega) | (refine (decide_eq_false fun hk => ?_).symm; have hk1 := hk.2 k h2 (by omega); simp only [nameIn, within] at hk1; omega))), hS11.kept (k := 0) rfl⟩
        · refine C_skip (N_blk (K_seq ?_))
          refine C_region ?_
          refine J_q 15 rfl rfl rfl rfl (Q_move rfl rfl) ?_
          refine J_q 16 rfl rfl rfl rfl (Q_add rfl rfl rfl (by omega) (by omega)) ?_
          refine J_q 5 rfl rfl rfl rfl (Q_assign rfl rfl) ?_
          exact J_nil (K_round1 (x0 := i) (i + 1) ⟨(by first | omega | (exact Up.snoc hu (show depOk l c i by omega))), (by first | omega | (exact Up.snoc hu (show depOk l c i by omega))), (by first | omega | (exact Up.snoc hu (show depOk l c i by omega))), hS11⟩ (by omega) ⟨rfl, rfl, rfl, rfl, trivial⟩)
  · refine C_exit (X_then (X_then (X_hit (K_seq ?_))))
    refine C_seq ?_
    refine C_region ?_
    refine J_q 44 rfl rfl rfl rfl (Q_ldBK' (k := 1) (chL c A_c cap_c) hS2 rfl rfl rfl Try.isAgg55 Try.sizeOf55 rfl rfl) ?_
    refine J_call 45 rfl rfl rfl rfl (T_call rfl rfl rfl Try.call41) (RNames_calls _ _ c (hS2.rd 0 rfl hF_c)) ?_
    rintro _ w13 ⟨vv13_0, rfl, hk13, hr13_0⟩
    have hS13 := hS2.call hk13 2
    obtain ⟨A13_0, cap13_0, rfl, hc13_0, hm13_0⟩ := hr13_0.slice
    have hz14 := names5_len c
    refine ⟨_, rfl, ?_⟩
    refine J_q 7 rfl rfl rfl rfl (Q_assign rfl rfl) ?_
    refine J_nil (K_seq ?_)
    refine C_seq ?_
    refine C_seq ?_
    refine C_region ?_
    refine J_q 8 rfl rfl rfl rfl (Q_assign rfl rfl) ?_
    refine J_nil (K_seq ?_)
    refine C_block ?_
    refine C_loop1 (fun (k : Int) => ((names5 c).length - k).toNat) (fun (k : Int) => [(0, .slice A_l l.length cap_l), (1, .agg (chL c A_c cap_c).toArray), (3, .pointer (some (⟨g1, 0, none⟩ : Addr))), (5, .int .i64 i), (10, .int .i64 i), (11, .pointer (some ((⟨g1, 0, none⟩ : Addr).add 3))), (12, .slice A_c c.deps.length cap_c), (13, .int .i64 (c.deps.length : Int)), (14, .bool (decide (i < (c.deps.length : Int)))), (44, .agg (chL c A_c cap_c).toArray), (45, .slice A13_0 ((names5 c).length) cap13_0), (7, .slice A13_0 ((names5 c).length) cap13_0), (8, .int .i64 k)]) (fun (k : Int) w' => (0 ≤ k) ∧ (k ≤ (names5 c).length) ∧ (Up k fun k => nameIn l c (nth (names5 c) k)) ∧ St w w' [(2, fz w13 (nw w2 w13)), (1, blkL g1 (chL c A_c cap_c) 55), (0, fz w (lt_ w))]) 0 ⟨(by first | omega | exact Up.zero), (by first | omega | exact Up.zero), (by first | omega | exact Up.zero), hS13⟩ ⟨rfl, rfl, rfl, rfl, rfl, rfl, rfl, rfl, rfl, rfl, rfl, rfl, rfl, trivial⟩ ?_
    rintro k w15 ⟨h2, h3, hv, hS15⟩
    refine C_seq ?_
    refine C_seq ?_
    refine C_region ?_
    refine J_q 46 rfl rfl rfl rfl (Q_move rfl rfl) ?_
    refine J_q 47 rfl rfl rfl rfl (Q_move rfl rfl) ?_
    refine J_q 48 rfl rfl rfl rfl (Q_len rfl rfl Try.underlying36) ?_
    refine J_q 49 rfl rfl rfl rfl (Q_lss rfl rfl rfl) ?_
    refine J_nil (K_seq ?_)
    refine C_if rfl (fun h16 => ?_) (fun h16 => ?_)
    · refine C_skip (K_seq ?_)
      refine C_seq ?_
      refine C_block ?_
      refine C_seq ?_
      refine C_region ?_
      refine J_q 52 rfl rfl rfl rfl (Q_move rfl rfl) ?_
      refine J_q 53 rfl rfl rfl rfl (Q_move rfl rfl) ?_
      refine J_q 54 rfl rfl rfl rfl (Q_move rfl rfl) ?_
      obtain ⟨ad17, es17, hA17, hr17, hc17⟩ := RdF.nth hr13_0 k (by omega) (by omega)
      obtain ⟨rfl, ho17⟩ := openSt hr17
      refine J_q 55 rfl rfl rfl rfl (Q_iaE hA17 rfl rfl rfl Try.underlying36 Try.sizeOf23 (by omega) (by omega)) ?_
      refine J_q 56 rfl rfl rfl rfl (Q_ldCK' (stL (nth (names5 c) k)) (hc17 _ (hS15.get (k := 2) rfl)) rfl rfl Try.isAgg23 Try.sizeOf23 rfl rfl) ?_
      refine J_call 57 rfl rfl rfl rfl (T_call rfl rfl rfl Try.call32) (RFind_calls _ _ l (hS15.rd 0 rfl hF_l) (nth (names5 c) k)) ?_
      rintro _ w18 ⟨rfl, hk18⟩
      have hS18 := hS15.kp0 hk18
      have hz19 := findAt_lt l (nth (names5 c) k)
      refine ⟨_, rfl, ?_⟩
      refine J_q 9 rfl rfl rfl rfl (Q_assign rfl rfl) ?_
      refine J_nil (K_seq ?_)
      refine C_seq ?_
      refine C_draw (fun w' => St w w' [(2, fz w13 (nw w2 w13)), (1, blkL g1 (chL c A_c cap_c) 55), (0, fz w (lt_ w))]) 12 mixedOrders 12 rfl (fun w20 hk20 => ?_)
      have hS20 := hS18.kp0 hk20
      refine JA_p 0 58 12 rfl rfl rfl rfl (by kernel_rfl) (by kernel_rfl) (fun _ => Q_move rfl rfl) ?_
      refine JA_p 1 59 12 rfl rfl rfl rfl (by kernel_rfl) (by kernel_rfl) (fun _ => Q_lss rfl rfl rfl) ?_
      refine JA_p 2 60 12 rfl rfl rfl rfl (by kernel_rfl) (by kernel_rfl) (fun _ => Q_move rfl rfl) ?_
      refine JA_split 60 rfl (fun h21 => ?_) (fun h21 => ?_)
      · refine JA_no 3 12 rfl rfl rfl (by kernel_rfl) (by kernel_rfl) (fun _ h => by cases h; rfl) ?_
        refine JA_no 4 12 rfl rfl rfl (by kernel_rfl) (by kernel_rfl) (fun _ h => by cases h; rfl) ?_
        refine JA_no 5 12 rfl rfl rfl (by kernel_rfl) (by kernel_rfl) (fun _ h => by cases h; rfl) ?_
        refine JA_no 6 12 rfl rfl rfl (by kernel_rfl) (by kernel_rfl) (fun _ h => by cases h; rfl) ?_
        refine JA_no 7 12 rfl rfl rfl (by kernel_rfl) (by kernel_rfl) (fun _ h => by cases h; rfl) ?_
        refine JA_no 8 12 rfl rfl rfl (by kernel_rfl) (by kernel_rfl) (fun _ h => by cases h; rfl) ?_
        refine JA_no 9 12 rfl rfl rfl (by kernel_rfl) (by kernel_rfl) (fun _ h => by cases h; rfl) ?_
        refine JA_no 10 12 rfl rfl rfl (by kernel_rfl) (by kernel_rfl) (fun _ h => by cases h; rfl) ?_
        refine JA_p 11 69 12 rfl rfl rfl rfl (by kernel_rfl) (by kernel_rfl) (fun _ => Q_pickT rfl rfl rfl) ?_
        refine JA_end (by kernel_rfl) (K_seq ?_)
        refine C_true rfl ?_
        refine C_seq ?_
        refine C_region ?_
        refine J_q 4 rfl rfl rfl rfl (Q_assign rfl rfl) ?_
        refine J_nil (K_seq ?_)
        refine C_ret (R_blk (R_then (R_then (R_blk (R_then (body_ret (res1 rfl rfl) ?_))))))
        exact ⟨congrArg Ending.returned (eqB (by first | (exact (decide_eq_true ⟨hu.full (by omega), hv.full (by omega)⟩).symm) | (refine (decide_eq_false fun hk => ?_).symm; have hk1 := hk.1 i h0 (by omega); simp only [depOk] at hk1; omega) | (refine (decide_eq_false fun hk => ?_).symm; have hk1 := hk.2 k h2 (by omega); simp only [nameIn, within] at hk1; omega))), hS20.kept (k := 0) rfl⟩
      · refine JA_p 3 61 12 rfl rfl rfl rfl (by kernel_rfl) (by kernel_rfl) (fun _ => Q_move rfl rfl) ?_
        refine JA_p 4 62 12 rfl rfl rfl rfl (by kernel_rfl) (by kernel_rfl) (fun _ => Q_move rfl rfl) ?_
        obtain ⟨ad22, es22, hA22, hr22, hc22⟩ := RdF.nth hF_l (findAt l (nth (names5 c) k)) (by omega) (by omega)
        obtain ⟨A22, cap22, rfl, hd22, ho22⟩ := openCh hr22
        have hln22 := RdF.lens hd22
        have hsq22 := ho22.seq
        refine JA_p 5 63 12 rfl rfl rfl rfl (by kernel_rfl) (by kernel_rfl) (fun _ => Q_iaE hA22 rfl rfl rfl Try.underlying43 Try.sizeOf55 (by omega) (by omega)) ?_
        refine JA_q 6 64 rfl rfl rfl rfl (by kernel_rfl) (by kernel_rfl) hS20 (fun _ hI => Q_ldCK' (chL (nth l (findAt l (nth (names5 c) k))) A22 cap22) (hc22 _ (hI.get (k := 0) rfl)) rfl rfl Try.isAgg55 Try.sizeOf55 rfl rfl) ?_
        refine JA_p 7 65 12 rfl rfl rfl rfl (by kernel_rfl) (by kernel_rfl) (fun _ => Q_fa0 rfl rfl fo55_2) ?_
        refine JA_q 8 66 rfl rfl rfl rfl (by kernel_rfl) (by kernel_rfl) hS20 (fun _ hI => Q_ldB1 (k := 1) hI rfl rfl rfl Try.isAgg44 rfl) ?_
        refine JA_call 9 67 rfl rfl rfl rfl (by kernel_rfl) (T_call rfl rfl rfl Try.call74) (Within_calls _ _ _ (hS20.rd 0 rfl hr22) _ c.deps (hS20.rd 0 rfl hd_c)) ?_
        rintro _ w23 ⟨rfl, hk23⟩
        have hS23 := hS20.kp0 hk23
        refine ⟨_, rfl, (fun _ => hS23), ?_⟩
        refine JA_p 10 68 12 rfl rfl rfl rfl (by kernel_rfl) (by kernel_rfl) (fun _ => Q_not rfl rfl) ?_
        refine JA_p 11 69 12 rfl rfl rfl rfl (by kernel_rfl) (by kernel_rfl) (fun _ => Q_pickF rfl rfl rfl) ?_
        refine JA_end (by kernel_rfl) (K_seq ?_)
        refine C_ifN rfl (fun h24 => ?_) (fun h24 => ?_)
        · refine C_seq ?_
          refine C_region ?_
          refine J_q 4 rfl rfl rfl rfl (Q_assign rfl rfl) ?_
          refine J_nil (K_seq ?_)
          refine C_ret (R_blk (R_then (R_then (R_blk (R_then (body_ret (res1 rfl rfl) ?_))))))
          exact ⟨congrArg Ending.returned (eqB (by first | (exact (decide_eq_true ⟨hu.full (by omega), hv.full (by omega)⟩).symm) | (refine (decide_eq_false fun hk => ?_).symm; have hk1 := hk.1 i h0 (by omega); simp only [depOk] at hk1; omega) | (refine (decide_eq_false fun hk => ?_).symm; have hk1 := hk.2 k h2 (by omega); simp only [nameIn, within] at hk1; omega))), hS23.kept (k := 0) rfl⟩
        · refine C_skip (N_blk (K_seq ?_))
          refine C_region ?_
          refine J_q 50 rfl rfl rfl rfl (Q_move rfl rfl) ?_
          refine J_q 51 rfl rfl rfl rfl (Q_add rfl rfl rfl (by omega) (by omega)) ?_
          refine J_q 8 rfl rfl rfl rfl (Q_assign rfl rfl) ?_
          exact J_nil (K_round1 (x0 := k) (k + 1) ⟨(by first | omega | (exact Up.snoc hv (show nameIn l c (nth (names5 c) k) by omega))), (by first | omega | (exact Up.snoc hv (show nameIn l c (nth (names5 c) k) by omega))), (by first | omega | (exact Up.snoc hv (show nameIn l c (nth (names5 c) k) by omega))), hS23⟩ (by omega) ⟨rfl, rfl, rfl, rfl, rfl, rfl, rfl, rfl, rfl, rfl, rfl, rfl, rfl, trivial⟩)
    · refine C_exit (X_then (X_then (X_hit (K_seq ?_))))
      refine C_seq ?_
      refine C_region ?_
      refine J_q 4 rfl rfl rfl rfl (Q_assign rfl rfl) ?_
      refine J_nil (K_seq ?_)
      refine C_ret (body_ret (res1 rfl rfl) ?_)
      exact ⟨congrArg Ending.returned (eqB (by first | (exact (decide_eq_true ⟨hu.full (by omega), hv.full (by omega)⟩).symm) | (refine (decide_eq_false fun hk => ?_).symm; have hk1 := hk.1 i h0 (by omega); simp only [depOk] at hk1; omega) | (refine (decide_eq_false fun hk => ?_).symm; have hk1 := hk.2 k h2 (by omega); simp only [nameIn, within] at hk1; omega))), hS15.kept (k := 0) rfl⟩

theorem Why_calls (w : World) (v_l : Value) (l : List Change) (h_l : (tSl tCh).rd w [v_l] l) (room : Int) (l_c : List Value) (c : Change) (h_c : tCh.rd w l_c c) :
    Calls Try.prog 53 #[v_l, .int .i64 room, .agg l_c.toArray] w fun e w' => e = .returned (.int .i64 (whyR l room c)) ∧ Kp no w w' := by
  have hS0 := St.start w
  have hF_l := RdF.of_rd h_l
  obtain ⟨A_l, cap_l, rfl, hc_l, hm_l⟩ := hF_l.slice
  have hF_c := RdF.of_rd h_c
  obtain ⟨A_c, cap_c, rfl, hd_c, ho_c⟩ := openCh hF_c
  have hln_c := RdF.lens hd_c
  have hsq_c := ho_c.seq
  have hcl := at2_clock l c.at_.r
  refine fn_calls' 66 (args := [_, _, _]) Try.func53 rfl rfl rfl ?_
  refine C_seq ?_
  refine C_region ?_
  refine J_do 5 rfl rfl rfl rfl (D_box 1 hS0 rfl rfl (fun g1 w1 hS1 => ?_))
  refine J_q 6 rfl rfl rfl rfl (Q_assign rfl rfl) ?_
  refine J_nil (K_seq ?_)
  refine C_seq ?_
  refine C_seq ?_
  refine C_region ?_
  refine J_q 9 rfl rfl rfl rfl (Q_ldBK' (k := 1) (chL c A_c cap_c) hS1 rfl rfl rfl Try.isAgg55 Try.sizeOf55 rfl rfl) ?_
  refine J_call 10 rfl rfl rfl rfl (T_call rfl rfl rfl Try.call86) (RCheck5_calls _ _ c (hS1.rd 0 rfl hF_c)) ?_
  rintro _ w2 ⟨rfl, hk2⟩
  have hS2 := hS1.kp0 hk2
  refine ⟨_, rfl, ?_⟩
  refine J_q 11 rfl rfl rfl rfl (Q_neqN rfl rfl rfl) ?_
  refine J_nil (K_seq ?_)
  refine C_ifN rfl (fun h3 => ?_) (fun h3 => ?_)
  · refine C_seq ?_
    refine C_region ?_
    refine J_q 12 rfl rfl rfl rfl (Q_ldBK' (k := 1) (chL c A_c cap_c) hS2 rfl rfl rfl Try.isAgg55 Try.sizeOf55 rfl rfl) ?_
    refine J_call 13 rfl rfl rfl rfl (T_call rfl rfl rfl Try.call86) (RCheck5_calls _ _ c (hS2.rd 0 rfl hF_c)) ?_
    rintro _ w4 ⟨rfl, hk4⟩
    have hS4 := hS2.kp0 hk4
    refine ⟨_, rfl, ?_⟩
    refine J_q 6 rfl rfl rfl rfl (Q_assign rfl rfl) ?_
    refine J_nil (K_seq ?_)
    refine C_ret (R_then (body_ret (res1 rfl rfl) ?_))
    exact ⟨congrArg Ending.returned (eqI (by first | (exact (why_1 (by assumption)).symm) | (exact (why_2 (by assumption) ⟨by omega, by assumption⟩).symm) | (exact (why_3 (by assumption) (fun hh => by first | omega | exact absurd hh.2 (by assumption)) (by omega)).symm) | (exact (why_4 (by assumption) (by omega) (by first | omega | exact .inr (by assumption))).symm) | (exact (why_5 (by assumption) (by omega) (by omega) (by assumption) (by assumption)).symm) | (exact (why_6 (by assumption) (by omega) (by omega) (by assumption) (by assumption) (by omega)).symm) | (exact (why_0 (by assumption) (by omega) (by omega) (by assumption) (by assumption) (by omega)).symm))), hS4.kept (k := 0) rfl⟩
  · refine C_skip (K_seq ?_)
    refine C_seq ?_
    refine C_region ?_
    refine J_q 14 rfl rfl rfl rfl (Q_move rfl rfl) ?_
    refine J_q 15 rfl rfl rfl rfl (Q_fa0 rfl rfl fo55_0) ?_
    refine J_q 16 rfl rfl rfl rfl (Q_ldBK (k := 1) (stL c.at_) hS2 rfl rfl rfl Try.isAgg23 Try.sizeOf23 rfl rfl) ?_
    refine J_call 17 rfl rfl rfl rfl (T_call rfl rfl rfl Try.call32) (RFind_calls _ _ l (hS2.rd 0 rfl hF_l) c.at_) ?_
    rintro _ w5 ⟨rfl, hk5⟩
    have hS5 := hS2.kp0 hk5
    have hz6 := findAt_lt l c.at_
    refine ⟨_, rfl, ?_⟩
    refine J_q 7 rfl rfl rfl rfl (Q_assign rfl rfl) ?_
    refine J_nil (K_seq ?_)
    refine C_seq ?_
    refine C_seq ?_
    refine C_draw (fun w' => St w w' [(1, blkL g1 (chL c A_c cap_c) 55), (0, fz w (lt_ w))]) 10 mixedOrders 10 rfl (fun w7 hk7 => ?_)
    have hS7 := hS5.kp0 hk7
    refine JA_p 0 18 10 rfl rfl rfl rfl (by kernel_rfl) (by kernel_rfl) (fun _ => Q_move rfl rfl) ?_
    refine JA_p 1 19 10 rfl rfl rfl rfl (by kernel_rfl) (by kernel_rfl) (fun _ => Q_geq rfl rfl rfl) ?_
    refine JA_p 2 20 10 rfl rfl rfl rfl (by kernel_rfl) (by kernel_rfl) (fun _ => Q_move rfl rfl) ?_
    refine JA_split 20 rfl (fun h8 => ?_) (fun h8 => ?_)
    · refine JA_p 3 21 10 rfl rfl rfl rfl (by kernel_rfl) (by kernel_rfl) (fun _ => Q_move rfl rfl) ?_
      refine JA_p 4 22 10 rfl rfl rfl rfl (by kernel_rfl) (by kernel_rfl) (fun _ => Q_move rfl rfl) ?_
      obtain ⟨ad9, es9, hA9, hr9, hc9⟩ := RdF.nth hF_l (findAt l c.at_) (by omega) (by omega)
      obtain ⟨A9, cap9, rfl, hd9, ho9⟩ := openCh hr9
      have hln9 := RdF.lens hd9
      have hsq9 := ho9.seq
      refine JA_p 5 23 10 rfl rfl rfl rfl (by kernel_rfl) (by kernel_rfl) (fun _ => Q_iaE hA9 rfl rfl rfl Try.underlying43 Try.sizeOf55 (by omega) (by omega)) ?_
      refine JA_q 6 24 rfl rfl rfl rfl (by kernel_rfl) (by kernel_rfl) hS7 (fun _ hI => Q_ldCK' (chL (nth l (findAt l c.at_)) A9 cap9) (hc9 _ (hI.get (k := 0) rfl)) rfl rfl Try.isAgg55 Try.sizeOf55 rfl rfl) ?_
      refine JA_q 7 25 rfl rfl rfl rfl (by kernel_rfl) (by kernel_rfl) hS7 (fun _ hI => Q_ldBK' (k := 1) (chL c A_c cap_c) hI rfl rfl rfl Try.isAgg55 Try.sizeOf55 rfl rfl) ?_
      refine JA_call 8 26 rfl rfl rfl rfl (by kernel_rfl) (T_call rfl rfl rfl Try.call29) (RSame5_calls _ _ _ (hS7.rd 0 rfl hr9) _ c (hS7.rd 0 rfl hF_c)) ?_
      rintro _ w10 ⟨rfl, hk10⟩
      have hS10 := hS7.kp0 hk10
      refine ⟨_, rfl, (fun _ => hS10), ?_⟩
      refine JA_p 9 27 10 rfl rfl rfl rfl (by kernel_rfl) (by kernel_rfl) (fun _ => Q_pickT rfl rfl rfl) ?_
      refine JA_end (by kernel_rfl) (K_seq ?_)
      refine C_if rfl (fun h11 => ?_) (fun h11 => ?_)
      · refine C_seq ?_
        refine C_region ?_
        refine J_q 6 rfl rfl rfl rfl (Q_assign rfl rfl) ?_
        refine J_nil (K_seq ?_)
        refine C_ret (R_then (body_ret (res1 rfl rfl) ?_))
        exact ⟨congrArg Ending.returned (eqI (by first | (exact (why_1 (by assumption)).symm) | (exact (why_2 (by assumption) ⟨by omega, by assumption⟩).symm) | (exact (why_3 (by assumption) (fun hh => by first | omega | exact absurd hh.2 (by assumption)) (by omega)).symm) | (exact (why_4 (by assumption) (by omega) (by first | omega | exact .inr (by assumption))).symm) | (exact (why_5 (by assumption) (by omega) (by omega) (by assumption) (by assumption)).symm) | (exact (why_6 (by assumption) (by omega) (by omega) (by assumption) (by assumption) (by omega)).symm) | (exact (why_0 (by assumption) (by omega) (by omega) (by assumption) (by assumption) (by omega)).symm))), hS10.kept (k := 0) rfl⟩
      · refine C_skip (K_seq ?_)
        refine C_seq ?_
        refine C_seq ?_
        refine C_region ?_
        refine J_q 28 rfl rfl rfl rfl (Q_move rfl rfl) ?_
        refine J_q 29 rfl rfl rfl rfl (Q_geq rfl rfl rfl) ?_
        refine J_q 30 rfl rfl rfl rfl (Q_move rfl rfl) ?_
        refine J_setT 30 rfl h8 ?_
        refine J_no rfl rfl rfl ?_
        refine J_no rfl rfl rfl ?_
        refine J_no rfl rfl rfl ?_
        refine J_no rfl rfl rfl ?_
        refine J_no rfl rfl rfl ?_
        refine J_no rfl rfl rfl ?_
        refine J_no rfl rfl rfl ?_
        refine J_no rfl rfl rfl ?_
        refine J_q 39 rfl rfl rfl rfl (Q_pickT rfl rfl rfl) ?_
        refine J_nil (K_seq ?_)
        refine C_true rfl ?_
        refine C_seq ?_
        refine C_region ?_
        refine J_q 6 rfl rfl rfl rfl (Q_assign rfl rfl) ?_
        refine J_nil (K_seq ?_)
        refine C_ret (R_then (body_ret (res1 rfl rfl) ?_))
        exact ⟨congrArg Ending.returned (eqI (by first | (exact (why_1 (by assumption)).symm) | (exact (why_2 (by assumption) ⟨by omega, by assumption⟩).symm) | (exact (why_3 (by assumption) (fun hh => by first | omega | exact absurd hh.2 (by assumption)) (by omega)).symm) | (exact (why_4 (by assumption) (by omega) (by first | omega | exact .inr (by assumption))).symm) | (exact (why_5 (by assumption) (by omega) (by omega) (by assumption) (by assumption)).symm) | (exact (why_6 (by assumption) (by omega) (by omega) (by assumption) (by assumption) (by omega)).symm) | (exact (why_0 (by assumption) (by omega) (by omega) (by assumption) (by assumption) (by omega)).symm))), hS10.kept (k := 0) rfl⟩
    · refine JA_no 3 10 rfl rfl rfl (by kernel_rfl) (by kernel_rfl) (fun _ h => by cases h; rfl) ?_
      refine JA_no 4 10 rfl rfl rfl (by kernel_rfl) (by kernel_rfl) (fun _ h => by cases h; rfl) ?_
      refine JA_no 5 10 rfl rfl rfl (by kernel_rfl) (by kernel_rfl) (fun _ h => by cases h; rfl) ?_
      refine JA_no 6 10 rfl rfl rfl (by kernel_rfl) (by kernel_rfl) (fun _ h => by cases h; rfl) ?_
      refine JA_no 7 10 rfl rfl rfl (by kernel_rfl) (by kernel_rfl) (fun _ h => by cases h; rfl) ?_
      refine JA_no 8 10 rfl rfl rfl (by kernel_rfl) (by kernel_rfl) (fun _ h => by cases h; rfl) ?_
      refine JA_p 9 27 10 rfl rfl rfl rfl (by kernel_rfl) (by kernel_rfl) (fun _ => Q_pickF rfl rfl rfl) ?_
      refine JA_end (by kernel_rfl) (K_seq ?_)
      refine C_false rfl ?_
      refine C_skip (K_seq ?_)
      refine C_seq ?_
      refine C_seq ?_
      refine C_region ?_
      refine J_q 28 rfl rfl rfl rfl (Q_move rfl rfl) ?_
      refine J_q 29 rfl rfl rfl rfl (Q_geq rfl rfl rfl) ?_
      refine J_q 30 rfl rfl rfl rfl (Q_move rfl rfl) ?_
      refine J_setF 30 rfl h8 ?_
      refine J_q 31 rfl rfl rfl rfl (Q_move rfl rfl) ?_
      refine J_q 32 rfl rfl rfl rfl (Q_fa0 rfl rfl fo55_0) ?_
      refine J_q 33 rfl rfl rfl rfl (Q_fa rfl rfl fo23_1 rfl) ?_
      refine J_q 34 rfl rfl rfl rfl (Q_ldB1 (k := 1) hS7 rfl rfl rfl Try.isAgg3 rfl) ?_
      refine J_q 35 rfl rfl rfl rfl (Q_fa0 rfl rfl fo55_1) ?_
      refine J_q 36 rfl rfl rfl rfl (Q_ldB1 (k := 1) hS7 rfl rfl rfl Try.isAgg3 rfl) ?_
      refine J_call 37 rfl rfl rfl rfl (T_call rfl rfl rfl Try.call34) (ROwn_calls _ _ l (hS7.rd 0 rfl hF_l) c.at_.r c.seq) ?_
      rintro _ w12 ⟨rfl, hk12⟩
      have hS12 := hS7.kp0 hk12
      have hz13 := ownAt_lt l c.at_.r c.seq
      refine ⟨_, rfl, ?_⟩
      refine J_q 38 rfl rfl rfl rfl (Q_geq rfl rfl rfl) ?_
      refine J_q 39 rfl rfl rfl rfl (Q_pickF rfl rfl rfl) ?_
      refine J_nil (K_seq ?_)
      refine C_if rfl (fun h14 => ?_) (fun h14 => ?_)
      · refine C_seq ?_
        refine C_region ?_
        refine J_q 6 rfl rfl rfl rfl (Q_assign rfl rfl) ?_
        refine J_nil (K_seq ?_)
        refine C_ret (R_then (body_ret (res1 rfl rfl) ?_))
        exact ⟨congrArg Ending.returned (eqI (by first | (exact (why_1 (by assumption)).symm) | (exact (why_2 (by assumption) ⟨by omega, by assumption⟩).symm) | (exact (why_3 (by assumption) (fun hh => by first | omega | exact absurd hh.2 (by assumption)) (by omega)).symm) | (exact (why_4 (by assumption) (by omega) (by first | omega | exact .inr (by assumption))).symm) | (exact (why_5 (by assumption) (by omega) (by omega) (by assumption) (by assumption)).symm) | (exact (why_6 (by assumption) (by omega) (by omega) (by assumption) (by assumption) (by omega)).symm) | (exact (why_0 (by assumption) (by omega) (by omega) (by assumption) (by assumption) (by omega)).symm))), hS12.kept (k := 0) rfl⟩
      · refine C_skip (K_seq ?_)
        refine C_seq ?_
        refine C_region ?_
        refine J_q 40 rfl rfl rfl rfl (Q_move rfl rfl) ?_
        refine J_call 41 rfl rfl rfl rfl (T_call rfl rfl rfl Try.call38) (RClock_calls _ _ l (hS12.rd 0 rfl hF_l)) ?_
        rintro _ w15 ⟨vv15_0, rfl, hk15, hr15_0⟩
        have hS15 := hS12.call hk15 2
        obtain ⟨A15_0, cap15_0, rfl, hc15_0, hm15_0⟩ := hr15_0.slice
        refine ⟨_, rfl, ?_⟩
        refine J_q 8 rfl rfl rfl rfl (Q_assign rfl rfl) ?_
        refine J_nil (K_seq ?_)
        refine C_seq ?_
        refine C_seq ?_
        refine C_draw (fun w' => St w w' [(2, fz w15 (nw w12 w15)), (1, blkL g1 (chL c A_c cap_c) 55), (0, fz w (lt_ w))]) 16 mixedOrders 16 rfl (fun w16 hk16 => ?_)
        have hS16 := hS15.kp0 hk16
        refine JA_p 0 42 16 rfl rfl rfl rfl (by kernel_rfl) (by kernel_rfl) (fun _ => Q_fa0 rfl rfl fo55_1) ?_
        refine JA_q 1 43 rfl rfl rfl rfl (by kernel_rfl) (by kernel_rfl) hS16 (fun _ hI => Q_ldB1 (k := 1) hI rfl rfl rfl Try.isAgg3 rfl) ?_
        refine JA_p 2 44 16 rfl rfl rfl rfl (by kernel_rfl) (by kernel_rfl) (fun _ => Q_move rfl rfl) ?_
        refine JA_p 3 45 16 rfl rfl rfl rfl (by kernel_rfl) (by kernel_rfl) (fun _ => Q_fa0 rfl rfl fo55_0) ?_
        refine JA_p 4 46 16 rfl rfl rfl rfl (by kernel_rfl) (by kernel_rfl) (fun _ => Q_fa rfl rfl fo23_1 rfl) ?_
        refine JA_q 5 47 rfl rfl rfl rfl (by kernel_rfl) (by kernel_rfl) hS16 (fun _ hI => Q_ldB1 (k := 1) hI rfl rfl rfl Try.isAgg3 rfl) ?_
        refine JA_call 6 48 rfl rfl rfl rfl (by kernel_rfl) (T_call rfl rfl rfl Try.call40) (RAt_calls _ _ (clockR l) (hS16.rd 2 rfl hr15_0) c.at_.r) ?_
        rintro _ w17 ⟨rfl, hk17⟩
        have hS17 := hS16.kp0 hk17
        refine ⟨_, rfl, (fun _ => hS17), ?_⟩
        refine JA_p 7 49 16 rfl rfl rfl rfl (by kernel_rfl) (by kernel_rfl) (fun _ => Q_add rfl rfl rfl (by omega) (by omega)) ?_
        refine JA_p 8 50 16 rfl rfl rfl rfl (by kernel_rfl) (by kernel_rfl) (fun _ => Q_neqN rfl rfl rfl) ?_
        refine JA_p 9 51 16 rfl rfl rfl rfl (by kernel_rfl) (by kernel_rfl) (fun _ => Q_move rfl rfl) ?_
        refine JA_splitN 51 rfl (fun h18 => ?_) (fun h18 => ?_)
        · refine JA_no 10 16 rfl rfl rfl (by kernel_rfl) (by kernel_rfl) (fun _ h => by cases h; rfl) ?_
          refine JA_no 11 16 rfl rfl rfl (by kernel_rfl) (by kernel_rfl) (fun _ h => by cases h; rfl) ?_
          refine JA_no 12 16 rfl rfl rfl (by kernel_rfl) (by kernel_rfl) (fun _ h => by cases h; rfl) ?_
          refine JA_no 13 16 rfl rfl rfl (by kernel_rfl) (by kernel_rfl) (fun _ h => by cases h; rfl) ?_
          refine JA_no 14 16 rfl rfl rfl (by kernel_rfl) (by kernel_rfl) (fun _ h => by cases h; rfl) ?_
          refine JA_p 15 57 16 rfl rfl rfl rfl (by kernel_rfl) (by kernel_rfl) (fun _ => Q_pickT rfl rfl rfl) ?_
          refine JA_end (by kernel_rfl) (K_seq ?_)
          refine C_true rfl ?_
          refine C_seq ?_
          refine C_region ?_
          refine J_q 6 rfl rfl rfl rfl (Q_assign rfl rfl) ?_
          refine J_nil (K_seq ?_)
          refine C_ret (R_then (body_ret (res1 rfl rfl) ?_))
          exact ⟨congrArg Ending.returned (eqI (by first | (exact (why_1 (by assumption)).symm) | (exact (why_2 (by assumption) ⟨by omega, by assumption⟩).symm) | (exact (why_3 (by assumption) (fun hh => by first | omega | exact absurd hh.2 (by assumption)) (by omega)).symm) | (exact (why_4 (by assumption) (by omega) (by first | omega | exact .inr (by assumption))).symm) | (exact (why_5 (by assumption) (by omega) (by omega) (by assumption) (by assumption)).symm) | (exact (why_6 (by assumption) (by omega) (by omega) (by assumption) (by assumption) (by omega)).symm) | (exact (why_0 (by assumption) (by omega) (by omega) (by assumption) (by assumption) (by omega)).symm))), hS17.kept (k := 0) rfl⟩
        · refine JA_p 10 52 16 rfl rfl rfl rfl (by kernel_rfl) (by kernel_rfl) (fun _ => Q_fa0 rfl rfl fo55_2) ?_
          refine JA_q 11 53 rfl rfl rfl rfl (by kernel_rfl) (by kernel_rfl) hS17 (fun _ hI => Q_ldB1 (k := 1) hI rfl rfl rfl Try.isAgg44 rfl) ?_
          refine JA_p 12 54 16 rfl rfl rfl rfl (by kernel_rfl) (by kernel_rfl) (fun _ => Q_move rfl rfl) ?_
          refine JA_call 13 55 rfl rfl rfl rfl (by kernel_rfl) (T_call rfl rfl rfl Try.call39) (Under_calls _ _ c.deps (hS17.rd 0 rfl hd_c) _ (clockR l) (hS17.rd 2 rfl hr15_0)) ?_
          rintro _ w19 ⟨rfl, hk19⟩
          have hS19 := hS17.kp0 hk19
          refine ⟨_, rfl, (fun _ => hS19), ?_⟩
          refine JA_p 14 56 16 rfl rfl rfl rfl (by kernel_rfl) (by kernel_rfl) (fun _ => Q_not rfl rfl) ?_
          refine JA_p 15 57 16 rfl rfl rfl rfl (by kernel_rfl) (by kernel_rfl) (fun _ => Q_pickF rfl rfl rfl) ?_
          refine JA_end (by kernel_rfl) (K_seq ?_)
          refine C_ifN rfl (fun h20 => ?_) (fun h20 => ?_)
          · refine C_seq ?_
            refine C_region ?_
            refine J_q 6 rfl rfl rfl rfl (Q_assign rfl rfl) ?_
            refine J_nil (K_seq ?_)
            refine C_ret (R_then (body_ret (res1 rfl rfl) ?_))
            exact ⟨congrArg Ending.returned (eqI (by first | (exact (why_1 (by assumption)).symm) | (exact (why_2 (by assumption) ⟨by omega, by assumption⟩).symm) | (exact (why_3 (by assumption) (fun hh => by first | omega | exact absurd hh.2 (by assumption)) (by omega)).symm) | (exact (why_4 (by assumption) (by omega) (by first | omega | exact .inr (by assumption))).symm) | (exact (why_5 (by assumption) (by omega) (by omega) (by assumption) (by assumption)).symm) | (exact (why_6 (by assumption) (by omega) (by omega) (by assumption) (by assumption) (by omega)).symm) | (exact (why_0 (by assumption) (by omega) (by omega) (by assumption) (by assumption) (by omega)).symm))), hS19.kept (k := 0) rfl⟩
          · refine C_skip (K_seq ?_)
            refine C_seq ?_
            refine C_seq ?_
            refine C_region ?_
            refine J_q 58 rfl rfl rfl rfl (Q_move rfl rfl) ?_
            refine J_q 59 rfl rfl rfl rfl (Q_ldBK' (k := 1) (chL c A_c cap_c) hS19 rfl rfl rfl Try.isAgg55 Try.sizeOf55 rfl rfl) ?_
            refine J_call 60 rfl rfl rfl rfl (T_call rfl rfl rfl Try.call87) (behind_calls _ _ l (hS19.rd 0 rfl hF_l) _ c (hS19.rd 0 rfl hF_c)) ?_
            rintro _ w21 ⟨rfl, hk21⟩
            have hS21 := hS19.kp0 hk21
            refine ⟨_, rfl, ?_⟩
            refine J_q 61 rfl rfl rfl rfl (Q_not rfl rfl) ?_
            refine J_nil (K_seq ?_)
            refine C_ifN rfl (fun h22 => ?_) (fun h22 => ?_)
            · refine C_seq ?_
              refine C_region ?_
              refine J_q 6 rfl rfl rfl rfl (Q_assign rfl rfl) ?_
              refine J_nil (K_seq ?_)
              refine C_ret (R_then (body_ret (res1 rfl rfl) ?_))
              exact ⟨congrArg Ending.returned (eqI (by first | (exact (why_1 (by assumption)).symm) | (exact (why_2 (by assumption) ⟨by omega, by assumption⟩).symm) | (exact (why_3 (by assumption) (fun hh => by first | omega | exact absurd hh.2 (by assumption)) (by omega)).symm) | (exact (why_4 (by assumption) (by omega) (by first | omega | exact .inr (by assumption))).symm) | (exact (why_5 (by assumption) (by omega) (by omega) (by assumption) (by assumption)).symm) | (exact (why_6 (by assumption) (by omega) (by omega) (by assumption) (by assumption) (by omega)).symm) | (exact (why_0 (by assumption) (by omega) (by omega) (by assumption) (by assumption) (by omega)).symm))), hS21.kept (k := 0) rfl⟩
            · refine C_skip (K_seq ?_)
              refine C_seq ?_
              refine C_seq ?_
              refine C_region ?_
              refine J_q 62 rfl rfl rfl rfl (Q_move rfl rfl) ?_
              refine J_q 63 rfl rfl rfl rfl (Q_len rfl rfl Try.underlying43) ?_
              refine J_q 64 rfl rfl rfl rfl (Q_move rfl rfl) ?_
              refine J_q 65 rfl rfl rfl rfl (Q_geq rfl rfl rfl) ?_
              refine J_nil (K_seq ?_)
              refine C_if rfl (fun h23 => ?_) (fun h23 => ?_)
              · refine C_seq ?_
                refine C_region ?_
                refine J_q 6 rfl rfl rfl rfl (Q_assign rfl rfl) ?_
                refine J_nil (K_seq ?_)
                refine C_ret (R_then (body_ret (res1 rfl rfl) ?_))
                exact ⟨congrArg Ending.returned (eqI (by first | (exact (why_1 (by assumption)).symm) | (exact (why_2 (by assumption) ⟨by omega, by assumption⟩).symm) | (exact (why_3 (by assumption) (fun hh => by first | omega | exact absurd hh.2 (by assumption)) (by omega)).symm) | (exact (why_4 (by assumption) (by omega) (by first | omega | exact .inr (by assumption))).symm) | (exact (why_5 (by assumption) (by omega) (by omega) (by assumption) (by assumption)).symm) | (exact (why_6 (by assumption) (by omega) (by omega) (by assumption) (by assumption) (by omega)).symm) | (exact (why_0 (by assumption) (by omega) (by omega) (by assumption) (by assumption) (by omega)).symm))), hS21.kept (k := 0) rfl⟩
              · refine C_skip (K_seq ?_)
                refine C_seq ?_
                refine C_region ?_
                refine J_q 6 rfl rfl rfl rfl (Q_assign rfl rfl) ?_
                refine J_nil (K_seq ?_)
                refine C_ret (body_ret (res1 rfl rfl) ?_)
                exact ⟨congrArg Ending.returned (eqI (by first | (exact (why_1 (by assumption)).symm) | (exact (why_2 (by assumption) ⟨by omega, by assumption⟩).symm) | (exact (why_3 (by assumption) (fun hh => by first | omega | exact absurd hh.2 (by assumption)) (by omega)).symm) | (exact (why_4 (by assumption) (by omega) (by first | omega | exact .inr (by assumption))).symm) | (exact (why_5 (by assumption) (by omega) (by omega) (by assumption) (by assumption)).symm) | (exact (why_6 (by assumption) (by omega) (by omega) (by assumption) (by assumption) (by omega)).symm) | (exact (why_0 (by assumption) (by omega) (by omega) (by assumption) (by assumption) (by omega)).symm))), hS21.kept (k := 0) rfl⟩
end Go.Proofs.Ytceeellnjckmiaa

/- Printed by a program of mine (gen.py). -/
set_option maxRecDepth 100000
namespace Go.Proofs.Ytceeellnjckmiaa
open Go Go.Sl
theorem app43 : AppOk Try.prog 43 55 13 136 := ⟨Try.underlying43, ⟨_, _, Try.type55, rfl, rfl, rfl, rfl⟩, by decide⟩
theorem CopyAll_calls (w : World) (v_l : Value) (l : List Change) (h_l : (tSl tCh).rd w [v_l] l) :
    Calls Try.prog 48 #[v_l] w fun e w' => ∃ v0, e = .returned (v0) ∧ Kp no w w' ∧ RdF (tSl tCh) w' (nw w w') [v0] (l) := by
  have hS0 := St.start w
  have hF_l := RdF.of_rd h_l
  obtain ⟨A_l, cap_l, rfl, hc_l, hm_l⟩ := hF_l.slice
  refine fn_calls' 21 (args := [_]) Try.func48 rfl rfl rfl ?_
  refine C_seq ?_
  refine C_region ?_
  refine J_q 2 rfl rfl rfl rfl (Q_assign rfl rfl) ?_
  refine J_nil (K_seq ?_)
  refine C_seq ?_
  refine C_region ?_
  refine J_do 5 rfl rfl rfl rfl (D_bs (e := 55) (ps := []) 1 ([]) hS0 rfl rfl (fun _ => by kernel_rfl) (fun g1 w1 hS1 => ?_))
  refine J_q 3 rfl rfl rfl rfl (Q_assign rfl rfl) ?_
  refine J_nil (K_seq ?_)
  refine C_seq ?_
  refine C_seq ?_
  refine C_region ?_
  refine J_q 4 rfl rfl rfl rfl (Q_assign rfl rfl) ?_
  refine J_nil (K_seq ?_)
  refine C_block ?_
  have hS2 := hS1.lit0 (sz := 13) 1 rfl
  have hS3 := hS2.none 2
  refine C_loop2 (fun (i : Int) (out : RowR Change) => (l.length - i).toNat) (fun (i : Int) (out : RowR Change) => [(0, .slice A_l l.length cap_l), (2, .slice none 0 0), (5, .slice (some ⟨g1, 0, none⟩) 0 0), (4, .int .i64 i), (3, .slice out.A out.l.length out.c)]) (fun (i : Int) (out : RowR Change) w' => (0 ≤ i) ∧ (i ≤ l.length) ∧ (out.l = tk l i) ∧ (Kp no w out.W) ∧ (Reps tCh out.W (or_ no out.F) out.l out.f) ∧ St w w' [(2, fz out.W out.F), (1, own 55 13 (.slice out.A out.l.length out.c) out.l.length out.f), (0, fz w (lt_ w))]) 0 (⟨some ⟨g1, 0, none⟩, 0, [], [], w1, no⟩) ⟨(by first | omega | (simp [tk]; done)), (by first | omega | (simp [tk]; done)), (by first | omega | (simp [tk]; done)), (hS3.kept (k := 0) rfl), (Reps.nil _ _ _), hS3⟩ ⟨rfl, rfl, rfl, rfl, rfl, trivial⟩ ?_
  rintro i out w4 ⟨h0, h1, hn, hK_out, hR_out, hS4⟩
  refine C_seq ?_
  refine C_seq ?_
  refine C_region ?_
  refine J_q 6 rfl rfl rfl rfl (Q_move rfl rfl) ?_
  refine J_q 7 rfl rfl rfl rfl (Q_move rfl rfl) ?_
  refine J_q 8 rfl rfl rfl rfl (Q_len rfl rfl Try.underlying43) ?_
  refine J_q 9 rfl rfl rfl rfl (Q_lss rfl rfl rfl) ?_
  refine J_nil (K_seq ?_)
  refine C_if rfl (fun h5 => ?_) (fun h5 => ?_)
  · refine C_skip (K_seq ?_)
    refine C_seq ?_
    refine C_block ?_
    refine C_region ?_
    refine J_q 12 rfl rfl rfl rfl (Q_move rfl rfl) ?_
    refine J_q 13 rfl rfl rfl rfl (Q_move rfl rfl) ?_
    refine J_q 14 rfl rfl rfl rfl (Q_move rfl rfl) ?_
    obtain ⟨ad6, es6, hA6, hr6, hc6⟩ := RdF.nth hF_l i (by omega) (by omega)
    obtain ⟨A6, cap6, rfl, hd6, ho6⟩ := openCh hr6
    have hln6 := RdF.lens hd6
    have hsq6 := ho6.seq
    refine J_q 15 rfl rfl rfl rfl (Q_iaE hA6 rfl rfl rfl Try.underlying43 Try.sizeOf55 (by omega) (by omega)) ?_
    refine J_q 16 rfl rfl rfl rfl (Q_ldCK' (chL (nth l i) A6 cap6) (hc6 _ (hS4.get (k := 0) rfl)) rfl rfl Try.isAgg55 Try.sizeOf55 rfl rfl) ?_
    refine J_call 17 rfl rfl rfl rfl (T_call rfl rfl rfl Try.call45) (RCopy_calls _ _ (nth l i) (hS4.rd 0 rfl hr6)) ?_
    rintro _ w7 ⟨l7_0, rfl, hk7, hr7_0⟩
    have hRm7 := Reps.moved hR_out (no_lt _) hS4 rfl 2 rfl hK_out hk7
    have hS7 := hS4.join hk7 2 rfl
    obtain ⟨A7_0, cap7_0, rfl, hd7_0, ho7_0⟩ := openCh hr7_0
    have hln7_0 := RdF.lens hd7_0
    have hsq7_0 := ho7_0.seq
    refine ⟨_, rfl, ?_⟩
    refine J_do 18 rfl rfl rfl rfl (D_bs (e := 55) (ps := [(0, .tmp 17)]) 3 (chL ((nth l i)) A7_0 cap7_0) hS7 rfl rfl (fun _ => by kernel_rfl) (fun g8 w8 hS8 => ?_))
    refine J_do 19 rfl rfl rfl rfl (D_app1L ((nth l i)) out.l app43 hS8 1 rfl 3 rfl rfl rfl rfl rfl rfl (by first | omega | (have hq := congrArg List.length hn; simp [tk] at hq; simp only [List.length_append, List.length_cons, List.length_nil]; omega) | (have hq := congrArg List.length hn; simp [tk] at hq; omega)) (by first | omega | (have hq := congrArg List.length hn; simp [tk] at hq; simp only [List.length_append, List.length_cons, List.length_nil]; omega) | (have hq := congrArg List.length hn; simp [tk] at hq; omega)) (fun g9 cap9 w9 hS9 => ?_))
    refine J_q 3 rfl rfl rfl rfl (Q_assign rfl rfl) ?_
    refine J_nil (N_blk (K_seq ?_))
    refine C_region ?_
    refine J_q 10 rfl rfl rfl rfl (Q_move rfl rfl) ?_
    refine J_q 11 rfl rfl rfl rfl (Q_add rfl rfl rfl (by omega) (by omega)) ?_
    refine J_q 4 rfl rfl rfl rfl (Q_assign rfl rfl) ?_
    exact J_nil (K_round2 (x0 := i) (x1 := out) (i + 1) ⟨some ⟨g9, 0, none⟩, cap9, out.f ++ chL ((nth l i)) A7_0 cap7_0, out.l ++ [((nth l i))], w7, or_ out.F (nw w4 w7)⟩ ⟨(by first | omega | (rw [tk_snoc h0 (by omega), ← hn])), (by first | omega | (rw [tk_snoc h0 (by omega), ← hn])), (by first | omega | (rw [tk_snoc h0 (by omega), ← hn])), (hS7.kept (k := 0) rfl), (Reps.snoc hRm7 (RdF.gave hr7_0)), (hS9.pick [2, 1, 0] ⟨rfl, rfl, rfl, rfl, rfl, rfl, trivial⟩)⟩ (by omega) ⟨rfl, rfl, rfl, rfl, rfl, trivial⟩)
  · refine C_exit (X_then (X_then (X_hit (K_seq ?_))))
    refine C_seq ?_
    refine C_region ?_
    refine J_q 20 rfl rfl rfl rfl (Q_move rfl rfl) ?_
    refine J_q 2 rfl rfl rfl rfl (Q_assign rfl rfl) ?_
    refine J_nil (K_seq ?_)
    refine C_ret (body_ret (res1 rfl rfl) ?_)
    exact ⟨_, rfl, hS4.kept (k := 0) rfl, own_eq (by rw [hn, tk_full (by omega)]) (or_no (St.giveR (d := tCh) (no_lt _) hS4 rfl 1 rfl rfl 2 rfl rfl rfl hK_out hR_out (by first | omega | (have hq := congrArg List.length hn; simp [tk] at hq; simp only [List.length_append, List.length_cons, List.length_nil]; omega) | (have hq := congrArg List.length hn; simp [tk] at hq; omega))))⟩

theorem RAll_calls (w : World) (F_l : Nat → Prop) (hf_l : ∀ b, F_l b → b < w.heap.size) (v_l : Value) (l : List Change) (h_l : RdF (tSl tCh) w F_l [v_l] l) (v_known : Value) (known : List Int) (h_known : (tSl tI).rd w [v_known] known) :
    Calls Try.prog 28 #[v_l, v_known] w fun e w' => ∃ v0, e = .returned (v0) ∧ Kp no w w' ∧ RdF (tSl tCh) w' (or_ F_l (nw w w')) [v0] (lackR l known) := by
  have hS0 := St.start w
  have hF_l := h_l.mono hf_l
  obtain ⟨A_l, cap_l, rfl, hc_l, hm_l⟩ := h_l.slice
  have hF_known := RdF.of_rd h_known
  obtain ⟨A_known, cap_known, rfl, hc_known, hm_known⟩ := hF_known.slice
  refine fn_calls' 29 (args := [_, _]) Try.func28 rfl rfl rfl ?_
  refine C_seq ?_
  refine C_region ?_
  refine J_q 4 rfl rfl rfl rfl (Q_assign rfl rfl) ?_
  refine J_nil (K_seq ?_)
  refine C_seq ?_
  refine C_region ?_
  refine J_do 7 rfl rfl rfl rfl (D_bs (e := 55) (ps := []) 1 ([]) hS0 rfl rfl (fun _ => by kernel_rfl) (fun g1 w1 hS1 => ?_))
  refine J_q 5 rfl rfl rfl rfl (Q_assign rfl rfl) ?_
  refine J_nil (K_seq ?_)
  refine C_seq ?_
  refine C_seq ?_
  refine C_region ?_
  refine J_q 6 rfl rfl rfl rfl (Q_assign rfl rfl) ?_
  refine J_nil (K_seq ?_)
  refine C_block ?_
  have hS2 := hS1.lit0 (sz := 13) 1 rfl
  have hS3 := hS2.none 2
  refine C_loop2 (fun (i : Int) (out : RowR Change) => (l.length - i).toNat) (fun (i : Int) (out : RowR Change) => [(0, .slice A_l l.length cap_l), (1, .slice A_known known.length cap_known), (4, .slice none 0 0), (7, .slice (some ⟨g1, 0, none⟩) 0 0), (6, .int .i64 i), (5, .slice out.A out.l.length out.c)]) (fun (i : Int) (out : RowR Change) w' => (0 ≤ i) ∧ (i ≤ l.length) ∧ (out.l.length ≤ i) ∧ (out.l = (tk l i).filter fun c => !decide (within c known)) ∧ (Kp no w out.W) ∧ (Reps tCh out.W (or_ F_l out.F) out.l out.f) ∧ St w w' [(2, fz out.W out.F), (1, own 55 13 (.slice out.A out.l.length out.c) out.l.length out.f), (0, fz w (lt_ w))]) 0 (⟨some ⟨g1, 0, none⟩, 0, [], [], w1, no⟩) ⟨(by first | omega | (simp; done) | (simp [tk]; done)), (by first | omega | (simp; done) | (simp [tk]; done)), (by first | omega | (simp; done) | (simp [tk]; done)), (by first | omega | (simp; done) | (simp [tk]; done)), (hS3.kept (k := 0) rfl), (Reps.nil _ _ _), hS3⟩ ⟨rfl, rfl, rfl, rfl, rfl, rfl, trivial⟩ ?_
  rintro i out w4 ⟨h0, h1, hl, hn, hK_out, hR_out, hS4⟩
  refine C_seq ?_
  refine C_seq ?_
  refine C_region ?_
  refine J_q 8 rfl rfl rfl rfl (Q_move rfl rfl) ?_
  refine J_q 9 rfl rfl rfl rfl (Q_move rfl rfl) ?_
  refine J_q 10 rfl rfl rfl rfl (Q_len rfl rfl Try.underlying43) ?_
  refine J_q 11 rfl rfl rfl rfl (Q_lss rfl rfl rfl) ?_
  refine J_nil (K_seq ?_)
  refine C_if rfl (fun h5 => ?_) (fun h5 => ?_)
  · refine C_skip (K_seq ?_)
    refine C_seq ?_
    refine C_block ?_
    refine C_seq ?_
    refine C_region ?_
    refine J_q 14 rfl rfl rfl rfl (Q_move rfl rfl) ?_
    refine J_q 15 rfl rfl rfl rfl (Q_move rfl rfl) ?_
    obtain ⟨ad6, es6, hA6, hr6, hc6⟩ := RdF.nth h_l i (by omega) (by omega)
    have hq6 := hr6.mono hf_l
    obtain ⟨A6, cap6, rfl, hd6, ho6⟩ := openCh hq6
    have hln6 := RdF.lens hd6
    have hsq6 := ho6.seq
    refine J_q 16 rfl rfl rfl rfl (Q_iaE hA6 rfl rfl rfl Try.underlying43 Try.sizeOf55 (by omega) (by omega)) ?_
    refine J_q 17 rfl rfl rfl rfl (Q_ldCK' (chL (nth l i) A6 cap6) ((fun w hw => hc6 w (fun b hb => hw b (hf_l b hb))) _ (hS4.get (k := 0) rfl)) rfl rfl Try.isAgg55 Try.sizeOf55 rfl rfl) ?_
    refine J_q 18 rfl rfl rfl rfl (Q_move rfl rfl) ?_
    refine J_call 19 rfl rfl rfl rfl (T_call rfl rfl rfl Try.call74) (Within_calls _ _ (nth l i) (hS4.rd 0 rfl hq6) _ known (hS4.rd 0 rfl hF_known)) ?_
    rintro _ w7 ⟨rfl, hk7⟩
    have hS7 := hS4.kp0 hk7
    refine ⟨_, rfl, ?_⟩
    refine J_q 20 rfl rfl rfl rfl (Q_not rfl rfl) ?_
    refine J_nil (K_seq ?_)
    refine C_ifN rfl (fun h8 => ?_) (fun h8 => ?_)
    · refine C_region ?_
      refine J_q 21 rfl rfl rfl rfl (Q_move rfl rfl) ?_
      refine J_q 22 rfl rfl rfl rfl (Q_move rfl rfl) ?_
      refine J_q 23 rfl rfl rfl rfl (Q_move rfl rfl) ?_
      refine J_q 24 rfl rfl rfl rfl (Q_iaE hA6 rfl rfl rfl Try.underlying43 Try.sizeOf55 (by omega) (by omega)) ?_
      refine J_q 25 rfl rfl rfl rfl (Q_ldCK' (chL (nth l i) A6 cap6) ((fun w hw => hc6 w (fun b hb => hw b (hf_l b hb))) _ (hS7.get (k := 0) rfl)) rfl rfl Try.isAgg55 Try.sizeOf55 rfl rfl) ?_
      refine J_do 26 rfl rfl rfl rfl (D_bs (e := 55) (ps := [(0, .tmp 25)]) 3 (chL (nth l i) A6 cap6) hS7 rfl rfl (fun _ => by kernel_rfl) (fun g9 w9 hS9 => ?_))
      refine J_do 27 rfl rfl rfl rfl (D_app1L (nth l i) out.l app43 hS9 1 rfl 3 rfl rfl rfl rfl rfl rfl (by first | omega | (simp only [List.length_nil, List.length_append, List.length_cons]; omega)) (by first | omega | (simp only [List.length_nil, List.length_append, List.length_cons]; omega)) (fun g10 cap10 w10 hS10 => ?_))
      refine J_q 5 rfl rfl rfl rfl (Q_assign rfl rfl) ?_
      refine J_nil (N_blk (K_seq ?_))
      refine C_region ?_
      refine J_q 12 rfl rfl rfl rfl (Q_move rfl rfl) ?_
      refine J_q 13 rfl rfl rfl rfl (Q_add rfl rfl rfl (by omega) (by omega)) ?_
      refine J_q 6 rfl rfl rfl rfl (Q_assign rfl rfl) ?_
      exact J_nil (K_round2 (x0 := i) (x1 := out) (i + 1) ⟨some ⟨g10, 0, none⟩, cap10, out.f ++ chL (nth l i) A6 cap6, out.l ++ [(nth l i)], out.W, out.F⟩ ⟨(by first | omega | (simp only [List.length_append, List.length_cons, List.length_nil]; omega) | (rw [tk_snoc h0 (by omega), List.filter_append, ← hn]; simp [*])), (by first | omega | (simp only [List.length_append, List.length_cons, List.length_nil]; omega) | (rw [tk_snoc h0 (by omega), List.filter_append, ← hn]; simp [*])), (by first | omega | (simp only [List.length_append, List.length_cons, List.length_nil]; omega) | (rw [tk_snoc h0 (by omega), List.filter_append, ← hn]; simp [*])), (by first | omega | (simp only [List.length_append, List.length_cons, List.length_nil]; omega) | (rw [tk_snoc h0 (by omega), List.filter_append, ← hn]; simp [*])), hK_out, (Reps.snoc hR_out (RdF.came hr6 hf_l hK_out)), (hS10.pick [2, 1, 0] ⟨rfl, rfl, rfl, rfl, rfl, rfl, trivial⟩)⟩ (by omega) ⟨rfl, rfl, rfl, rfl, rfl, rfl, trivial⟩)
    · refine C_skip (N_blk (K_seq ?_))
      refine C_region ?_
      refine J_q 12 rfl rfl rfl rfl (Q_move rfl rfl) ?_
      refine J_q 13 rfl rfl rfl rfl (Q_add rfl rfl rfl (by omega) (by omega)) ?_
      refine J_q 6 rfl rfl rfl rfl (Q_assign rfl rfl) ?_
      exact J_nil (K_round2 (x0 := i) (x1 := out) (i + 1) ⟨out.A, out.c, out.f, out.l, out.W, out.F⟩ ⟨(by first | omega | (simp only [List.length_append, List.length_cons, List.length_nil]; omega) | (rw [tk_snoc h0 (by omega), List.filter_append, ← hn]; simp [*])), (by first | omega | (simp only [List.length_append, List.length_cons, List.length_nil]; omega) | (rw [tk_snoc h0 (by omega), List.filter_append, ← hn]; simp [*])), (by first | omega | (simp only [List.length_append, List.length_cons, List.length_nil]; omega) | (rw [tk_snoc h0 (by omega), List.filter_append, ← hn]; simp [*])), (by first | omega | (simp only [List.length_append, List.length_cons, List.length_nil]; omega) | (rw [tk_snoc h0 (by omega), List.filter_append, ← hn]; simp [*])), hK_out, hR_out, hS7⟩ (by omega) ⟨rfl, rfl, rfl, rfl, rfl, rfl, trivial⟩)
  · refine C_exit (X_then (X_then (X_hit (K_seq ?_))))
    refine C_seq ?_
    refine C_region ?_
    refine J_q 28 rfl rfl rfl rfl (Q_move rfl rfl) ?_
    refine J_q 4 rfl rfl rfl rfl (Q_assign rfl rfl) ?_
    refine J_nil (K_seq ?_)
    refine C_ret (body_ret (res1 rfl rfl) ?_)
    exact ⟨_, rfl, hS4.kept (k := 0) rfl, own_eq (by rw [hn, tk_full (by omega)]; rfl) (St.giveR (d := tCh) hf_l hS4 rfl 1 rfl rfl 2 rfl rfl rfl hK_out hR_out (by first | omega | (simp only [List.length_nil, List.length_append, List.length_cons]; omega)))⟩

theorem PutC_calls (w : World) (F_l : Nat → Prop) (hf_l : ∀ b, F_l b → b < w.heap.size) (v_l : Value) (l : List Change) (h_l : RdF (tSl tCh) w F_l [v_l] l) (l_c : List Value) (c : Change) (h_c : tCh.rd w l_c c) (hl : l.length ≤ 1073741824) :
    Calls Try.prog 81 #[v_l, .agg l_c.toArray] w fun e w' => ∃ v0, e = .returned (v0) ∧ Kp no w w' ∧ RdF (tSl tCh) w' (or_ F_l (nw w w')) [v0] (putC l c) := by
  have hS0 := St.start w
  have hF_l := h_l.mono hf_l
  obtain ⟨A_l, cap_l, rfl, hc_l, hm_l⟩ := h_l.slice
  have hF_c := RdF.of_rd h_c
  obtain ⟨A_c, cap_c, rfl, hd_c, ho_c⟩ := openCh hF_c
  have hln_c := RdF.lens hd_c
  have hsq_c := ho_c.seq
  refine fn_calls' 47 (args := [_, _]) Try.func81 rfl rfl rfl ?_
  refine C_seq ?_
  refine C_region ?_
  refine J_do 3 rfl rfl rfl rfl (D_box 1 hS0 rfl rfl (fun g1 w1 hS1 => ?_))
  refine J_q 4 rfl rfl rfl rfl (Q_assign rfl rfl) ?_
  refine J_nil (K_seq ?_)
  refine C_seq ?_
  refine C_region ?_
  refine J_do 8 rfl rfl rfl rfl (D_bs (e := 55) (ps := []) 2 ([]) hS1 rfl rfl (fun _ => by kernel_rfl) (fun g2 w2 hS2 => ?_))
  refine J_q 5 rfl rfl rfl rfl (Q_assign rfl rfl) ?_
  refine J_nil (K_seq ?_)
  refine C_seq ?_
  refine C_region ?_
  refine J_q 6 rfl rfl rfl rfl (Q_assign rfl rfl) ?_
  refine J_nil (K_seq ?_)
  refine C_seq ?_
  refine C_seq ?_
  refine C_region ?_
  refine J_q 7 rfl rfl rfl rfl (Q_assign rfl rfl) ?_
  refine J_nil (K_seq ?_)
  refine C_block ?_
  have hS3 := hS2.lit0 (sz := 13) 2 rfl
  have hS4 := hS3.none 3
  refine C_loop3 (fun (i : Int) (done : Bool) (out : RowR Change) => (l.length - i).toNat) (fun (i : Int) (done : Bool) (out : RowR Change) => [(0, .slice A_l l.length cap_l), (1, .agg (chL c A_c cap_c).toArray), (3, .pointer (some (⟨g1, 0, none⟩ : Addr))), (4, .slice none 0 0), (8, .slice (some ⟨g2, 0, none⟩) 0 0), (7, .int .i64 i), (6, .bool done), (5, .slice out.A out.l.length out.c)]) (fun (i : Int) (done : Bool) (out : RowR Change) w' => (0 ≤ i) ∧ (i ≤ l.length) ∧ (PutInv (fun y => decide (less c.at_ y.at_)) l c i done out.l) ∧ (Kp no w out.W) ∧ (Reps tCh out.W (or_ F_l out.F) out.l out.f) ∧ St w w' [(3, fz out.W out.F), (2, own 55 13 (.slice out.A out.l.length out.c) out.l.length out.f), (1, blkL g1 (chL c A_c cap_c) 55), (0, fz w (lt_ w))]) 0 false (⟨some ⟨g2, 0, none⟩, 0, [], [], w2, no⟩) ⟨(by first | omega | (exact PutInv.zero)), (by first | omega | (exact PutInv.zero)), (by first | omega | (exact PutInv.zero)), (hS4.kept (k := 0) rfl), (Reps.nil _ _ _), hS4⟩ ⟨rfl, rfl, rfl, rfl, rfl, rfl, rfl, rfl, trivial⟩ ?_
  rintro i done out w5 ⟨h0, h1, hp, hK_out, hR_out, hS5⟩
  refine C_seq ?_
  refine C_seq ?_
  refine C_region ?_
  refine J_q 9 rfl rfl rfl rfl (Q_move rfl rfl) ?_
  refine J_q 10 rfl rfl rfl rfl (Q_move rfl rfl) ?_
  refine J_q 11 rfl rfl rfl rfl (Q_len rfl rfl Try.underlying43) ?_
  refine J_q 12 rfl rfl rfl rfl (Q_lss rfl rfl rfl) ?_
  refine J_nil (K_seq ?_)
  refine C_if rfl (fun h6 => ?_) (fun h6 => ?_)
  · refine C_skip (K_seq ?_)
    refine C_seq ?_
    refine C_block ?_
    refine C_seq ?_
    refine C_seq ?_
    refine C_draw (fun w' => St w w' [(3, fz out.W out.F), (1, blkL g1 (chL c A_c cap_c) 55), (0, fz w (lt_ w))]) 12 mixedOrders 12 rfl (fun w7 hk7 => ?_)
    have hS7 := hS5.kp0 hk7
    refine JA_p 0 15 12 rfl rfl rfl rfl (by kernel_rfl) (by kernel_rfl) (fun _ => Q_move rfl rfl) ?_
    refine JA_p 1 16 12 rfl rfl rfl rfl (by kernel_rfl) (by kernel_rfl) (fun _ => Q_not rfl rfl) ?_
    refine JA_p 2 17 12 rfl rfl rfl rfl (by kernel_rfl) (by kernel_rfl) (fun _ => Q_move rfl rfl) ?_
    refine JA_splitB 17 rfl (fun h8 => ?_) (fun h8 => ?_)
    · replace h8 : done = false := by simpa using h8
      refine JA_p 3 18 12 rfl rfl rfl rfl (by kernel_rfl) (by kernel_rfl) (fun _ => Q_fa0 rfl rfl fo55_0) ?_
      refine JA_q 4 19 rfl rfl rfl rfl (by kernel_rfl) (by kernel_rfl) (hS7.pick [3, 1, 0] ⟨rfl, rfl, rfl, rfl, rfl, rfl, trivial⟩) (fun _ hI => Q_ldBK (k := 1) (stL c.at_) hI rfl rfl rfl Try.isAgg23 Try.sizeOf23 rfl rfl) ?_
      refine JA_p 5 20 12 rfl rfl rfl rfl (by kernel_rfl) (by kernel_rfl) (fun _ => Q_move rfl rfl) ?_
      refine JA_p 6 21 12 rfl rfl rfl rfl (by kernel_rfl) (by kernel_rfl) (fun _ => Q_move rfl rfl) ?_
      obtain ⟨ad9, es9, hA9, hr9, hc9⟩ := RdF.nth h_l i (by omega) (by omega)
      have hq9 := hr9.mono hf_l
      obtain ⟨A9, cap9, rfl, hd9, ho9⟩ := openCh hq9
      have hln9 := RdF.lens hd9
      have hsq9 := ho9.seq
      refine JA_p 7 22 12 rfl rfl rfl rfl (by kernel_rfl) (by kernel_rfl) (fun _ => Q_iaE hA9 rfl rfl rfl Try.underlying43 Try.sizeOf55 (by omega) (by omega)) ?_
      refine JA_p 8 23 12 rfl rfl rfl rfl (by kernel_rfl) (by kernel_rfl) (fun _ => Q_fa0 rfl rfl fo55_0) ?_
      refine JA_q 9 24 rfl rfl rfl rfl (by kernel_rfl) (by kernel_rfl) (hS7.pick [3, 1, 0] ⟨rfl, rfl, rfl, rfl, rfl, rfl, trivial⟩) (fun _ hI => Q_ldCK (stL ((nth l i).at_)) ((fun w hw => hc9 w (fun b hb => hw b (hf_l b hb))) _ (hI.get (k := 0) rfl)) rfl rfl Try.isAgg23 Try.sizeOf23 rfl rfl) ?_
      refine JA_call 10 25 rfl rfl rfl rfl (by kernel_rfl) (T_call rfl rfl rfl Try.call37) (RLess_calls _ c.at_ ((nth l i).at_)) ?_
      rintro _ w10 ⟨rfl, hk10⟩
      have hS10 := hS7.kp0 hk10
      refine ⟨_, rfl, (fun _ => (hS10.pick [3, 1, 0] ⟨rfl, rfl, rfl, rfl, rfl, rfl, trivial⟩)), ?_⟩
      refine JA_p 11 26 12 rfl rfl rfl rfl (by kernel_rfl) (by kernel_rfl) (fun _ => Q_pickT rfl rfl rfl) ?_
      refine JA_end (by kernel_rfl) (K_seq ?_)
      refine C_if rfl (fun h11 => ?_) (fun h11 => ?_)
      · refine C_seq ?_
        refine C_region ?_
        refine J_q 27 rfl rfl rfl rfl (Q_move rfl rfl) ?_
        refine J_q 28 rfl rfl rfl rfl (Q_ldBK' (k := 1) (chL c A_c cap_c) hS10 rfl rfl rfl Try.isAgg55 Try.sizeOf55 rfl rfl) ?_
        refine J_call 29 rfl rfl rfl rfl (T_call rfl rfl rfl Try.call45) (RCopy_calls _ _ c (hS10.rd 0 rfl hF_c)) ?_
        rintro _ w12 ⟨l12_0, rfl, hk12, hr12_0⟩
        have hRm12 := Reps.moved hR_out hf_l hS10 rfl 3 rfl hK_out hk12
        have hS12 := hS10.join hk12 3 rfl
        obtain ⟨A12_0, cap12_0, rfl, hd12_0, ho12_0⟩ := openCh hr12_0
        have hln12_0 := RdF.lens hd12_0
        have hsq12_0 := ho12_0.seq
        refine ⟨_, rfl, ?_⟩
        refine J_do 30 rfl rfl rfl rfl (D_bs (e := 55) (ps := [(0, .tmp 29)]) 4 (chL (c) A12_0 cap12_0) hS12 rfl rfl (fun _ => by kernel_rfl) (fun g13 w13 hS13 => ?_))
        refine J_do 31 rfl rfl rfl rfl (D_app1L (c) out.l app43 hS13 2 rfl 4 rfl rfl rfl rfl rfl rfl (by have hq := hp.len h0 h1; (try simp only [List.length_nil, List.length_append, List.length_cons]); omega) (by have hq := hp.len h0 h1; (try simp only [List.length_nil, List.length_append, List.length_cons]); omega) (fun g14 cap14 w14 hS14 => ?_))
        refine J_q 5 rfl rfl rfl rfl (Q_assign rfl rfl) ?_
        refine J_nil (K_seq ?_)
        refine C_region ?_
        refine J_q 6 rfl rfl rfl rfl (Q_assign rfl rfl) ?_
        refine J_nil (K_seq ?_)
        refine C_region ?_
        refine J_q 32 rfl rfl rfl rfl (Q_move rfl rfl) ?_
        refine J_q 33 rfl rfl rfl rfl (Q_move rfl rfl) ?_
        refine J_q 34 rfl rfl rfl rfl (Q_move rfl rfl) ?_
        refine J_q 35 rfl rfl rfl rfl (Q_iaE hA9 rfl rfl rfl Try.underlying43 Try.sizeOf55 (by omega) (by omega)) ?_
        refine J_q 36 rfl rfl rfl rfl (Q_ldCK' (chL (nth l i) A9 cap9) ((fun w hw => hc9 w (fun b hb => hw b (hf_l b hb))) _ (hS14.get (k := 0) rfl)) rfl rfl Try.isAgg55 Try.sizeOf55 rfl rfl) ?_
        refine J_do 37 rfl rfl rfl rfl (D_bs (e := 55) (ps := [(0, .tmp 36)]) 5 (chL (nth l i) A9 cap9) hS14 rfl rfl (fun _ => by kernel_rfl) (fun g15 w15 hS15 => ?_))
        refine J_do 38 rfl rfl rfl rfl (D_app1L (nth l i) (out.l ++ [(c)]) app43 hS15 2 rfl 5 rfl rfl rfl rfl rfl rfl (by have hq := hp.len h0 h1; (try simp only [List.length_nil, List.length_append, List.length_cons]); omega) (by have hq := hp.len h0 h1; (try simp only [List.length_nil, List.length_append, List.length_cons]); omega) (fun g16 cap16 w16 hS16 => ?_))
        refine J_q 5 rfl rfl rfl rfl (Q_assign rfl rfl) ?_
        refine J_nil (N_blk (K_seq ?_))
        refine C_region ?_
        refine J_q 13 rfl rfl rfl rfl (Q_move rfl rfl) ?_
        refine J_q 14 rfl rfl rfl rfl (Q_add rfl rfl rfl (by omega) (by omega)) ?_
        refine J_q 7 rfl rfl rfl rfl (Q_assign rfl rfl) ?_
        exact J_nil (K_round3 (x0 := i) (x1 := done) (x2 := out) (i + 1) true ⟨some ⟨g16, 0, none⟩, cap16, out.f ++ chL (c) A12_0 cap12_0 ++ chL (nth l i) A9 cap9, out.l ++ [(c)] ++ [(nth l i)], w12, or_ out.F (nw w10 w12)⟩ ⟨(by first | omega | (exact hp.put (by assumption) h0 (by omega) (decide_eq_true (by assumption))) | (exact hp.on (fun _ => decide_eq_false (by assumption)) h0 (by omega)) | (exact hp.on (fun hd => absurd (hd.symm.trans (show done = true by assumption)) (by decide)) h0 (by omega))), (by first | omega | (exact hp.put (by assumption) h0 (by omega) (decide_eq_true (by assumption))) | (exact hp.on (fun _ => decide_eq_false (by assumption)) h0 (by omega)) | (exact hp.on (fun hd => absurd (hd.symm.trans (show done = true by assumption)) (by decide)) h0 (by omega))), (by first | omega | (exact hp.put (by assumption) h0 (by omega) (decide_eq_true (by assumption))) | (exact hp.on (fun _ => decide_eq_false (by assumption)) h0 (by omega)) | (exact hp.on (fun hd => absurd (hd.symm.trans (show done = true by assumption)) (by decide)) h0 (by omega))), (hS12.kept (k := 0) rfl), (Reps.snoc (Reps.snoc hRm12 (RdF.gave hr12_0)) (RdF.came hr9 hf_l (hS12.kept (k := 0) rfl))), (hS16.pick [3, 2, 1, 0] ⟨rfl, rfl, rfl, rfl, rfl, rfl, rfl, rfl, trivial⟩)⟩ (by omega) ⟨rfl, rfl, rfl, rfl, rfl, rfl, rfl, rfl, trivial⟩)
      · refine C_skip (K_seq ?_)
        refine C_region ?_
        refine J_q 32 rfl rfl rfl rfl (Q_move rfl rfl) ?_
        refine J_q 33 rfl rfl rfl rfl (Q_move rfl rfl) ?_
        refine J_q 34 rfl rfl rfl rfl (Q_move rfl rfl) ?_
        refine J_q 35 rfl rfl rfl rfl (Q_iaE hA9 rfl rfl rfl Try.underlying43 Try.sizeOf55 (by omega) (by omega)) ?_
        refine J_q 36 rfl rfl rfl rfl (Q_ldCK' (chL (nth l i) A9 cap9) ((fun w hw => hc9 w (fun b hb => hw b (hf_l b hb))) _ (hS10.get (k := 0) rfl)) rfl rfl Try.isAgg55 Try.sizeOf55 rfl rfl) ?_
        refine J_do 37 rfl rfl rfl rfl (D_bs (e := 55) (ps := [(0, .tmp 36)]) 6 (chL (nth l i) A9 cap9) hS10 rfl rfl (fun _ => by kernel_rfl) (fun g17 w17 hS17 => ?_))
        refine J_do 38 rfl rfl rfl rfl (D_app1L (nth l i) out.l app43 hS17 2 rfl 6 rfl rfl rfl rfl rfl rfl (by have hq := hp.len h0 h1; (try simp only [List.length_nil, List.length_append, List.length_cons]); omega) (by have hq := hp.len h0 h1; (try simp only [List.length_nil, List.length_append, List.length_cons]); omega) (fun g18 cap18 w18 hS18 => ?_))
        refine J_q 5 rfl rfl rfl rfl (Q_assign rfl rfl) ?_
        refine J_nil (N_blk (K_seq ?_))
        refine C_region ?_
        refine J_q 13 rfl rfl rfl rfl (Q_move rfl rfl) ?_
        refine J_q 14 rfl rfl rfl rfl (Q_add rfl rfl rfl (by omega) (by omega)) ?_
        refine J_q 7 rfl rfl rfl rfl (Q_assign rfl rfl) ?_
        exact J_nil (K_round3 (x0 := i) (x1 := done) (x2 := out) (i + 1) done ⟨some ⟨g18, 0, none⟩, cap18, out.f ++ chL (nth l i) A9 cap9, out.l ++ [(nth l i)], out.W, out.F⟩ ⟨(by first | omega | (exact hp.put (by assumption) h0 (by omega) (decide_eq_true (by assumption))) | (exact hp.on (fun _ => decide_eq_false (by assumption)) h0 (by omega)) | (exact hp.on (fun hd => absurd (hd.symm.trans (show done = true by assumption)) (by decide)) h0 (by omega))), (by first | omega | (exact hp.put (by assumption) h0 (by omega) (decide_eq_true (by assumption))) | (exact hp.on (fun _ => decide_eq_false (by assumption)) h0 (by omega)) | (exact hp.on (fun hd => absurd (hd.symm.trans (show done = true by assumption)) (by decide)) h0 (by omega))), (by first | omega | (exact hp.put (by assumption) h0 (by omega) (decide_eq_true (by assumption))) | (exact hp.on (fun _ => decide_eq_false (by assumption)) h0 (by omega)) | (exact hp.on (fun hd => absurd (hd.symm.trans (show done = true by assumption)) (by decide)) h0 (by omega))), hK_out, (Reps.snoc hR_out (RdF.came hr9 hf_l hK_out)), (hS18.pick [3, 2, 1, 0] ⟨rfl, rfl, rfl, rfl, rfl, rfl, rfl, rfl, trivial⟩)⟩ (by omega) ⟨rfl, rfl, rfl, rfl, rfl, rfl, rfl, rfl, trivial⟩)
    · replace h8 : done = true := by simpa using h8
      refine JA_no 3 12 rfl rfl rfl (by kernel_rfl) (by kernel_rfl) (fun _ h => by cases h; rfl) ?_
      refine JA_no 4 12 rfl rfl rfl (by kernel_rfl) (by kernel_rfl) (fun _ h => by cases h; rfl) ?_
      refine JA_no 5 12 rfl rfl rfl (by kernel_rfl) (by kernel_rfl) (fun _ h => by cases h; rfl) ?_
      refine JA_no 6 12 rfl rfl rfl (by kernel_rfl) (by kernel_rfl) (fun _ h => by cases h; rfl) ?_
      refine JA_no 7 12 rfl rfl rfl (by kernel_rfl) (by kernel_rfl) (fun _ h => by cases h; rfl) ?_
      refine JA_no 8 12 rfl rfl rfl (by kernel_rfl) (by kernel_rfl) (fun _ h => by cases h; rfl) ?_
      refine JA_no 9 12 rfl rfl rfl (by kernel_rfl) (by kernel_rfl) (fun _ h => by cases h; rfl) ?_
      refine JA_no 10 12 rfl rfl rfl (by kernel_rfl) (by kernel_rfl) (fun _ h => by cases h; rfl) ?_
      refine JA_p 11 26 12 rfl rfl rfl rfl (by kernel_rfl) (by kernel_rfl) (fun _ => Q_pickF rfl rfl rfl) ?_
      refine JA_end (by kernel_rfl) (K_seq ?_)
      refine C_false rfl ?_
      refine C_skip (K_seq ?_)
      refine C_region ?_
      refine J_q 32 rfl rfl rfl rfl (Q_move rfl rfl) ?_
      refine J_q 33 rfl rfl rfl rfl (Q_move rfl rfl) ?_
      refine J_q 34 rfl rfl rfl rfl (Q_move rfl rfl) ?_
      obtain ⟨ad19, es19, hA19, hr19, hc19⟩ := RdF.nth h_l i (by omega) (by omega)
      have hq19 := hr19.mono hf_l
      obtain ⟨A19, cap19, rfl, hd19, ho19⟩ := openCh hq19
      have hln19 := RdF.lens hd19
      have hsq19 := ho19.seq
      refine J_q 35 rfl rfl rfl rfl (Q_iaE hA19 rfl rfl rfl Try.underlying43 Try.sizeOf55 (by omega) (by omega)) ?_
      refine J_q 36 rfl rfl rfl rfl (Q_ldCK' (chL (nth l i) A19 cap19) ((fun w hw => hc19 w (fun b hb => hw b (hf_l b hb))) _ (hS7.get (k := 0) rfl)) rfl rfl Try.isAgg55 Try.sizeOf55 rfl rfl) ?_
      refine J_do 37 rfl rfl rfl rfl (D_bs (e := 55) (ps := [(0, .tmp 36)]) 7 (chL (nth l i) A19 cap19) hS7 rfl rfl (fun _ => by kernel_rfl) (fun g20 w20 hS20 => ?_))
      refine J_do 38 rfl rfl rfl rfl (D_app1L (nth l i) out.l app43 hS20 2 rfl 7 rfl rfl rfl rfl rfl rfl (by have hq := hp.len h0 h1; (try simp only [List.length_nil, List.length_append, List.length_cons]); omega) (by have hq := hp.len h0 h1; (try simp only [List.length_nil, List.length_append, List.length_cons]); omega) (fun g21 cap21 w21 hS21 => ?_))
      refine J_q 5 rfl rfl rfl rfl (Q_assign rfl rfl) ?_
      refine J_nil (N_blk (K_seq ?_))
      refine C_region ?_
      refine J_q 13 rfl rfl rfl rfl (Q_move rfl rfl) ?_
      refine J_q 14 rfl rfl rfl rfl (Q_add rfl rfl rfl (by omega) (by omega)) ?_
      refine J_q 7 rfl rfl rfl rfl (Q_assign rfl rfl) ?_
      exact J_nil (K_round3 (x0 := i) (x1 := done) (x2 := out) (i + 1) done ⟨some ⟨g21, 0, none⟩, cap21, out.f ++ chL (nth l i) A19 cap19, out.l ++ [(nth l i)], out.W, out.F⟩ ⟨(by first | omega | (exact hp.put (by assumption) h0 (by omega) (decide_eq_true (by assumption))) | (exact hp.on (fun _ => decide_eq_false (by assumption)) h0 (by omega)) | (exact hp.on (fun hd => absurd (hd.symm.trans (show done = true by assumption)) (by decide)) h0 (by omega))), (by first | omega | (exact hp.put (by assumption) h0 (by omega) (decide_eq_true (by assumption))) | (exact hp.on (fun _ => decide_eq_false (by assumption)) h0 (by omega)) | (exact hp.on (fun hd => absurd (hd.symm.trans (show done = true by assumption)) (by decide)) h0 (by omega))), (by first | omega | (exact hp.put (by assumption) h0 (by omega) (decide_eq_true (by assumption))) | (exact hp.on (fun _ => decide_eq_false (by assumption)) h0 (by omega)) | (exact hp.on (fun hd => absurd (hd.symm.trans (show done = true by assumption)) (by decide)) h0 (by omega))), hK_out, (Reps.snoc hR_out (RdF.came hr19 hf_l hK_out)), (hS21.pick [3, 2, 1, 0] ⟨rfl, rfl, rfl, rfl, rfl, rfl, rfl, rfl, trivial⟩)⟩ (by omega) ⟨rfl, rfl, rfl, rfl, rfl, rfl, rfl, rfl, trivial⟩)
  · refine C_exit (X_then (X_then (X_hit (K_seq ?_))))
    refine C_seq ?_
    refine C_seq ?_
    refine C_region ?_
    refine J_q 39 rfl rfl rfl rfl (Q_move rfl rfl) ?_
    refine J_q 40 rfl rfl rfl rfl (Q_not rfl rfl) ?_
    refine J_nil (K_seq ?_)
    refine C_bool rfl (fun h22 => ?_) (fun h22 => ?_)
    · replace h22 : done = false := by simpa using h22
      refine C_region ?_
      refine J_q 41 rfl rfl rfl rfl (Q_move rfl rfl) ?_
      refine J_q 42 rfl rfl rfl rfl (Q_ldBK' (k := 1) (chL c A_c cap_c) hS5 rfl rfl rfl Try.isAgg55 Try.sizeOf55 rfl rfl) ?_
      refine J_call 43 rfl rfl rfl rfl (T_call rfl rfl rfl Try.call45) (RCopy_calls _ _ c (hS5.rd 0 rfl hF_c)) ?_
      rintro _ w23 ⟨l23_0, rfl, hk23, hr23_0⟩
      have hRm23 := Reps.moved hR_out hf_l hS5 rfl 3 rfl hK_out hk23
      have hS23 := hS5.join hk23 3 rfl
      obtain ⟨A23_0, cap23_0, rfl, hd23_0, ho23_0⟩ := openCh hr23_0
      have hln23_0 := RdF.lens hd23_0
      have hsq23_0 := ho23_0.seq
      refine ⟨_, rfl, ?_⟩
      refine J_do 44 rfl rfl rfl rfl (D_bs (e := 55) (ps := [(0, .tmp 43)]) 8 (chL (c) A23_0 cap23_0) hS23 rfl rfl (fun _ => by kernel_rfl) (fun g24 w24 hS24 => ?_))
      refine J_do 45 rfl rfl rfl rfl (D_app1L (c) out.l app43 hS24 2 rfl 8 rfl rfl rfl rfl rfl rfl (by have hq := hp.len h0 h1; (try simp only [List.length_nil, List.length_append, List.length_cons]); omega) (by have hq := hp.len h0 h1; (try simp only [List.length_nil, List.length_append, List.length_cons]); omega) (fun g25 cap25 w25 hS25 => ?_))
      refine J_q 5 rfl rfl rfl rfl (Q_assign rfl rfl) ?_
      refine J_nil (K_seq ?_)
      refine C_seq ?_
      refine C_region ?_
      refine J_q 46 rfl rfl rfl rfl (Q_move rfl rfl) ?_
      refine J_q 4 rfl rfl rfl rfl (Q_assign rfl rfl) ?_
      refine J_nil (K_seq ?_)
      refine C_ret (body_ret (res1 rfl rfl) ?_)
      exact ⟨_, rfl, hS25.kept (k := 0) rfl, own_eq (by first | (rw [putC, ← hp.end_ (by omega), if_pos (by assumption)]) | (rw [putC, ← hp.end_ (by omega), if_neg (show ¬ done = true by rw [(by assumption : done = false)]; decide)])) (St.giveR (d := tCh) hf_l hS25 rfl 2 rfl rfl 3 rfl rfl rfl (hS23.kept (k := 0) rfl) (Reps.snoc hRm23 (RdF.gave hr23_0)) (by have hq := hp.len h0 h1; (try simp only [List.length_nil, List.length_append, List.length_cons]); omega))⟩
    · replace h22 : done = true := by simpa using h22
      refine C_skip (K_seq ?_)
      refine C_seq ?_
      refine C_region ?_
      refine J_q 46 rfl rfl rfl rfl (Q_move rfl rfl) ?_
      refine J_q 4 rfl rfl rfl rfl (Q_assign rfl rfl) ?_
      refine J_nil (K_seq ?_)
      refine C_ret (body_ret (res1 rfl rfl) ?_)
      exact ⟨_, rfl, hS5.kept (k := 0) rfl, own_eq (by first | (rw [putC, ← hp.end_ (by omega), if_pos (by assumption)]) | (rw [putC, ← hp.end_ (by omega), if_neg (show ¬ done = true by rw [(by assumption : done = false)]; decide)])) (St.giveR (d := tCh) hf_l hS5 rfl 2 rfl rfl 3 rfl rfl rfl hK_out hR_out (by have hq := hp.len h0 h1; (try simp only [List.length_nil, List.length_append, List.length_cons]); omega))⟩
end Go.Proofs.Ytceeellnjckmiaa

/- Printed by a program of mine (gen.py). -/
set_option maxRecDepth 100000
namespace Go.Proofs.Ytceeellnjckmiaa
open Go Go.Sl
theorem fo47_1 : FieldOk Try.prog 47 1 1 := fieldOk Try.underlying47 rfl rfl Try.sizeOf43
theorem fo47_0 : FieldOk Try.prog 47 0 0 := fieldOk Try.underlying47 rfl rfl Try.sizeOf3
theorem RAdd_calls (w : World) (xR : Int) (F_x : Nat → Prop) (hf_x : ∀ b, F_x b → b < w.heap.size) (v_x : Value) (x : List Change) (h_x : RdF (tSl tCh) w F_x [v_x] x) (l_c : List Value) (c : Change) (h_c : tCh.rd w l_c c) (hl : x.length ≤ 1073741824) :
    Calls Try.prog 46 #[.agg #[.int .i64 xR, v_x], .agg l_c.toArray] w fun e w' => ∃ v0, e = .returned (.tuple #[.agg #[.int .i64 (xR), v0], .int .i64 (whyR x xR c)]) ∧ Kp no w w' ∧ RdF (tSl tCh) w' (or_ F_x (nw w w')) [v0] (if whyR x xR c = 0 then putC x c else x) := by
  have hS0 := St.start w
  have hF_x := h_x.mono hf_x
  obtain ⟨A_x, cap_x, rfl, hc_x, hm_x⟩ := h_x.slice
  have hF_c := RdF.of_rd h_c
  obtain ⟨A_c, cap_c, rfl, hd_c, ho_c⟩ := openCh hF_c
  have hln_c := RdF.lens hd_c
  have hsq_c := ho_c.seq
  refine fn_calls' 24 (args := [_, _]) Try.func46 rfl rfl rfl ?_
  refine C_seq ?_
  refine C_region ?_
  refine J_do 2 rfl rfl rfl rfl (D_box 1 hS0 rfl rfl (fun g1 w1 hS1 => ?_))
  refine J_do 3 rfl rfl rfl rfl (D_box 2 hS1 rfl rfl (fun g2 w2 hS2 => ?_))
  refine J_do 4 rfl rfl rfl rfl (D_alloc 3 hS2 rfl Try.zeroValue47 (fun g3 w3 hS3 => ?_))
  refine J_q 5 rfl rfl rfl rfl (Q_assign rfl rfl) ?_
  refine J_nil (K_seq ?_)
  refine C_seq ?_
  refine C_region ?_
  refine J_q 7 rfl rfl rfl rfl (Q_fa0 rfl rfl fo47_1) ?_
  refine J_q 8 rfl rfl rfl rfl (Q_ldB1 (k := 1) hS3 rfl rfl rfl Try.isAgg43 rfl) ?_
  refine J_q 9 rfl rfl rfl rfl (Q_fa0 rfl rfl fo47_0) ?_
  refine J_q 10 rfl rfl rfl rfl (Q_ldB1 (k := 1) hS3 rfl rfl rfl Try.isAgg3 rfl) ?_
  refine J_q 11 rfl rfl rfl rfl (Q_ldBK' (k := 2) (chL c A_c cap_c) hS3 rfl rfl rfl Try.isAgg55 Try.sizeOf55 rfl rfl) ?_
  refine J_call 12 rfl rfl rfl rfl (T_call rfl rfl rfl Try.call53) (Why_calls _ _ x (hS3.rd 0 rfl hF_x) xR _ c (hS3.rd 0 rfl hF_c)) ?_
  rintro _ w4 ⟨rfl, hk4⟩
  have hS4 := hS3.kp0 hk4
  refine ⟨_, rfl, ?_⟩
  refine J_q 6 rfl rfl rfl rfl (Q_assign rfl rfl) ?_
  refine J_nil (K_seq ?_)
  refine C_seq ?_
  refine C_seq ?_
  refine C_region ?_
  refine J_q 13 rfl rfl rfl rfl (Q_move rfl rfl) ?_
  refine J_q 14 rfl rfl rfl rfl (Q_neqN rfl rfl rfl) ?_
  refine J_nil (K_seq ?_)
  refine C_ifN rfl (fun h5 => ?_) (fun h5 => ?_)
  · refine C_seq ?_
    refine C_region ?_
    refine J_q 15 rfl rfl rfl rfl (Q_ldBK' (k := 1) ([.int .i64 xR, .slice A_x x.length cap_x]) hS4 rfl rfl rfl Try.isAgg47 Try.sizeOf47 rfl rfl) ?_
    refine J_q 16 rfl rfl rfl rfl (Q_move rfl rfl) ?_
    refine J_do0 rfl rfl rfl rfl (D_store' (k := 3) hS4 rfl rfl rfl rfl Try.sizeOf47 rfl rfl rfl (fun w6 hS6 => ?_))
    refine J_q 5 rfl rfl rfl rfl (Q_assign rfl rfl) ?_
    refine J_nil (K_seq ?_)
    refine C_ret (R_then (body_ret (resG (vs := [.agg ([.int .i64 xR, .slice A_x x.length cap_x]).toArray, .int .i64 (whyR x xR c)]) rfl ⟨rCK ([.int .i64 xR, .slice A_x x.length cap_x]) (blk_cells (k := 3) hS6 rfl) rfl Try.isAgg47 Try.sizeOf47 rfl rfl, rT rfl, trivial⟩) ?_))
    exact ⟨_, tup2 (rfl) (eqI (by first | rfl | omega)), hS6.kept (k := 0) rfl, own_eq (by first | (rw [if_pos (by assumption)]) | (rw [if_neg (by assumption)])) (h_x.keepF hf_x (hS6.kept (k := 0) rfl)).inl⟩
  · refine C_skip (K_seq ?_)
    refine C_seq ?_
    refine C_draw (fun w' => St w w' [(3, blkL g3 ([.int .i64 0, .slice none 0 0]) 47), (2, blkL g2 (chL c A_c cap_c) 55), (1, blkL g1 ([.int .i64 xR, .slice A_x x.length cap_x]) 47), (0, fz w (lt_ w))]) 7 mixedOrders 9 rfl (fun w7 hk7 => ?_)
    have hS7 := hS4.kp0 hk7
    refine JA_p 0 17 9 rfl rfl rfl rfl (by kernel_rfl) (by kernel_rfl) (fun _ => Q_fa0 rfl rfl fo47_0) ?_
    refine JA_q 1 18 rfl rfl rfl rfl (by kernel_rfl) (by kernel_rfl) hS7 (fun _ hI => Q_ldB1 (k := 1) hI rfl rfl rfl Try.isAgg3 rfl) ?_
    refine JA_p 2 19 9 rfl rfl rfl rfl (by kernel_rfl) (by kernel_rfl) (fun _ => Q_fa0 rfl rfl fo47_1) ?_
    refine JA_q 3 20 rfl rfl rfl rfl (by kernel_rfl) (by kernel_rfl) hS7 (fun _ hI => Q_ldB1 (k := 1) hI rfl rfl rfl Try.isAgg43 rfl) ?_
    refine JA_q 4 21 rfl rfl rfl rfl (by kernel_rfl) (by kernel_rfl) hS7 (fun _ hI => Q_ldBK' (k := 2) (chL c A_c cap_c) hI rfl rfl rfl Try.isAgg55 Try.sizeOf55 rfl rfl) ?_
    refine JA_call 5 22 rfl rfl rfl rfl (by kernel_rfl) (T_call rfl rfl rfl Try.call81) (PutC_calls _ F_x (fun b hb => Nat.lt_of_lt_of_le (hf_x b hb) hS7.size) _ x (h_x.keepF hf_x (hS7.kept (k := 0) rfl)) _ c (hS7.rd 0 rfl hF_c) (by first | assumption | omega)) ?_
    rintro _ w8 ⟨vv8_0, rfl, hk8, hr8_0⟩
    have hS8 := hS7.call hk8 5
    obtain ⟨A8_0, cap8_0, rfl, hc8_0, hm8_0⟩ := hr8_0.slice
    refine ⟨_, rfl, (fun _ => (hS8.pick [3, 2, 1, 0] ⟨rfl, rfl, rfl, rfl, rfl, rfl, rfl, rfl, trivial⟩)), ?_⟩
    refine JA_p 6 23 9 rfl rfl rfl rfl (by kernel_rfl) (by kernel_rfl) (fun _ => Q_bld (v := .agg ([.int .i64 xR, .slice A8_0 ((putC x c).length) cap8_0]).toArray) (ps := [(0, .tmp 18), (1, .tmp 22)]) rfl rfl (fun _ => by kernel_rfl)) ?_
    refine JA_do0 7 rfl rfl rfl rfl (by kernel_rfl) (D_store' (k := 3) hS8 rfl rfl rfl rfl Try.sizeOf47 rfl rfl rfl (fun w9 hS9 => ⟨(fun h => nomatch h), ?_⟩))
    refine JA_p 8 5 9 rfl rfl rfl rfl (by kernel_rfl) (by kernel_rfl) (fun _ => Q_assign rfl rfl) ?_
    refine JA_end (by kernel_rfl) (K_seq ?_)
    refine C_ret (body_ret (resG (vs := [.agg ([.int .i64 xR, .slice A8_0 ((putC x c).length) cap8_0]).toArray, .int .i64 0]) rfl ⟨rCK ([.int .i64 xR, .slice A8_0 ((putC x c).length) cap8_0]) (blk_cells (k := 3) hS9 rfl) rfl Try.isAgg47 Try.sizeOf47 rfl rfl, rT rfl, trivial⟩) ?_)
    exact ⟨_, tup2 (rfl) (eqI (by first | rfl | omega)), hS9.kept (k := 0) rfl, own_eq (by first | (rw [if_pos (by assumption)]) | (rw [if_neg (by assumption)])) (St.giveRd2 hf_x hS9 rfl 5 rfl rfl (hS8.kept (k := 0) rfl) hr8_0)⟩

theorem RSince_calls (w : World) (F_l : Nat → Prop) (hf_l : ∀ b, F_l b → b < w.heap.size) (v_l : Value) (l : List Change) (h_l : RdF (tSl tCh) w F_l [v_l] l) (v_known : Value) (known : List Int) (h_known : (tSl tI).rd w [v_known] known) (most : Int) :
    Calls Try.prog 43 #[v_l, v_known, .int .i64 most] w fun e w' => ∃ v0, e = .returned (.tuple #[v0, .bool (decide (sinceM l known most)), .int .i64 (sinceE known most)]) ∧ Kp no w w' ∧ RdF (tSl tCh) w' (or_ F_l (nw w w')) [v0] (sinceL l known most) := by
  have hS0 := St.start w
  have hF_l := h_l.mono hf_l
  obtain ⟨A_l, cap_l, rfl, hc_l, hm_l⟩ := h_l.slice
  have hF_known := RdF.of_rd h_known
  obtain ⟨A_known, cap_known, rfl, hc_known, hm_known⟩ := hF_known.slice
  refine fn_calls' 28 (args := [_, _, _]) Try.func43 rfl rfl rfl ?_
  refine C_seq ?_
  refine C_region ?_
  refine J_q 6 rfl rfl rfl rfl (Q_assign rfl rfl) ?_
  refine J_q 7 rfl rfl rfl rfl (Q_assign rfl rfl) ?_
  refine J_q 8 rfl rfl rfl rfl (Q_assign rfl rfl) ?_
  refine J_nil (K_seq ?_)
  refine C_seq ?_
  refine C_seq ?_
  refine C_region ?_
  refine J_q 10 rfl rfl rfl rfl (Q_move rfl rfl) ?_
  refine J_call 11 rfl rfl rfl rfl (T_call rfl rfl rfl Try.call27) (RCheck_calls _ _ known (hS0.rd 0 rfl hF_known)) ?_
  rintro _ w1 ⟨rfl, hk1⟩
  have hS1 := hS0.kp0 hk1
  refine ⟨_, rfl, ?_⟩
  refine J_q 12 rfl rfl rfl rfl (Q_neqN rfl rfl rfl) ?_
  refine J_nil (K_seq ?_)
  refine C_ifN rfl (fun h2 => ?_) (fun h2 => ?_)
  · refine C_seq ?_
    refine C_region ?_
    refine J_q 13 rfl rfl rfl rfl (Q_move rfl rfl) ?_
    refine J_call 14 rfl rfl rfl rfl (T_call rfl rfl rfl Try.call27) (RCheck_calls _ _ known (hS1.rd 0 rfl hF_known)) ?_
    rintro _ w3 ⟨rfl, hk3⟩
    have hS3 := hS1.kp0 hk3
    refine ⟨_, rfl, ?_⟩
    refine J_q 6 rfl rfl rfl rfl (Q_assign rfl rfl) ?_
    refine J_q 7 rfl rfl rfl rfl (Q_assign rfl rfl) ?_
    refine J_q 8 rfl rfl rfl rfl (Q_assign rfl rfl) ?_
    refine J_nil (K_seq ?_)
    refine C_ret (R_then (body_ret (res3 rfl rfl rfl rfl) ?_))
    have hS4 := hS3.nil 1 55 13
    exact ⟨_, tup3 (rfl) (eqB (by first | (refine (decide_eq_true ?_).symm; omega) | (refine (decide_eq_false ?_).symm; omega))) (eqI (by first | (rw [sinceE, if_pos (by assumption)]) | (rw [sinceE, if_neg (by omega), if_pos (by assumption)]) | (rw [sinceE, if_neg (by omega), if_neg (by assumption)]))), hS4.kept (k := 0) rfl, own_eq (by first | (rw [sinceL, if_pos (by first | (exact .inl (by assumption)) | (exact .inr (by assumption)))]) | (rw [sinceL, if_neg (by omega), subC]) | (rw [sinceL, if_neg (by omega), tk_full (by omega)])) ((hS4.give (d := tCh) rfl 1 rfl rfl rfl (Reps.nil _ w _) (show _ ≤ 68719476736 by first | omega | (simp only [List.length_nil, List.length_append, List.length_cons]; omega)))).inr⟩
  · refine C_skip (K_seq ?_)
    refine C_seq ?_
    refine C_seq ?_
    refine C_region ?_
    refine J_q 15 rfl rfl rfl rfl (Q_move rfl rfl) ?_
    refine J_q 16 rfl rfl rfl rfl (Q_lss rfl rfl rfl) ?_
    refine J_nil (K_seq ?_)
    refine C_if rfl (fun h5 => ?_) (fun h5 => ?_)
    · refine C_seq ?_
      refine C_region ?_
      refine J_q 6 rfl rfl rfl rfl (Q_assign rfl rfl) ?_
      refine J_q 7 rfl rfl rfl rfl (Q_assign rfl rfl) ?_
      refine J_q 8 rfl rfl rfl rfl (Q_assign rfl rfl) ?_
      refine J_nil (K_seq ?_)
      refine C_ret (R_then (body_ret (res3 rfl rfl rfl rfl) ?_))
      have hS6 := hS1.nil 2 55 13
      exact ⟨_, tup3 (rfl) (eqB (by first | (refine (decide_eq_true ?_).symm; omega) | (refine (decide_eq_false ?_).symm; omega))) (eqI (by first | (rw [sinceE, if_pos (by assumption)]) | (rw [sinceE, if_neg (by omega), if_pos (by assumption)]) | (rw [sinceE, if_neg (by omega), if_neg (by assumption)]))), hS6.kept (k := 0) rfl, own_eq (by first | (rw [sinceL, if_pos (by first | (exact .inl (by assumption)) | (exact .inr (by assumption)))]) | (rw [sinceL, if_neg (by omega), subC]) | (rw [sinceL, if_neg (by omega), tk_full (by omega)])) ((hS6.give (d := tCh) rfl 2 rfl rfl rfl (Reps.nil _ w _) (show _ ≤ 68719476736 by first | omega | (simp only [List.length_nil, List.length_append, List.length_cons]; omega)))).inr⟩
    · refine C_skip (K_seq ?_)
      refine C_seq ?_
      refine C_region ?_
      refine J_q 17 rfl rfl rfl rfl (Q_move rfl rfl) ?_
      refine J_q 18 rfl rfl rfl rfl (Q_move rfl rfl) ?_
      refine J_call 19 rfl rfl rfl rfl (T_call rfl rfl rfl Try.call28) (RAll_calls _ F_l (fun b hb => Nat.lt_of_lt_of_le (hf_l b hb) hS1.size) _ l (h_l.keepF hf_l (hS1.kept (k := 0) rfl)) _ known (hS1.rd 0 rfl hF_known)) ?_
      rintro _ w7 ⟨vv7_0, rfl, hk7, hr7_0⟩
      have hS7 := hS1.call hk7 3
      obtain ⟨A7_0, cap7_0, rfl, hc7_0, hm7_0⟩ := hr7_0.slice
      have hz8 := lackR_len l known
      refine ⟨_, rfl, ?_⟩
      refine J_q 9 rfl rfl rfl rfl (Q_assign rfl rfl) ?_
      refine J_nil (K_seq ?_)
      refine C_seq ?_
      refine C_seq ?_
      refine C_region ?_
      refine J_q 20 rfl rfl rfl rfl (Q_move rfl rfl) ?_
      refine J_q 21 rfl rfl rfl rfl (Q_len rfl rfl Try.underlying43) ?_
      refine J_q 22 rfl rfl rfl rfl (Q_move rfl rfl) ?_
      refine J_q 23 rfl rfl rfl rfl (Q_gtr rfl rfl rfl) ?_
      refine J_nil (K_seq ?_)
      refine C_if rfl (fun h9 => ?_) (fun h9 => ?_)
      · refine C_seq ?_
        refine C_region ?_
        refine J_q 24 rfl rfl rfl rfl (Q_move rfl rfl) ?_
        refine J_q 25 rfl rfl rfl rfl (Q_move rfl rfl) ?_
        have hr10 := RdF.sub (l := 0) (h := most) hr7_0 (by omega) (by omega) (by omega)
        have hl10 := sub_len (xs := (lackR l known)) (l := 0) (h := most) (by omega) (by omega) (by omega)
        have hc10 := hr7_0.cap_le
        refine J_q 26 rfl rfl rfl rfl (Q_sliceR tCh (lackR l known) 0 most rfl rfl rfl rfl (.inl ⟨rfl, rfl⟩) (.inr rfl) Try.underlying43 Try.sizeOf55 (by omega) (by omega) (by omega) hc10) ?_
        refine J_q 6 rfl rfl rfl rfl (Q_assign rfl rfl) ?_
        refine J_q 7 rfl rfl rfl rfl (Q_assign rfl rfl) ?_
        refine J_q 8 rfl rfl rfl rfl (Q_assign rfl rfl) ?_
        refine J_nil (K_seq ?_)
        refine C_ret (R_then (body_ret (res3 rfl rfl rfl rfl) ?_))
        exact ⟨_, tup3 (rfl) (eqB (by first | (refine (decide_eq_true ?_).symm; omega) | (refine (decide_eq_false ?_).symm; omega))) (eqI (by first | (rw [sinceE, if_pos (by assumption)]) | (rw [sinceE, if_neg (by omega), if_pos (by assumption)]) | (rw [sinceE, if_neg (by omega), if_neg (by assumption)]))), hS7.kept (k := 0) rfl, own_eq (by first | (rw [sinceL, if_pos (by first | (exact .inl (by assumption)) | (exact .inr (by assumption)))]) | (rw [sinceL, if_neg (by omega), subC]) | (rw [sinceL, if_neg (by omega), tk_full (by omega)])) (St.giveRd2 hf_l hS7 rfl 3 rfl rfl (hS7.kept (k := 0) rfl) hr10)⟩
      · refine C_skip (K_seq ?_)
        refine C_seq ?_
        refine C_region ?_
        refine J_q 27 rfl rfl rfl rfl (Q_move rfl rfl) ?_
        refine J_q 6 rfl rfl rfl rfl (Q_assign rfl rfl) ?_
        refine J_q 7 rfl rfl rfl rfl (Q_assign rfl rfl) ?_
        refine J_q 8 rfl rfl rfl rfl (Q_assign rfl rfl) ?_
        refine J_nil (K_seq ?_)
        refine C_ret (body_ret (res3 rfl rfl rfl rfl) ?_)
        exact ⟨_, tup3 (rfl) (eqB (by first | (refine (decide_eq_true ?_).symm; omega) | (refine (decide_eq_false ?_).symm; omega))) (eqI (by first | (rw [sinceE, if_pos (by assumption)]) | (rw [sinceE, if_neg (by omega), if_pos (by assumption)]) | (rw [sinceE, if_neg (by omega), if_neg (by assumption)]))), hS7.kept (k := 0) rfl, own_eq (by first | (rw [sinceL, if_pos (by first | (exact .inl (by assumption)) | (exact .inr (by assumption)))]) | (rw [sinceL, if_neg (by omega), subC]) | (rw [sinceL, if_neg (by omega), tk_full (by omega)])) (St.giveRd2 hf_l hS7 rfl 3 rfl rfl (hS7.kept (k := 0) rfl) hr7_0)⟩

theorem RMerge_calls (w : World) (v_a : Value) (a : List Int) (h_a : (tSl tI).rd w [v_a] a) (v_b : Value) (b : List Int) (h_b : (tSl tI).rd w [v_b] b) :
    Calls Try.prog 49 #[v_a, v_b] w fun e w' => ∃ v0, e = .returned (.tuple #[v0, .int .i64 (if ¬ chk2 a = 0 then chk2 a else chk2 b)]) ∧ Kp no w w' ∧ RdF (tSl tI) w' (nw w w') [v0] (if (if ¬ chk2 a = 0 then chk2 a else chk2 b) = 0 then mergeR a b else []) := by
  have hS0 := St.start w
  have hF_a := RdF.of_rd h_a
  obtain ⟨A_a, cap_a, rfl, hc_a, hm_a⟩ := hF_a.slice
  have hF_b := RdF.of_rd h_b
  obtain ⟨A_b, cap_b, rfl, hc_b, hm_b⟩ := hF_b.slice
  refine fn_calls' 32 (args := [_, _]) Try.func49 rfl rfl rfl ?_
  refine C_seq ?_
  refine C_region ?_
  refine J_q 4 rfl rfl rfl rfl (Q_assign rfl rfl) ?_
  refine J_q 5 rfl rfl rfl rfl (Q_assign rfl rfl) ?_
  refine J_nil (K_seq ?_)
  refine C_seq ?_
  refine C_seq ?_
  refine C_region ?_
  refine J_q 8 rfl rfl rfl rfl (Q_move rfl rfl) ?_
  refine J_q 9 rfl rfl rfl rfl (Q_move rfl rfl) ?_
  refine J_call 10 rfl rfl rfl rfl (T_call rfl rfl rfl Try.call84) (Two_calls _ _ a (hS0.rd 0 rfl hF_a) _ b (hS0.rd 0 rfl hF_b)) ?_
  rintro _ w1 ⟨rfl, hk1⟩
  have hS1 := hS0.kp0 hk1
  refine ⟨_, rfl, ?_⟩
  refine J_q 11 rfl rfl rfl rfl (Q_neqN rfl rfl rfl) ?_
  refine J_nil (K_seq ?_)
  refine C_ifN rfl (fun h2 => ?_) (fun h2 => ?_)
  · refine C_seq ?_
    refine C_region ?_
    refine J_q 12 rfl rfl rfl rfl (Q_move rfl rfl) ?_
    refine J_q 13 rfl rfl rfl rfl (Q_move rfl rfl) ?_
    refine J_call 14 rfl rfl rfl rfl (T_call rfl rfl rfl Try.call84) (Two_calls _ _ a (hS1.rd 0 rfl hF_a) _ b (hS1.rd 0 rfl hF_b)) ?_
    rintro _ w3 ⟨rfl, hk3⟩
    have hS3 := hS1.kp0 hk3
    refine ⟨_, rfl, ?_⟩
    refine J_q 4 rfl rfl rfl rfl (Q_assign rfl rfl) ?_
    refine J_q 5 rfl rfl rfl rfl (Q_assign rfl rfl) ?_
    refine J_nil (K_seq ?_)
    refine C_ret (R_then (body_ret (res2 rfl rfl rfl) ?_))
    have hS4 := hS3.nil 1 3 1
    exact ⟨_, tup2 (rfl) (eqI (by first | rfl | (exact (by assumption : _ = (0 : Int)).symm))), hS4.kept (k := 0) rfl, own_eq (by first | (rw [if_neg (by assumption)]) | (rw [if_pos (by assumption), mergeR, hn, show i.toNat = 64 by omega])) (hS4.give (d := tI) rfl 1 rfl rfl rfl (Reps.nil _ w _) (show _ ≤ 68719476736 by first | omega | (simp only [List.length_nil]; omega) | (have hq := mgo_len a b i.toNat; rw [← hn] at hq; (try simp only [List.length_append, List.length_cons, List.length_nil]); omega)))⟩
  · refine C_skip (K_seq ?_)
    refine C_seq ?_
    refine C_region ?_
    refine J_do 15 rfl rfl rfl rfl (D_bs (e := 3) (ps := []) 2 ([]) hS1 rfl rfl (fun _ => by kernel_rfl) (fun g5 w5 hS5 => ?_))
    refine J_q 6 rfl rfl rfl rfl (Q_assign rfl rfl) ?_
    refine J_nil (K_seq ?_)
    refine C_seq ?_
    refine C_seq ?_
    refine C_region ?_
    refine J_q 7 rfl rfl rfl rfl (Q_assign rfl rfl) ?_
    refine J_nil (K_seq ?_)
    refine C_block ?_
    have hS6 := hS5.lit0 (sz := 1) 2 rfl
    refine C_loop2 (fun (i : Int) (out : Row Int) => (64 - i).toNat) (fun (i : Int) (out : Row Int) => [(0, .slice A_a a.length cap_a), (1, .slice A_b b.length cap_b), (4, .slice none 0 0), (5, .int .i64 0), (8, .slice A_a a.length cap_a), (9, .slice A_b b.length cap_b), (10, .int .i64 (if ¬ chk2 a = 0 then chk2 a else chk2 b)), (11, .bool (!decide ((if ¬ chk2 a = 0 then chk2 a else chk2 b) = 0))), (15, .slice (some ⟨g5, 0, none⟩) 0 0), (7, .int .i64 i), (6, .slice out.A out.l.length out.c)]) (fun (i : Int) (out : Row Int) w' => (0 ≤ i) ∧ (i ≤ 64) ∧ (out.l = mgo a b i.toNat) ∧ (Reps tI w no out.l out.f) ∧ St w w' [(2, own 3 1 (.slice out.A out.l.length out.c) out.l.length out.f), (0, fz w (lt_ w))]) 0 (⟨some ⟨g5, 0, none⟩, 0, [], []⟩) ⟨(by first | omega | rfl), (by first | omega | rfl), (by first | omega | rfl), (Reps.nil _ w _), hS6⟩ ⟨rfl, rfl, rfl, rfl, rfl, rfl, rfl, rfl, rfl, rfl, rfl, trivial⟩ ?_
    rintro i out w7 ⟨h0, h1, hn, hR_out, hS7⟩
    have hz := two_zero (a := a) (b := b) (by assumption)
    have hA := at2_chk hz.1 i
    have hB := at2_chk hz.2 i
    refine C_seq ?_
    refine C_seq ?_
    refine C_region ?_
    refine J_q 16 rfl rfl rfl rfl (Q_move rfl rfl) ?_
    refine J_q 17 rfl rfl rfl rfl (Q_lss rfl rfl rfl) ?_
    refine J_nil (K_seq ?_)
    refine C_if rfl (fun h8 => ?_) (fun h8 => ?_)
    · refine C_skip (K_seq ?_)
      refine C_seq ?_
      refine C_block ?_
      refine C_region ?_
      refine J_q 20 rfl rfl rfl rfl (Q_move rfl rfl) ?_
      refine J_q 21 rfl rfl rfl rfl (Q_move rfl rfl) ?_
      refine J_q 22 rfl rfl rfl rfl (Q_move rfl rfl) ?_
      refine J_call 23 rfl rfl rfl rfl (T_call rfl rfl rfl Try.call40) (RAt_calls _ _ a (hS7.rd 0 rfl hF_a) i) ?_
      rintro _ w9 ⟨rfl, hk9⟩
      have hS9 := hS7.kp0 hk9
      refine ⟨_, rfl, ?_⟩
      refine J_q 24 rfl rfl rfl rfl (Q_move rfl rfl) ?_
      refine J_q 25 rfl rfl rfl rfl (Q_move rfl rfl) ?_
      refine J_call 26 rfl rfl rfl rfl (T_call rfl rfl rfl Try.call40) (RAt_calls _ _ b (hS9.rd 0 rfl hF_b) i) ?_
      rintro _ w10 ⟨rfl, hk10⟩
      have hS10 := hS9.kp0 hk10
      refine ⟨_, rfl, ?_⟩
      refine J_q 27 rfl rfl rfl rfl (Q_max rfl rfl rfl) ?_
      refine J_do 28 rfl rfl rfl rfl (D_bs (e := 3) (ps := [(0, .tmp 27)]) 3 ([.int .i64 (max (at2 a i) (at2 b i))]) hS10 rfl rfl (fun _ => by kernel_rfl) (fun g11 w11 hS11 => ?_))
      refine J_do 29 rfl rfl rfl rfl (D_app1L (max (at2 a i) (at2 b i)) out.l app44 hS11 2 rfl 3 rfl rfl rfl rfl rfl rfl (by first | omega | (simp only [List.length_nil]; omega) | (have hq := mgo_len a b i.toNat; rw [← hn] at hq; (try simp only [List.length_append, List.length_cons, List.length_nil]); omega)) (by first | omega | (simp only [List.length_nil]; omega) | (have hq := mgo_len a b i.toNat; rw [← hn] at hq; (try simp only [List.length_append, List.length_cons, List.length_nil]); omega)) (fun g12 cap12 w12 hS12 => ?_))
      refine J_q 6 rfl rfl rfl rfl (Q_assign rfl rfl) ?_
      refine J_nil (N_blk (K_seq ?_))
      refine C_region ?_
      refine J_q 18 rfl rfl rfl rfl (Q_move rfl rfl) ?_
      refine J_q 19 rfl rfl rfl rfl (Q_add rfl rfl rfl (by omega) (by omega)) ?_
      refine J_q 7 rfl rfl rfl rfl (Q_assign rfl rfl) ?_
      exact J_nil (K_round2 (x0 := i) (x1 := out) (i + 1) ⟨some ⟨g12, 0, none⟩, cap12, out.f ++ [.int .i64 (max (at2 a i) (at2 b i))], out.l ++ [max (at2 a i) (at2 b i)]⟩ ⟨(by first | omega | (rw [mgo_snoc a b h0, ← hn])), (by first | omega | (rw [mgo_snoc a b h0, ← hn])), (by first | omega | (rw [mgo_snoc a b h0, ← hn])), (Reps.snoc hR_out (mkI (by omega))), (hS12.pick [2, 0] ⟨rfl, rfl, rfl, rfl, trivial⟩)⟩ (by omega) ⟨rfl, rfl, rfl, rfl, rfl, rfl, rfl, rfl, rfl, rfl, rfl, trivial⟩)
    · refine C_exit (X_then (X_then (X_hit (K_seq ?_))))
      refine C_seq ?_
      refine C_region ?_
      refine J_q 30 rfl rfl rfl rfl (Q_move rfl rfl) ?_
      have hr13 := own_rd0 (d := tI) hS7 2 rfl rfl hR_out (by first | omega | (simp only [List.length_nil]; omega) | (have hq := mgo_len a b i.toNat; rw [← hn] at hq; (try simp only [List.length_append, List.length_cons, List.length_nil]); omega))
      have hS13 := hS7.frzO 2 rfl
      refine J_call 31 rfl rfl rfl rfl (T_call rfl rfl rfl Try.call78) (RTrim_calls _ _ out.l (hS13.rd 2 rfl hr13)) ?_
      rintro _ w14 ⟨vv14_0, rfl, hk14, hr14_0⟩
      have hS14 := hS13.call hk14 4
      obtain ⟨A14_0, cap14_0, rfl, hc14_0, hm14_0⟩ := hr14_0.slice
      refine ⟨_, rfl, ?_⟩
      refine J_q 4 rfl rfl rfl rfl (Q_assign rfl rfl) ?_
      refine J_q 5 rfl rfl rfl rfl (Q_assign rfl rfl) ?_
      refine J_nil (K_seq ?_)
      refine C_ret (body_ret (res2 rfl rfl rfl) ?_)
      exact ⟨_, tup2 (rfl) (eqI (by first | rfl | (exact (by assumption : _ = (0 : Int)).symm))), hS14.kept (k := 0) rfl, own_eq (by first | (rw [if_neg (by assumption)]) | (rw [if_pos (by assumption), mergeR, hn, show i.toNat = 64 by omega])) (hS14.giveRd (d := tI) rfl 4 rfl rfl hr14_0)⟩
end Go.Proofs.Ytceeellnjckmiaa

/- Printed by a program of mine (gen.py). -/
set_option maxRecDepth 100000
namespace Go.Proofs.Ytceeellnjckmiaa
open Go Go.Sl
theorem fo117_1 : FieldOk Try.prog 117 1 1 := fieldOk Try.underlying117 rfl rfl Try.sizeOf43
theorem fo117_0 : FieldOk Try.prog 117 0 0 := fieldOk Try.underlying117 rfl rfl Try.sizeOf3
theorem fo117_3 : FieldOk Try.prog 117 3 3 := fieldOk Try.underlying117 rfl rfl Try.sizeOf115
theorem Lplace_calls (w : World) (g_x : Nat) (p_x : LogP) (xR : Int) (x : List Change) (h_x : LogR w (lt_ w) g_x p_x xR x) (s : Stamp) :
    Calls Try.prog 72 #[.pointer (some ⟨g_x, 0, none⟩), .agg (stL s).toArray] w fun e w' => e = .returned (.tuple #[.int .i64 (posAt x s), .bool (decide (0 ≤ findAt x s))]) ∧ Kp no w w' := by
  have hS0 := St.start w
  have hle_x := h_x.le
  have hcap_x := h_x.all.cap_le
  have hrise := h_x.good.rise
  refine fn_calls' 14 (args := [_, _]) Try.func72 rfl rfl rfl ?_
  refine C_seq ?_
  refine C_region ?_
  refine J_do 3 rfl rfl rfl rfl (D_box 1 hS0 rfl rfl (fun g1 w1 hS1 => ?_))
  refine J_q 4 rfl rfl rfl rfl (Q_assign rfl rfl) ?_
  refine J_q 5 rfl rfl rfl rfl (Q_assign rfl rfl) ?_
  refine J_nil (K_seq ?_)
  refine C_seq ?_
  refine C_draw (fun w' => St w w' [(1, blkL g1 (stL s) 23), (0, fz w (lt_ w))]) 10 mixedOrders 10 rfl (fun w2 hk2 => ?_)
  have hS2 := hS1.kp0 hk2
  refine JA_p 0 6 10 rfl rfl rfl rfl (by kernel_rfl) (by kernel_rfl) (fun _ => Q_move rfl rfl) ?_
  refine JA_p 1 7 10 rfl rfl rfl rfl (by kernel_rfl) (by kernel_rfl) (fun _ => Q_nil rfl rfl) ?_
  refine JA_p 2 8 10 rfl rfl rfl rfl (by kernel_rfl) (by kernel_rfl) (fun _ => Q_fa0 rfl rfl fo117_1) ?_
  refine JA_q 3 9 rfl rfl rfl rfl (by kernel_rfl) (by kernel_rfl) hS2 (fun _ hI => Q_ldC1 (h_x.box _ (hI.get (k := 0) rfl)) rfl rfl Try.isAgg43 rfl) ?_
  refine JA_q 4 10 rfl rfl rfl rfl (by kernel_rfl) (by kernel_rfl) hS2 (fun _ hI => Q_ldBK' (k := 1) (stL s) hI rfl rfl rfl Try.isAgg23 Try.sizeOf23 rfl rfl) ?_
  refine JA_call 5 11 rfl rfl rfl rfl (by kernel_rfl) (T_call rfl rfl rfl Try.call104) (BSearch_calls _ _ x (hS2.rd 0 rfl h_x.all) s (by first | assumption | omega)) ?_
  rintro _ w3 ⟨rfl, hk3⟩
  have hS3 := hS2.kp0 hk3
  refine ⟨_, rfl, (fun _ => hS3), ?_⟩
  refine JA_p 6 12 10 rfl rfl rfl rfl (by kernel_rfl) (by kernel_rfl) (fun _ => Q_extract rfl rfl rfl) ?_
  refine JA_p 7 13 10 rfl rfl rfl rfl (by kernel_rfl) (by kernel_rfl) (fun _ => Q_extract rfl rfl rfl) ?_
  refine JA_p 8 4 10 rfl rfl rfl rfl (by kernel_rfl) (by kernel_rfl) (fun _ => Q_assign rfl rfl) ?_
  refine JA_p 9 5 10 rfl rfl rfl rfl (by kernel_rfl) (by kernel_rfl) (fun _ => Q_assign rfl rfl) ?_
  refine JA_end (by kernel_rfl) (K_seq ?_)
  refine C_ret (body_ret (res2 rfl rfl rfl) ?_)
  exact ⟨tup2 (eqI (by rfl)) (eqB (by rfl)), hS3.kept (k := 0) rfl⟩

theorem LLen_calls (w : World) (g_x : Nat) (p_x : LogP) (xR : Int) (x : List Change) (h_x : LogR w (lt_ w) g_x p_x xR x) :
    Calls Try.prog 75 #[.pointer (some ⟨g_x, 0, none⟩)] w fun e w' => e = .returned (.int .i64 ((x.length : Int))) ∧ Kp no w w' := by
  have hS0 := St.start w
  have hle_x := h_x.le
  have hcap_x := h_x.all.cap_le
  refine fn_calls' 10 (args := [_]) Try.func75 rfl rfl rfl ?_
  refine C_seq ?_
  refine C_region ?_
  refine J_q 2 rfl rfl rfl rfl (Q_assign rfl rfl) ?_
  refine J_nil (K_seq ?_)
  refine C_seq ?_
  refine C_seq ?_
  refine C_region ?_
  refine J_q 3 rfl rfl rfl rfl (Q_move rfl rfl) ?_
  refine J_q 4 rfl rfl rfl rfl (Q_eqNilF rfl rfl rfl Try.underlying45) ?_
  refine J_nil (K_seq ?_)
  refine C_false rfl ?_
  refine C_skip (K_seq ?_)
  refine C_seq ?_
  refine C_region ?_
  refine J_q 5 rfl rfl rfl rfl (Q_move rfl rfl) ?_
  refine J_q 6 rfl rfl rfl rfl (Q_nil rfl rfl) ?_
  refine J_q 7 rfl rfl rfl rfl (Q_fa0 rfl rfl fo117_1) ?_
  refine J_q 8 rfl rfl rfl rfl (Q_ldC1 (h_x.box _ (hS0.get (k := 0) rfl)) rfl rfl Try.isAgg43 rfl) ?_
  refine J_q 9 rfl rfl rfl rfl (Q_len rfl rfl Try.underlying43) ?_
  refine J_q 2 rfl rfl rfl rfl (Q_assign rfl rfl) ?_
  refine J_nil (K_seq ?_)
  refine C_ret (body_ret (res1 rfl rfl) ?_)
  exact ⟨congrArg Ending.returned (eqI (by rfl)), hS0.kept (k := 0) rfl⟩

theorem LRoom_calls (w : World) (g_x : Nat) (p_x : LogP) (xR : Int) (x : List Change) (h_x : LogR w (lt_ w) g_x p_x xR x) :
    Calls Try.prog 82 #[.pointer (some ⟨g_x, 0, none⟩)] w fun e w' => e = .returned (.int .i64 (xR)) ∧ Kp no w w' := by
  have hS0 := St.start w
  have hle_x := h_x.le
  have hcap_x := h_x.all.cap_le
  refine fn_calls' 9 (args := [_]) Try.func82 rfl rfl rfl ?_
  refine C_seq ?_
  refine C_region ?_
  refine J_q 2 rfl rfl rfl rfl (Q_assign rfl rfl) ?_
  refine J_nil (K_seq ?_)
  refine C_seq ?_
  refine C_seq ?_
  refine C_region ?_
  refine J_q 3 rfl rfl rfl rfl (Q_move rfl rfl) ?_
  refine J_q 4 rfl rfl rfl rfl (Q_eqNilF rfl rfl rfl Try.underlying45) ?_
  refine J_nil (K_seq ?_)
  refine C_false rfl ?_
  refine C_skip (K_seq ?_)
  refine C_seq ?_
  refine C_region ?_
  refine J_q 5 rfl rfl rfl rfl (Q_move rfl rfl) ?_
  refine J_q 6 rfl rfl rfl rfl (Q_nil rfl rfl) ?_
  refine J_q 7 rfl rfl rfl rfl (Q_fa0 rfl rfl fo117_0) ?_
  refine J_q 8 rfl rfl rfl rfl (Q_ldC1 (h_x.box _ (hS0.get (k := 0) rfl)) rfl rfl Try.isAgg3 rfl) ?_
  refine J_q 2 rfl rfl rfl rfl (Q_assign rfl rfl) ?_
  refine J_nil (K_seq ?_)
  refine C_ret (body_ret (res1 rfl rfl) ?_)
  exact ⟨congrArg Ending.returned (eqI (by rfl)), hS0.kept (k := 0) rfl⟩

theorem LLast_calls (w : World) (g_x : Nat) (p_x : LogP) (xR : Int) (x : List Change) (h_x : LogR w (lt_ w) g_x p_x xR x) :
    Calls Try.prog 76 #[.pointer (some ⟨g_x, 0, none⟩)] w fun e w' => e = .returned (.int .i64 (lastC x)) ∧ Kp no w w' := by
  have hS0 := St.start w
  have hle_x := h_x.le
  have hcap_x := h_x.all.cap_le
  refine fn_calls' 20 (args := [_]) Try.func76 rfl rfl rfl ?_
  refine C_seq ?_
  refine C_region ?_
  refine J_q 2 rfl rfl rfl rfl (Q_assign rfl rfl) ?_
  refine J_nil (K_seq ?_)
  refine C_seq ?_
  refine C_seq ?_
  refine C_region ?_
  refine J_q 3 rfl rfl rfl rfl (Q_move rfl rfl) ?_
  refine J_call 4 rfl rfl rfl rfl (T_call rfl rfl rfl Try.call75) (LLen_calls _ _ _ _ _ (h_x.kp (hS0.kept (k := 0) rfl))) ?_
  rintro _ w1 ⟨rfl, hk1⟩
  have hS1 := hS0.kp0 hk1
  refine ⟨_, rfl, ?_⟩
  refine J_q 5 rfl rfl rfl rfl (Q_eql rfl rfl rfl) ?_
  refine J_nil (K_seq ?_)
  refine C_if rfl (fun h2 => ?_) (fun h2 => ?_)
  · refine C_seq ?_
    refine C_region ?_
    refine J_q 2 rfl rfl rfl rfl (Q_assign rfl rfl) ?_
    refine J_nil (K_seq ?_)
    refine C_ret (R_then (body_ret (res1 rfl rfl) ?_))
    exact ⟨congrArg Ending.returned (eqI (by first | (exact (last_nil (by assumption)).symm) | (exact (Good.last h_x.good (by assumption)).symm))), hS1.kept (k := 0) rfl⟩
  · refine C_skip (K_seq ?_)
    refine C_seq ?_
    refine C_draw (fun w' => St w w' [(0, fz w (lt_ w))]) 15 mixedOrders 15 rfl (fun w3 hk3 => ?_)
    have hS3 := hS1.kp0 hk3
    refine JA_p 0 6 15 rfl rfl rfl rfl (by kernel_rfl) (by kernel_rfl) (fun _ => Q_move rfl rfl) ?_
    refine JA_p 1 7 15 rfl rfl rfl rfl (by kernel_rfl) (by kernel_rfl) (fun _ => Q_nil rfl rfl) ?_
    refine JA_p 2 8 15 rfl rfl rfl rfl (by kernel_rfl) (by kernel_rfl) (fun _ => Q_fa0 rfl rfl fo117_1) ?_
    refine JA_q 3 9 rfl rfl rfl rfl (by kernel_rfl) (by kernel_rfl) hS3 (fun _ hI => Q_ldC1 (h_x.box _ (hI.get (k := 0) rfl)) rfl rfl Try.isAgg43 rfl) ?_
    refine JA_p 4 10 15 rfl rfl rfl rfl (by kernel_rfl) (by kernel_rfl) (fun _ => Q_move rfl rfl) ?_
    refine JA_p 5 11 15 rfl rfl rfl rfl (by kernel_rfl) (by kernel_rfl) (fun _ => Q_nil rfl rfl) ?_
    refine JA_p 6 12 15 rfl rfl rfl rfl (by kernel_rfl) (by kernel_rfl) (fun _ => Q_fa0 rfl rfl fo117_1) ?_
    refine JA_q 7 13 rfl rfl rfl rfl (by kernel_rfl) (by kernel_rfl) hS3 (fun _ hI => Q_ldC1 (h_x.box _ (hI.get (k := 0) rfl)) rfl rfl Try.isAgg43 rfl) ?_
    refine JA_p 8 14 15 rfl rfl rfl rfl (by kernel_rfl) (by kernel_rfl) (fun _ => Q_len rfl rfl Try.underlying43) ?_
    refine JA_p 9 15 15 rfl rfl rfl rfl (by kernel_rfl) (by kernel_rfl) (fun _ => Q_sub rfl rfl rfl (by omega) (by omega)) ?_
    obtain ⟨ad4, es4, hA4, hr4, hc4⟩ := RdF.nth h_x.all ((x.length : Int) - 1) (by omega) (by omega)
    obtain ⟨A4, cap4, rfl, hd4, ho4⟩ := openCh hr4
    have hln4 := RdF.lens hd4
    have hsq4 := ho4.seq
    refine JA_p 10 16 15 rfl rfl rfl rfl (by kernel_rfl) (by kernel_rfl) (fun _ => Q_iaE hA4 rfl rfl rfl Try.underlying43 Try.sizeOf55 (by omega) (by omega)) ?_
    refine JA_p 11 17 15 rfl rfl rfl rfl (by kernel_rfl) (by kernel_rfl) (fun _ => Q_fa0 rfl rfl fo55_0) ?_
    refine JA_p 12 18 15 rfl rfl rfl rfl (by kernel_rfl) (by kernel_rfl) (fun _ => Q_fa rfl rfl fo23_0 rfl) ?_
    refine JA_q 13 19 rfl rfl rfl rfl (by kernel_rfl) (by kernel_rfl) hS3 (fun _ hI => Q_ldC1 (hc4 _ (hI.get (k := 0) rfl)) rfl rfl Try.isAgg3 rfl) ?_
    refine JA_p 14 2 15 rfl rfl rfl rfl (by kernel_rfl) (by kernel_rfl) (fun _ => Q_assign rfl rfl) ?_
    refine JA_end (by kernel_rfl) (K_seq ?_)
    refine C_ret (body_ret (res1 rfl rfl) ?_)
    exact ⟨congrArg Ending.returned (eqI (by first | (exact (last_nil (by assumption)).symm) | (exact (Good.last h_x.good (by assumption)).symm))), hS3.kept (k := 0) rfl⟩

theorem Lknown_calls (w : World) (g_x : Nat) (p_x : LogP) (xR : Int) (x : List Change) (h_x : LogR w (lt_ w) g_x p_x xR x) (l_c : List Value) (c : Change) (h_c : tCh.rd w l_c c) (hrt : right c.at_) :
    Calls Try.prog 70 #[.pointer (some ⟨g_x, 0, none⟩), .agg l_c.toArray] w fun e w' => e = .returned (.int .i64 (knownP x c)) ∧ Kp no w w' := by
  have hS0 := St.start w
  have hle_x := h_x.le
  have hcap_x := h_x.all.cap_le
  have hF_c := RdF.of_rd h_c
  obtain ⟨A_c, cap_c, rfl, hd_c, ho_c⟩ := openCh hF_c
  have hln_c := RdF.lens hd_c
  have hsq_c := ho_c.seq
  have hrise := h_x.good.rise
  have hpf := pos_find hrise c.at_
  have hfl := findAt_lt x c.at_
  refine fn_calls' 36 (args := [_, _]) Try.func70 rfl rfl rfl ?_
  refine C_seq ?_
  refine C_region ?_
  refine J_do 3 rfl rfl rfl rfl (D_box 1 hS0 rfl rfl (fun g1 w1 hS1 => ?_))
  refine J_q 4 rfl rfl rfl rfl (Q_assign rfl rfl) ?_
  refine J_nil (K_seq ?_)
  refine C_seq ?_
  refine C_seq ?_
  refine C_region ?_
  refine J_q 8 rfl rfl rfl rfl (Q_move rfl rfl) ?_
  refine J_q 9 rfl rfl rfl rfl (Q_fa0 rfl rfl fo55_0) ?_
  refine J_q 10 rfl rfl rfl rfl (Q_ldBK (k := 1) (stL c.at_) hS1 rfl rfl rfl Try.isAgg23 Try.sizeOf23 rfl rfl) ?_
  refine J_call 11 rfl rfl rfl rfl (T_call rfl rfl rfl Try.call72) (Lplace_calls _ _ _ _ _ (h_x.kp (hS1.kept (k := 0) rfl)) c.at_) ?_
  rintro _ w2 ⟨rfl, hk2⟩
  have hS2 := hS1.kp0 hk2
  have hz3 := posAt_le x c.at_
  refine ⟨_, rfl, ?_⟩
  refine J_q 7 rfl rfl rfl rfl (Q_move rfl rfl) ?_
  refine J_q 12 rfl rfl rfl rfl (Q_extract rfl rfl rfl) ?_
  refine J_q 13 rfl rfl rfl rfl (Q_extract rfl rfl rfl) ?_
  refine J_q 5 rfl rfl rfl rfl (Q_assign rfl rfl) ?_
  refine J_q 6 rfl rfl rfl rfl (Q_assign rfl rfl) ?_
  refine J_nil (K_seq ?_)
  refine C_seq ?_
  refine C_region ?_
  refine J_q 14 rfl rfl rfl rfl (Q_move rfl rfl) ?_
  refine J_nil (K_seq ?_)
  refine C_if rfl (fun h4 => ?_) (fun h4 => ?_)
  · refine C_seq ?_
    refine C_seq ?_
    refine C_draw (fun w' => St w w' [(1, blkL g1 (chL c A_c cap_c) 55), (0, fz w (lt_ w))]) 9 mixedOrders 9 rfl (fun w5 hk5 => ?_)
    have hS5 := hS2.kp0 hk5
    refine JA_p 0 15 9 rfl rfl rfl rfl (by kernel_rfl) (by kernel_rfl) (fun _ => Q_move rfl rfl) ?_
    refine JA_p 1 16 9 rfl rfl rfl rfl (by kernel_rfl) (by kernel_rfl) (fun _ => Q_nil rfl rfl) ?_
    refine JA_p 2 17 9 rfl rfl rfl rfl (by kernel_rfl) (by kernel_rfl) (fun _ => Q_fa0 rfl rfl fo117_1) ?_
    refine JA_q 3 18 rfl rfl rfl rfl (by kernel_rfl) (by kernel_rfl) hS5 (fun _ hI => Q_ldC1 (h_x.box _ (hI.get (k := 0) rfl)) rfl rfl Try.isAgg43 rfl) ?_
    refine JA_p 4 19 9 rfl rfl rfl rfl (by kernel_rfl) (by kernel_rfl) (fun _ => Q_move rfl rfl) ?_
    obtain ⟨ad6, es6, hA6, hr6, hc6⟩ := RdF.nth h_x.all (posAt x c.at_) (by omega) (by omega)
    obtain ⟨A6, cap6, rfl, hd6, ho6⟩ := openCh hr6
    have hln6 := RdF.lens hd6
    have hsq6 := ho6.seq
    refine JA_p 5 20 9 rfl rfl rfl rfl (by kernel_rfl) (by kernel_rfl) (fun _ => Q_iaE hA6 rfl rfl rfl Try.underlying43 Try.sizeOf55 (by omega) (by omega)) ?_
    refine JA_q 6 21 rfl rfl rfl rfl (by kernel_rfl) (by kernel_rfl) hS5 (fun _ hI => Q_ldCK' (chL (nth x (posAt x c.at_)) A6 cap6) (hc6 _ (hI.get (k := 0) rfl)) rfl rfl Try.isAgg55 Try.sizeOf55 rfl rfl) ?_
    refine JA_q 7 22 rfl rfl rfl rfl (by kernel_rfl) (by kernel_rfl) hS5 (fun _ hI => Q_ldBK' (k := 1) (chL c A_c cap_c) hI rfl rfl rfl Try.isAgg55 Try.sizeOf55 rfl rfl) ?_
    refine JA_call 8 23 rfl rfl rfl rfl (by kernel_rfl) (T_call rfl rfl rfl Try.call100) (CSame_calls _ _ (nth x (posAt x c.at_)) (hS5.rd 0 rfl hr6) _ c (hS5.rd 0 rfl hF_c)) ?_
    rintro _ w7 ⟨rfl, hk7⟩
    have hS7 := hS5.kp0 hk7
    refine ⟨_, rfl, (fun _ => hS7), ?_⟩
    refine JA_end (by kernel_rfl) (K_seq ?_)
    refine C_if rfl (fun h8 => ?_) (fun h8 => ?_)
    · refine C_seq ?_
      refine C_region ?_
      refine J_q 4 rfl rfl rfl rfl (Q_assign rfl rfl) ?_
      refine J_nil (K_seq ?_)
      refine C_ret (R_then (R_then (body_ret (res1 rfl rfl) ?_)))
      exact ⟨congrArg Ending.returned (eqI (by first | (exact (knownP_5 (by assumption) (by rw [← hpf (by assumption)]; assumption)).symm) | (exact (knownP_7 (by assumption) (by rw [← hpf (by assumption)]; assumption)).symm) | (exact (knownP_7b (by assumption) (by assumption)).symm) | (exact (knownP_0 (by assumption) (by assumption)).symm))), hS7.kept (k := 0) rfl⟩
    · refine C_skip (K_seq ?_)
      refine C_seq ?_
      refine C_region ?_
      refine J_q 4 rfl rfl rfl rfl (Q_assign rfl rfl) ?_
      refine J_nil (K_seq ?_)
      refine C_ret (R_then (body_ret (res1 rfl rfl) ?_))
      exact ⟨congrArg Ending.returned (eqI (by first | (exact (knownP_5 (by assumption) (by rw [← hpf (by assumption)]; assumption)).symm) | (exact (knownP_7 (by assumption) (by rw [← hpf (by assumption)]; assumption)).symm) | (exact (knownP_7b (by assumption) (by assumption)).symm) | (exact (knownP_0 (by assumption) (by assumption)).symm))), hS7.kept (k := 0) rfl⟩
  · refine C_skip (K_seq ?_)
    refine C_seq ?_
    refine C_seq ?_
    refine C_draw (fun w' => St w w' [(1, blkL g1 (chL c A_c cap_c) 55), (0, fz w (lt_ w))]) 12 mixedOrders 12 rfl (fun w9 hk9 => ?_)
    have hS9 := hS2.kp0 hk9
    refine JA_p 0 24 12 rfl rfl rfl rfl (by kernel_rfl) (by kernel_rfl) (fun _ => Q_fa0 rfl rfl fo55_1) ?_
    refine JA_q 1 25 rfl rfl rfl rfl (by kernel_rfl) (by kernel_rfl) hS9 (fun _ hI => Q_ldB1 (k := 1) hI rfl rfl rfl Try.isAgg3 rfl) ?_
    refine JA_p 2 26 12 rfl rfl rfl rfl (by kernel_rfl) (by kernel_rfl) (fun _ => Q_move rfl rfl) ?_
    refine JA_p 3 27 12 rfl rfl rfl rfl (by kernel_rfl) (by kernel_rfl) (fun _ => Q_fa0 rfl rfl fo55_0) ?_
    refine JA_p 4 28 12 rfl rfl rfl rfl (by kernel_rfl) (by kernel_rfl) (fun _ => Q_fa rfl rfl fo23_1 rfl) ?_
    refine JA_q 5 29 rfl rfl rfl rfl (by kernel_rfl) (by kernel_rfl) hS9 (fun _ hI => Q_ldB1 (k := 1) hI rfl rfl rfl Try.isAgg3 rfl) ?_
    refine JA_p 6 30 12 rfl rfl rfl rfl (by kernel_rfl) (by kernel_rfl) (fun _ => Q_nil rfl rfl) ?_
    refine JA_p 7 31 12 rfl rfl rfl rfl (by kernel_rfl) (by kernel_rfl) (fun _ => Q_fa0 rfl rfl fo117_3) ?_
    refine JA_p 8 32 12 rfl rfl rfl rfl (by kernel_rfl) (by kernel_rfl) (fun _ => Q_iaArr rfl rfl rfl Try.underlying115 Try.sizeOf36 (by omega) (by omega)) ?_
    obtain ⟨Aw10, cw10, ew10, hw10, hwl10⟩ := h_x.rowAt c.at_.r (by omega) (by omega)
    have hcw10 := hw10.cap_le
    refine JA_q 9 33 rfl rfl rfl rfl (by kernel_rfl) (by kernel_rfl) hS9 (fun _ hI => Q_ldC1 (h_x.box _ (hI.get (k := 0) rfl)) rfl rfl Try.isAgg36 ((h_x.cget c.at_.r (by omega) (by omega)).trans (by rw [ew10]))) ?_
    refine JA_p 10 34 12 rfl rfl rfl rfl (by kernel_rfl) (by kernel_rfl) (fun _ => Q_len rfl rfl Try.underlying36) ?_
    refine JA_p 11 35 12 rfl rfl rfl rfl (by kernel_rfl) (by kernel_rfl) (fun _ => Q_leq rfl rfl rfl) ?_
    refine JA_end (by kernel_rfl) (K_seq ?_)
    refine C_if rfl (fun h11 => ?_) (fun h11 => ?_)
    · refine C_seq ?_
      refine C_region ?_
      refine J_q 4 rfl rfl rfl rfl (Q_assign rfl rfl) ?_
      refine J_nil (K_seq ?_)
      refine C_ret (R_then (body_ret (res1 rfl rfl) ?_))
      exact ⟨congrArg Ending.returned (eqI (by first | (exact (knownP_5 (by assumption) (by rw [← hpf (by assumption)]; assumption)).symm) | (exact (knownP_7 (by assumption) (by rw [← hpf (by assumption)]; assumption)).symm) | (exact (knownP_7b (by assumption) (by assumption)).symm) | (exact (knownP_0 (by assumption) (by assumption)).symm))), hS9.kept (k := 0) rfl⟩
    · refine C_skip (K_seq ?_)
      refine C_seq ?_
      refine C_region ?_
      refine J_q 4 rfl rfl rfl rfl (Q_assign rfl rfl) ?_
      refine J_nil (K_seq ?_)
      refine C_ret (body_ret (res1 rfl rfl) ?_)
      exact ⟨congrArg Ending.returned (eqI (by first | (exact (knownP_5 (by assumption) (by rw [← hpf (by assumption)]; assumption)).symm) | (exact (knownP_7 (by assumption) (by rw [← hpf (by assumption)]; assumption)).symm) | (exact (knownP_7b (by assumption) (by assumption)).symm) | (exact (knownP_0 (by assumption) (by assumption)).symm))), hS9.kept (k := 0) rfl⟩

theorem LClock_calls (w : World) (g_x : Nat) (p_x : LogP) (xR : Int) (x : List Change) (h_x : LogR w (lt_ w) g_x p_x xR x) :
    Calls Try.prog 50 #[.pointer (some ⟨g_x, 0, none⟩)] w fun e w' => ∃ v0, e = .returned (v0) ∧ Kp no w w' ∧ RdF (tSl tI) w' (nw w w') [v0] (clockR x) := by
  have hS0 := St.start w
  have hle_x := h_x.le
  have hcap_x := h_x.all.cap_le
  refine fn_calls' 23 (args := [_]) Try.func50 rfl rfl rfl ?_
  refine C_seq ?_
  refine C_region ?_
  refine J_q 2 rfl rfl rfl rfl (Q_assign rfl rfl) ?_
  refine J_nil (K_seq ?_)
  refine C_seq ?_
  refine C_seq ?_
  refine C_region ?_
  refine J_q 5 rfl rfl rfl rfl (Q_move rfl rfl) ?_
  refine J_q 6 rfl rfl rfl rfl (Q_eqNilF rfl rfl rfl Try.underlying45) ?_
  refine J_nil (K_seq ?_)
  refine C_false rfl ?_
  refine C_skip (K_seq ?_)
  refine C_seq ?_
  refine C_region ?_
  refine J_q 3 rfl rfl rfl rfl (Q_assign rfl rfl) ?_
  refine J_nil (K_seq ?_)
  refine C_seq ?_
  refine C_seq ?_
  refine C_region ?_
  refine J_q 7 rfl rfl rfl rfl (Q_move rfl rfl) ?_
  refine J_nil (K_seq ?_)
  refine C_block ?_
  have hS1 := hS0.nil 1 3 1
  refine C_loop2 (fun (i : Int) (out : Row Int) => (64 - i).toNat) (fun (i : Int) (out : Row Int) => [(0, .pointer (some (⟨g_x, 0, none⟩ : Addr))), (2, .slice none 0 0), (5, .pointer (some (⟨g_x, 0, none⟩ : Addr))), (6, .bool false), (7, .int .i64 i), (3, .slice out.A out.l.length out.c)]) (fun (i : Int) (out : Row Int) w' => (0 ≤ i) ∧ (i ≤ 64) ∧ (out.l = rowsN x i.toNat) ∧ (Reps tI w no out.l out.f) ∧ St w w' [(1, own 3 1 (.slice out.A out.l.length out.c) out.l.length out.f), (0, fz w (lt_ w))]) 0 (⟨none, 0, [], []⟩) ⟨(by first | omega | rfl), (by first | omega | rfl), (by first | omega | rfl), (Reps.nil _ w _), hS1⟩ ⟨rfl, rfl, rfl, rfl, rfl, rfl, trivial⟩ ?_
  rintro i out w2 ⟨h0, h1, hn, hR_out, hS2⟩
  refine C_seq ?_
  refine C_region ?_
  refine J_q 8 rfl rfl rfl rfl (Q_lss rfl rfl rfl) ?_
  refine J_nil (K_seq ?_)
  refine C_seq ?_
  refine C_if rfl (fun h3 => ?_) (fun h3 => ?_)
  · refine C_skip (K_seq ?_)
    refine C_seq ?_
    refine C_block ?_
    refine C_seq ?_
    refine C_region ?_
    refine J_q 9 rfl rfl rfl rfl (Q_move rfl rfl) ?_
    refine J_q 4 rfl rfl rfl rfl (Q_assign rfl rfl) ?_
    refine J_nil (K_seq ?_)
    refine C_region ?_
    refine J_q 10 rfl rfl rfl rfl (Q_move rfl rfl) ?_
    refine J_q 11 rfl rfl rfl rfl (Q_move rfl rfl) ?_
    refine J_q 12 rfl rfl rfl rfl (Q_move rfl rfl) ?_
    refine J_q 13 rfl rfl rfl rfl (Q_nil rfl rfl) ?_
    refine J_q 14 rfl rfl rfl rfl (Q_fa0 rfl rfl fo117_3) ?_
    refine J_q 15 rfl rfl rfl rfl (Q_iaArr rfl rfl rfl Try.underlying115 Try.sizeOf36 (by omega) (by omega)) ?_
    obtain ⟨Aw4, cw4, ew4, hw4, hwl4⟩ := h_x.rowAt i (by omega) (by omega)
    have hcw4 := hw4.cap_le
    refine J_q 16 rfl rfl rfl rfl (Q_ldC1 (h_x.box _ (hS2.get (k := 0) rfl)) rfl rfl Try.isAgg36 ((h_x.cget i (by omega) (by omega)).trans (by rw [ew4]))) ?_
    refine J_q 17 rfl rfl rfl rfl (Q_len rfl rfl Try.underlying36) ?_
    refine J_do 18 rfl rfl rfl rfl (D_bs (e := 3) (ps := [(0, .tmp 17)]) 2 ([.int .i64 ((rowS x i).length : Int)]) hS2 rfl rfl (fun _ => by kernel_rfl) (fun g5 w5 hS5 => ?_))
    refine J_do 19 rfl rfl rfl rfl (D_app1L ((rowS x i).length : Int) out.l app44 hS5 1 rfl 2 rfl rfl rfl rfl rfl rfl (by first | omega | (have hq := rowsN_len x i.toNat; rw [← hn] at hq; (try simp only [List.length_nil, List.length_append, List.length_cons]); omega)) (by first | omega | (have hq := rowsN_len x i.toNat; rw [← hn] at hq; (try simp only [List.length_nil, List.length_append, List.length_cons]); omega)) (fun g6 cap6 w6 hS6 => ?_))
    refine J_q 3 rfl rfl rfl rfl (Q_assign rfl rfl) ?_
    refine J_nil (N_blk (K_seq ?_))
    refine C_region ?_
    refine J_q 20 rfl rfl rfl rfl (Q_add rfl rfl rfl (by omega) (by omega)) ?_
    refine J_q 7 rfl rfl rfl rfl (Q_move rfl rfl) ?_
    exact J_nil (K_round2 (x0 := i) (x1 := out) (i + 1) ⟨some ⟨g6, 0, none⟩, cap6, out.f ++ [.int .i64 ((rowS x i).length : Int)], out.l ++ [((rowS x i).length : Int)]⟩ ⟨(by first | omega | (rw [rowsN_snoc x h0, ← hn])), (by first | omega | (rw [rowsN_snoc x h0, ← hn])), (by first | omega | (rw [rowsN_snoc x h0, ← hn])), (Reps.snoc hR_out (mkI (by omega))), (hS6.pick [1, 0] ⟨rfl, rfl, rfl, rfl, trivial⟩)⟩ (by omega) ⟨rfl, rfl, rfl, rfl, rfl, rfl, trivial⟩)
  · refine C_exit (X_then (X_then (X_hit (K_seq ?_))))
    refine C_seq ?_
    refine C_region ?_
    refine J_q 21 rfl rfl rfl rfl (Q_move rfl rfl) ?_
    have hr7 := own_rd0 (d := tI) hS2 1 rfl rfl hR_out (by first | omega | (have hq := rowsN_len x i.toNat; rw [← hn] at hq; (try simp only [List.length_nil, List.length_append, List.length_cons]); omega))
    have hS7 := hS2.frzO 1 rfl
    refine J_call 22 rfl rfl rfl rfl (T_call rfl rfl rfl Try.call85) (CTrim_calls _ _ out.l (hS7.rd 1 rfl hr7)) ?_
    rintro _ w8 ⟨vv8_0, rfl, hk8, hr8_0⟩
    have hS8 := hS7.call hk8 3
    obtain ⟨A8_0, cap8_0, rfl, hc8_0, hm8_0⟩ := hr8_0.slice
    refine ⟨_, rfl, ?_⟩
    refine J_q 2 rfl rfl rfl rfl (Q_assign rfl rfl) ?_
    refine J_nil (K_seq ?_)
    refine C_ret (body_ret (res1 rfl rfl) ?_)
    exact ⟨_, rfl, hS8.kept (k := 0) rfl, own_eq (by rw [clockR, counts_rows, hn, show i.toNat = 64 by omega]) (hS8.giveRd (d := tI) rfl 3 rfl rfl hr8_0)⟩
end Go.Proofs.Ytceeellnjckmiaa

