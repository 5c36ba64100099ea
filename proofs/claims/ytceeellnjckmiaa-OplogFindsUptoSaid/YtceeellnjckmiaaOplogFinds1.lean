/- The texts Lc, Sl29, Ld, Sl28, WFinds, merged. Proved: what their theorems say, with no condition but those written. -/
import Derived.Test.YtceeellnjckmiaaRows
import Derived.JoinedCond
import Derived.Deep.Slices
import Derived.WalkKit
import Derived.ProofKit
import Derived.OpenShut
import Derived.ShutString
import Derived.ChangeOld
import Derived.Below
import Derived.Carry
import Derived.Test.YtceeellnjckmiaaBase7
/- Printed by a program of mine (gen.py). -/
set_option linter.unusedVariables false
set_option linter.unusedSimpArgs false
set_option maxRecDepth 100000
namespace Go.Proofs.Ytceeellnjckmiaa
open Go Go.Sl
theorem OplogSince_calls (w : World) (v_l : Value) (l : List Change) (h_l : (tSl tCh).rd w [v_l] l) (v_known : Value) (known : List Int) (h_known : (tSl tI).rd w [v_known] known) (most : Int) (hmr : InR most) :
    Calls Try.prog 7 #[v_l, v_known, .int .i64 most] w fun e w' => e = .returned (.bool true) ∧ Kp no w w' := by
  have hS0 := St.start w
  have hF_l := RdF.of_rd h_l
  obtain ⟨A_l, cap_l, rfl, hc_l, hm_l⟩ := hF_l.slice
  have hF_known := RdF.of_rd h_known
  obtain ⟨A_known, cap_known, rfl, hc_known, hm_known⟩ := hF_known.slice
  refine fn_calls' 53 (args := [_, _, _]) Try.func7 rfl rfl rfl ?_
  refine C_seq ?_
  refine C_region ?_
  refine J_q 6 rfl rfl rfl rfl (Q_assign rfl rfl) ?_
  refine J_nil (K_seq ?_)
  refine C_seq ?_
  refine C_region ?_
  refine J_q 16 rfl rfl rfl rfl (Q_move rfl rfl) ?_
  refine J_call 17 rfl rfl rfl rfl (T_call rfl rfl rfl Try.call23) (Lfilled_calls _ 50 _ l (hS0.rd 0 rfl hF_l) (by omega)) ?_
  rintro _ w1 ⟨gL1, FL1, vF1, rfl, hk1, hFL1, hLL1, GF1, hGF1, hdF1, hrF1⟩
  have hS1 := hS0.new2 (e1 := logE FL1 gL1 50 (addAll 50 l)) (e2 := fz w1 GF1) hk1 1 2 hLL1 (fun _ _ => rfl) hFL1 hGF1 hdF1
  obtain ⟨AF1, cF1, rfl, hcF1, hmF1⟩ := hrF1.slice
  have hlf1 := LogAt.f hLL1
  refine ⟨_, rfl, ?_⟩
  refine J_q 15 rfl rfl rfl rfl (Q_move rfl rfl) ?_
  refine J_q 18 rfl rfl rfl rfl (Q_extract rfl rfl rfl) ?_
  refine J_q 19 rfl rfl rfl rfl (Q_extract rfl rfl rfl) ?_
  refine J_do 8 rfl rfl rfl rfl (D_alloc 3 hS1 rfl Try.zeroValue47 (fun g2 w2 hS2 => ?_))
  refine J_q 7 rfl rfl rfl rfl (Q_assign rfl rfl) ?_
  refine J_do0 rfl rfl rfl rfl (D_store' (k := 3) hS2 rfl rfl rfl rfl Try.sizeOf47 rfl rfl rfl (fun w3 hS3 => ?_))
  refine J_nil (K_seq ?_)
  refine C_seq ?_
  refine C_region ?_
  refine J_q 21 rfl rfl rfl rfl (Q_move rfl rfl) ?_
  refine J_q 22 rfl rfl rfl rfl (Q_move rfl rfl) ?_
  refine J_q 23 rfl rfl rfl rfl (Q_move rfl rfl) ?_
  obtain ⟨pL4, hLR4⟩ := LogAt.logR (hS3.get (k := 1) rfl)
  refine J_call 24 rfl rfl rfl rfl (T_call rfl rfl rfl Try.call42) (LSince_calls _ _ _ _ _ (hLR4.mono (hS3.fpLt (k := 1) rfl)) _ known (hS3.rd 0 rfl hF_known) most (by first | assumption | omega)) ?_
  rintro _ w5 ⟨vv5_0, rfl, hk5, hr5_0⟩
  have hS5 := hS3.call hk5 5
  obtain ⟨A5_0, cap5_0, rfl, hc5_0, hm5_0⟩ := hr5_0.slice
  refine ⟨_, rfl, ?_⟩
  refine J_q 20 rfl rfl rfl rfl (Q_move rfl rfl) ?_
  refine J_q 25 rfl rfl rfl rfl (Q_extract rfl rfl rfl) ?_
  refine J_q 26 rfl rfl rfl rfl (Q_extract rfl rfl rfl) ?_
  refine J_q 27 rfl rfl rfl rfl (Q_extract rfl rfl rfl) ?_
  refine J_q 9 rfl rfl rfl rfl (Q_assign rfl rfl) ?_
  refine J_q 10 rfl rfl rfl rfl (Q_assign rfl rfl) ?_
  refine J_q 11 rfl rfl rfl rfl (Q_assign rfl rfl) ?_
  refine J_nil (K_seq ?_)
  refine C_seq ?_
  refine C_region ?_
  refine J_q 29 rfl rfl rfl rfl (Q_fa0 rfl rfl fo47_1) ?_
  refine J_q 30 rfl rfl rfl rfl (Q_ldB1 (k := 3) hS5 rfl rfl rfl Try.isAgg43 rfl) ?_
  refine J_q 31 rfl rfl rfl rfl (Q_move rfl rfl) ?_
  refine J_q 32 rfl rfl rfl rfl (Q_move rfl rfl) ?_
  refine J_call 33 rfl rfl rfl rfl (T_call rfl rfl rfl Try.call43) (RSince_calls _ GF1 (hS5.fpLt (k := 2) rfl) _ (addAll 50 l) (hS5.rdF 2 rfl hrF1) _ known (hS5.rd 0 rfl hF_known) most) ?_
  rintro _ w6 ⟨vv6_0, rfl, hk6, hr6_0⟩
  have hS6 := hS5.join hk6 2 rfl
  obtain ⟨A6_0, cap6_0, rfl, hc6_0, hm6_0⟩ := hr6_0.slice
  refine ⟨_, rfl, ?_⟩
  refine J_q 28 rfl rfl rfl rfl (Q_move rfl rfl) ?_
  refine J_q 34 rfl rfl rfl rfl (Q_extract rfl rfl rfl) ?_
  refine J_q 35 rfl rfl rfl rfl (Q_extract rfl rfl rfl) ?_
  refine J_q 36 rfl rfl rfl rfl (Q_extract rfl rfl rfl) ?_
  refine J_q 12 rfl rfl rfl rfl (Q_assign rfl rfl) ?_
  refine J_q 13 rfl rfl rfl rfl (Q_assign rfl rfl) ?_
  refine J_q 14 rfl rfl rfl rfl (Q_assign rfl rfl) ?_
  refine J_nil (K_seq ?_)
  refine C_seq ?_
  refine C_region ?_
  refine J_q 37 rfl rfl rfl rfl (Q_move rfl rfl) ?_
  refine J_q 38 rfl rfl rfl rfl (Q_move rfl rfl) ?_
  refine J_call 39 rfl rfl rfl rfl (T_call rfl rfl rfl Try.call44) (SameAll_calls _ _ (sinceL (addAll 50 l) known most) (hS6.rd 5 rfl hr5_0) _ (sinceL (addAll 50 l) known most) (hS6.rd 2 rfl hr6_0)) ?_
  rintro _ w7 ⟨rfl, hk7⟩
  have hS7 := hS6.kp0 hk7
  refine ⟨_, rfl, ?_⟩
  refine J_q 40 rfl rfl rfl rfl (Q_move rfl rfl) ?_
  refine J_setT 40 rfl rfl ?_
  refine J_q 41 rfl rfl rfl rfl (Q_move rfl rfl) ?_
  refine J_q 42 rfl rfl rfl rfl (Q_move rfl rfl) ?_
  refine J_q 43 rfl rfl rfl rfl (Q_toB (c' := true) (Q_eqlB' Try.underlying4 rfl rfl rfl) (by simp)) ?_
  refine J_q 44 rfl rfl rfl rfl (Q_pickT rfl rfl rfl) ?_
  refine J_q 45 rfl rfl rfl rfl (Q_move rfl rfl) ?_
  refine J_q 46 rfl rfl rfl rfl (Q_move rfl rfl) ?_
  refine J_q 47 rfl rfl rfl rfl (Q_move rfl rfl) ?_
  refine J_q 48 rfl rfl rfl rfl (Q_toB (c' := true) (Q_eql rfl rfl rfl) (by simp)) ?_
  refine J_q 49 rfl rfl rfl rfl (Q_pickT rfl rfl rfl) ?_
  refine J_q 50 rfl rfl rfl rfl (Q_move rfl rfl) ?_
  refine J_call 51 rfl rfl rfl rfl (T_call rfl rfl rfl Try.call30) (awake_calls _) ?_
  rintro _ w8 ⟨rfl, hk8⟩
  have hS8 := hS7.kp0 hk8
  refine ⟨_, rfl, ?_⟩
  refine J_q 52 rfl rfl rfl rfl (Q_pickT rfl rfl rfl) ?_
  refine J_q 6 rfl rfl rfl rfl (Q_assign rfl rfl) ?_
  refine J_nil (K_seq ?_)
  refine C_ret (body_ret (res1 rfl rfl) ?_)
  exact ⟨rfl, hS8.kept (k := 0) rfl⟩
end Go.Proofs.Ytceeellnjckmiaa

/- Booleans that differ; what a log's Find and Own hold against the reference's. -/
namespace Go.Sl
open Go Go.RowKit
section
variable {P : Program} {o : Oper} {E : Env} {w : World} {x y : Operand} {t e : TypeId} {b c : Bool}
theorem Q_neqB' (ht : P.underlying t = some .bool) (ho : o.op = .binOp .neq t x y e) (hx : evalE E x = some (.bool b)) (hy : evalE E y = some (.bool c)) : Qt P o E w (.bool (!(b == c))) := fun nt D a ha => by
  have hg : ∀ w : World, (Op.equal t (.bool b) (.bool c)).run P w = .ok (b == c) w := fun w => by
    have hq : ∀ n, (Op.equalIn (n + 1) t (.bool b) (.bool c)).run P w = .ok (b == c) w := fun n => by simp [Op.equalIn, underlying, ht]
    exact hq 9999
  unfold execOp; rw [ho]; simp [ha.eval hx, ha.eval hy, eqGuard, binOp, hg]
end
theorem zero_rd (w : World) : tCh.rd w [.int .i64 0, .int .i64 0, .int .i64 0, .slice none 0 0, .int .i64 0, .int .i64 0, .int .i64 0, .int .i64 0, .int .i64 0, .int .i64 0, .int .i64 0, .string nostr, .string nostr] zeroCh := ⟨none, 0, rfl, rdNil _ _, zeroCh_ok⟩
section
variable {l : List Change} {r q : Int}
theorem Good.own_no (hg : Good l) (h : ¬ (r < 0 ∨ 64 ≤ r)) (h2 : ownAt l r q < 0) : ownE l r q = 4 ∧ ownC l r q = zeroCh := by
  have h3 := hg.own (r := r) (q := q)
  have h4 : ownE l r q = 4 := ownE_4 h (by omega)
  exact ⟨h4, ownC_no (by omega)⟩
theorem Good.own_yes (hg : Good l) (h : ¬ (r < 0 ∨ 64 ≤ r)) (h2 : ¬ ownAt l r q < 0) : ownE l r q = 0 ∧ ownC l r q = nth l (ownAt l r q) := by
  have h3 := (hg.own (r := r) (q := q)).1 (by omega)
  have h4 : ownE l r q = 0 := ownE_0 h (by omega)
  refine ⟨h4, ?_⟩
  rw [ownC_0 h4, ← hg.own_at h3.1 h3.2]
  obtain ⟨ho1, ho2, ho3⟩ := ownAt_at (l := l) (r := r) (q := q) (by omega)
  have hm : nth l (ownAt l r q) ∈ l := nth_mem (by omega) ho1
  have hf : 0 ≤ findAt l (nth l (ownAt l r q)).at_ := findAt_pos.2 ⟨_, hm, rfl⟩
  rw [findC_yes hf]
  exact at_uniq hg.rise (find_mem hf) hm (findAt_at hf).2
theorem own_out (h : r < 0 ∨ 64 ≤ r) : ownE l r q = 1 ∧ ownC l r q = zeroCh := ⟨ownE_1 h, ownC_no (by rw [ownE_1 h]; decide)⟩
end
end Go.Sl

/- Printed by a program of mine (gen.py). -/
set_option maxRecDepth 100000
namespace Go.Proofs.Ytceeellnjckmiaa
open Go Go.Sl
theorem fo62_0 : FieldOk Try.prog 62 0 0 := fieldOk Try.underlying62 rfl rfl Try.sizeOf23
theorem fo62_1 : FieldOk Try.prog 62 1 2 := fieldOk Try.underlying62 rfl rfl Try.sizeOf3
theorem fo62_2 : FieldOk Try.prog 62 2 3 := fieldOk Try.underlying62 rfl rfl Try.sizeOf3
theorem OplogFinds_calls (w : World) (v_l : Value) (l : List Change) (h_l : (tSl tCh).rd w [v_l] l) (ac ar ap aq : Int) (hac : InR ac) (har : InR ar) :
    Calls Try.prog 5 #[v_l, .agg #[.int .i64 ac, .int .i64 ar, .int .i64 ap, .int .i64 aq]] w fun e w' => e = .returned (.bool true) ∧ Kp no w w' := by
  have hS0 := St.start w
  have hF_l := RdF.of_rd h_l
  obtain ⟨A_l, cap_l, rfl, hc_l, hm_l⟩ := hF_l.slice
  refine fn_calls' 117 (args := [_, _]) Try.func5 rfl rfl rfl ?_
  refine C_seq ?_
  refine C_region ?_
  refine J_do 3 rfl rfl rfl rfl (D_box 1 hS0 rfl rfl (fun g1 w1 hS1 => ?_))
  refine J_q 4 rfl rfl rfl rfl (Q_assign rfl rfl) ?_
  refine J_nil (K_seq ?_)
  refine C_seq ?_
  refine C_region ?_
  refine J_q 14 rfl rfl rfl rfl (Q_move rfl rfl) ?_
  refine J_call 15 rfl rfl rfl rfl (T_call rfl rfl rfl Try.call23) (Lfilled_calls _ 50 _ l (hS1.rd 0 rfl hF_l) (by omega)) ?_
  rintro _ w2 ⟨gL2, FL2, vF2, rfl, hk2, hFL2, hLL2, GF2, hGF2, hdF2, hrF2⟩
  have hS2 := hS1.new2 (e1 := logE FL2 gL2 50 (addAll 50 l)) (e2 := fz w2 GF2) hk2 2 3 hLL2 (fun _ _ => rfl) hFL2 hGF2 hdF2
  obtain ⟨AF2, cF2, rfl, hcF2, hmF2⟩ := hrF2.slice
  have hlf2 := LogAt.f hLL2
  have hgF2 := hlf2.1
  refine ⟨_, rfl, ?_⟩
  refine J_q 13 rfl rfl rfl rfl (Q_move rfl rfl) ?_
  refine J_q 16 rfl rfl rfl rfl (Q_extract rfl rfl rfl) ?_
  refine J_q 17 rfl rfl rfl rfl (Q_extract rfl rfl rfl) ?_
  refine J_do 6 rfl rfl rfl rfl (D_alloc 4 hS2 rfl Try.zeroValue47 (fun g3 w3 hS3 => ?_))
  refine J_q 5 rfl rfl rfl rfl (Q_assign rfl rfl) ?_
  refine J_do0 rfl rfl rfl rfl (D_store' (k := 4) hS3 rfl rfl rfl rfl Try.sizeOf47 rfl rfl rfl (fun w4 hS4 => ?_))
  refine J_nil (K_seq ?_)
  refine C_seq ?_
  refine C_region ?_
  refine J_q 19 rfl rfl rfl rfl (Q_move rfl rfl) ?_
  refine J_q 20 rfl rfl rfl rfl (Q_fa0 rfl rfl fo62_0) ?_
  refine J_q 21 rfl rfl rfl rfl (Q_ldBK (k := 1) ([.int .i64 ac, .int .i64 ar]) hS4 rfl rfl rfl Try.isAgg23 Try.sizeOf23 rfl rfl) ?_
  obtain ⟨pL5, hLR5⟩ := LogAt.logR (hS4.get (k := 2) rfl)
  refine J_call 22 rfl rfl rfl rfl (T_call rfl rfl rfl Try.call31) (LFind_calls _ _ _ _ _ (hLR5.mono (hS4.fpLt (k := 2) rfl)) ⟨ac, ar⟩) ?_
  rintro _ w6 ⟨l6_0, rfl, hk6, hr6_0⟩
  have hS6 := hS4.call hk6 6
  obtain ⟨A6_0, cap6_0, rfl, hd6_0, ho6_0⟩ := openCh hr6_0
  have hln6_0 := RdF.lens hd6_0
  have hsq6_0 := ho6_0.seq
  refine ⟨_, rfl, ?_⟩
  refine J_q 18 rfl rfl rfl rfl (Q_move rfl rfl) ?_
  refine J_q 23 rfl rfl rfl rfl (Q_extract rfl rfl rfl) ?_
  refine J_q 24 rfl rfl rfl rfl (Q_extract rfl rfl rfl) ?_
  refine J_do 7 rfl rfl rfl rfl (D_alloc 7 hS6 rfl Try.zeroValue55 (fun g7 w7 hS7 => ?_))
  refine J_do0 rfl rfl rfl rfl (D_store' (k := 7) hS7 rfl rfl rfl rfl Try.sizeOf55 rfl rfl rfl (fun w8 hS8 => ?_))
  refine J_q 8 rfl rfl rfl rfl (Q_assign rfl rfl) ?_
  refine J_nil (K_seq ?_)
  refine C_seq ?_
  refine C_region ?_
  refine J_q 25 rfl rfl rfl rfl (Q_fa0 rfl rfl fo47_1) ?_
  refine J_q 26 rfl rfl rfl rfl (Q_ldB1 (k := 4) hS8 rfl rfl rfl Try.isAgg43 rfl) ?_
  refine J_q 27 rfl rfl rfl rfl (Q_fa0 rfl rfl fo62_0) ?_
  refine J_q 28 rfl rfl rfl rfl (Q_ldBK (k := 1) ([.int .i64 ac, .int .i64 ar]) hS8 rfl rfl rfl Try.isAgg23 Try.sizeOf23 rfl rfl) ?_
  refine J_call 29 rfl rfl rfl rfl (T_call rfl rfl rfl Try.call32) (RFind_calls _ _ (addAll 50 l) (hS8.rd 3 rfl hrF2) ⟨ac, ar⟩) ?_
  rintro _ w9 ⟨rfl, hk9⟩
  have hS9 := hS8.kp0 hk9
  have hz10 := findAt_lt (addAll 50 l) (⟨ac, ar⟩ : Stamp)
  refine ⟨_, rfl, ?_⟩
  refine J_q 9 rfl rfl rfl rfl (Q_assign rfl rfl) ?_
  refine J_nil (K_seq ?_)
  refine C_seq ?_
  refine C_seq ?_
  refine C_draw (fun w' => St w w' [(7, blkL g7 (chL (findC (addAll 50 l) (⟨ac, ar⟩ : Stamp)) A6_0 cap6_0) 55), (6, fz w6 (nw w4 w6)), (4, blkL g3 ([.int .i64 50, .slice AF2 ((addAll 50 l).length) cF2]) 47), (3, fz w2 GF2), (1, blkL g1 ([.int .i64 ac, .int .i64 ar, .int .i64 ap, .int .i64 aq]) 62), (0, fz w (lt_ w))]) 27 mixedOrders 27 rfl (fun w11 hk11 => ?_)
  have hS11 := hS9.kp0 hk11
  refine JA_p 0 30 27 rfl rfl rfl rfl (by kernel_rfl) (by kernel_rfl) (fun _ => Q_move rfl rfl) ?_
  refine JA_p 1 31 27 rfl rfl rfl rfl (by kernel_rfl) (by kernel_rfl) (fun _ => Q_move rfl rfl) ?_
  refine JA_p 2 32 27 rfl rfl rfl rfl (by kernel_rfl) (by kernel_rfl) (fun _ => Q_geq rfl rfl rfl) ?_
  refine JA_p 3 33 27 rfl rfl rfl rfl (by kernel_rfl) (by kernel_rfl) (fun _ => Q_toB (c' := false) (Q_neqB' Try.underlying4 rfl rfl rfl) (by simp)) ?_
  refine JA_p 4 34 27 rfl rfl rfl rfl (by kernel_rfl) (by kernel_rfl) (fun _ => Q_move rfl rfl) ?_
  refine JA_p 5 35 27 rfl rfl rfl rfl (by kernel_rfl) (by kernel_rfl) (fun _ => Q_move rfl rfl) ?_
  refine JA_p 6 36 27 rfl rfl rfl rfl (by kernel_rfl) (by kernel_rfl) (fun _ => Q_move rfl rfl) ?_
  refine JA_split 36 rfl (fun h12 => ?_) (fun h12 => ?_)
  · refine JA_q 7 37 rfl rfl rfl rfl (by kernel_rfl) (by kernel_rfl) (hS11.pick [7, 6, 4, 3, 1, 0] ⟨rfl, rfl, rfl, rfl, rfl, rfl, rfl, rfl, rfl, rfl, rfl, rfl, trivial⟩) (fun _ hI => Q_ldBK' (k := 7) (chL (findC (addAll 50 l) (⟨ac, ar⟩ : Stamp)) A6_0 cap6_0) hI rfl rfl rfl Try.isAgg55 Try.sizeOf55 rfl rfl) ?_
    refine JA_p 8 38 27 rfl rfl rfl rfl (by kernel_rfl) (by kernel_rfl) (fun _ => Q_fa0 rfl rfl fo47_1) ?_
    refine JA_q 9 39 rfl rfl rfl rfl (by kernel_rfl) (by kernel_rfl) (hS11.pick [7, 6, 4, 3, 1, 0] ⟨rfl, rfl, rfl, rfl, rfl, rfl, rfl, rfl, rfl, rfl, rfl, rfl, trivial⟩) (fun _ hI => Q_ldB1 (k := 4) hI rfl rfl rfl Try.isAgg43 rfl) ?_
    refine JA_p 10 40 27 rfl rfl rfl rfl (by kernel_rfl) (by kernel_rfl) (fun _ => Q_move rfl rfl) ?_
    obtain ⟨ad13, es13, hA13, hr13, hc13⟩ := RdF.nth hrF2 (findAt (addAll 50 l) (⟨ac, ar⟩ : Stamp)) (by omega) (by omega)
    obtain ⟨A13, cap13, rfl, hd13, ho13⟩ := openCh hr13
    have hln13 := RdF.lens hd13
    have hsq13 := ho13.seq
    refine JA_p 11 41 27 rfl rfl rfl rfl (by kernel_rfl) (by kernel_rfl) (fun _ => Q_iaE hA13 rfl rfl rfl Try.underlying43 Try.sizeOf55 (by omega) (by omega)) ?_
    refine JA_q 12 42 rfl rfl rfl rfl (by kernel_rfl) (by kernel_rfl) (hS11.pick [7, 6, 4, 3, 1, 0] ⟨rfl, rfl, rfl, rfl, rfl, rfl, rfl, rfl, rfl, rfl, rfl, rfl, trivial⟩) (fun _ hI => Q_ldCK' (chL (nth (addAll 50 l) (findAt (addAll 50 l) (⟨ac, ar⟩ : Stamp))) A13 cap13) (hc13 _ (hI.get (k := 3) rfl)) rfl rfl Try.isAgg55 Try.sizeOf55 rfl rfl) ?_
    refine JA_call 13 43 rfl rfl rfl rfl (by kernel_rfl) (T_call rfl rfl rfl Try.call29) (RSame5_calls _ _ (findC (addAll 50 l) (⟨ac, ar⟩ : Stamp)) (hS11.rd 6 rfl hr6_0) _ (nth (addAll 50 l) (findAt (addAll 50 l) (⟨ac, ar⟩ : Stamp))) (hS11.rd 3 rfl hr13)) ?_
    rintro _ w14 ⟨rfl, hk14⟩
    have hS14 := hS11.kp0 hk14
    refine ⟨_, rfl, (fun _ => ((hS11.kp0 hk14).pick [7, 6, 4, 3, 1, 0] ⟨rfl, rfl, rfl, rfl, rfl, rfl, rfl, rfl, rfl, rfl, rfl, rfl, trivial⟩)), ?_⟩
    refine JA_p 14 44 27 rfl rfl rfl rfl (by kernel_rfl) (by kernel_rfl) (fun _ => Q_not rfl rfl) ?_
    refine JA_p 15 45 27 rfl rfl rfl rfl (by kernel_rfl) (by kernel_rfl) (fun _ => Q_pickT rfl rfl rfl) ?_
    refine JA_p 16 46 27 rfl rfl rfl rfl (by kernel_rfl) (by kernel_rfl) (fun _ => Q_pickF rfl rfl rfl) ?_
    refine JA_p 17 47 27 rfl rfl rfl rfl (by kernel_rfl) (by kernel_rfl) (fun _ => Q_move rfl rfl) ?_
    refine JA_splitN 47 rfl (fun h15 => ?_) (fun h15 => ?_)
    · exact absurd (findC_yes (by assumption)) (by assumption)
    · refine JA_p 18 48 27 rfl rfl rfl rfl (by kernel_rfl) (by kernel_rfl) (fun _ => Q_move rfl rfl) ?_
      refine JA_p 19 49 27 rfl rfl rfl rfl (by kernel_rfl) (by kernel_rfl) (fun _ => Q_not rfl rfl) ?_
      refine JA_p 20 50 27 rfl rfl rfl rfl (by kernel_rfl) (by kernel_rfl) (fun _ => Q_move rfl rfl) ?_
      refine JA_setNF 50 rfl h12 ?_
      refine JA_no 21 27 rfl rfl rfl (by kernel_rfl) (by kernel_rfl) (fun _ h => by cases h; rfl) ?_
      refine JA_no 22 27 rfl rfl rfl (by kernel_rfl) (by kernel_rfl) (fun _ h => by cases h; rfl) ?_
      refine JA_no 23 27 rfl rfl rfl (by kernel_rfl) (by kernel_rfl) (fun _ h => by cases h; rfl) ?_
      refine JA_no 24 27 rfl rfl rfl (by kernel_rfl) (by kernel_rfl) (fun _ h => by cases h; rfl) ?_
      refine JA_p 25 55 27 rfl rfl rfl rfl (by kernel_rfl) (by kernel_rfl) (fun _ => Q_pickF rfl rfl rfl) ?_
      refine JA_p 26 56 27 rfl rfl rfl rfl (by kernel_rfl) (by kernel_rfl) (fun _ => Q_pickF rfl rfl rfl) ?_
      refine JA_end (by kernel_rfl) (K_seq ?_)
      refine C_false rfl ?_
      refine C_skip (K_seq ?_)
      refine C_seq ?_
      refine C_region ?_
      refine J_q 58 rfl rfl rfl rfl (Q_move rfl rfl) ?_
      refine J_q 59 rfl rfl rfl rfl (Q_fa0 rfl rfl fo62_1) ?_
      refine J_q 60 rfl rfl rfl rfl (Q_ldB1 (k := 1) hS14 rfl rfl rfl Try.isAgg3 rfl) ?_
      refine J_q 61 rfl rfl rfl rfl (Q_fa0 rfl rfl fo62_2) ?_
      refine J_q 62 rfl rfl rfl rfl (Q_ldB1 (k := 1) hS14 rfl rfl rfl Try.isAgg3 rfl) ?_
      obtain ⟨pL16, hLR16⟩ := LogAt.logR (hS14.get (k := 2) rfl)
      refine J_call 63 rfl rfl rfl rfl (T_call rfl rfl rfl Try.call33) (LOwn_calls _ _ _ _ _ (hLR16.mono (hS14.fpLt (k := 2) rfl)) ap aq) ?_
      rintro _ w17 ⟨l17_0, rfl, hk17, hr17_0⟩
      have hS17 := hS14.call hk17 9
      obtain ⟨A17_0, cap17_0, rfl, hd17_0, ho17_0⟩ := openCh hr17_0
      have hln17_0 := RdF.lens hd17_0
      have hsq17_0 := ho17_0.seq
      refine ⟨_, rfl, ?_⟩
      refine J_q 57 rfl rfl rfl rfl (Q_move rfl rfl) ?_
      refine J_q 64 rfl rfl rfl rfl (Q_extract rfl rfl rfl) ?_
      refine J_q 65 rfl rfl rfl rfl (Q_extract rfl rfl rfl) ?_
      refine J_do 10 rfl rfl rfl rfl (D_alloc 10 hS17 rfl Try.zeroValue55 (fun g18 w18 hS18 => ?_))
      refine J_do0 rfl rfl rfl rfl (D_store' (k := 10) hS18 rfl rfl rfl rfl Try.sizeOf55 rfl rfl rfl (fun w19 hS19 => ?_))
      refine J_q 11 rfl rfl rfl rfl (Q_assign rfl rfl) ?_
      refine J_nil (K_seq ?_)
      refine C_seq ?_
      refine C_region ?_
      refine J_q 66 rfl rfl rfl rfl (Q_fa0 rfl rfl fo47_1) ?_
      refine J_q 67 rfl rfl rfl rfl (Q_ldB1 (k := 4) hS19 rfl rfl rfl Try.isAgg43 rfl) ?_
      refine J_q 68 rfl rfl rfl rfl (Q_fa0 rfl rfl fo62_1) ?_
      refine J_q 69 rfl rfl rfl rfl (Q_ldB1 (k := 1) hS19 rfl rfl rfl Try.isAgg3 rfl) ?_
      refine J_q 70 rfl rfl rfl rfl (Q_fa0 rfl rfl fo62_2) ?_
      refine J_q 71 rfl rfl rfl rfl (Q_ldB1 (k := 1) hS19 rfl rfl rfl Try.isAgg3 rfl) ?_
      refine J_call 72 rfl rfl rfl rfl (T_call rfl rfl rfl Try.call34) (ROwn_calls _ _ (addAll 50 l) (hS19.rd 3 rfl hrF2) ap aq) ?_
      rintro _ w20 ⟨rfl, hk20⟩
      have hS20 := hS19.kp0 hk20
      have hz21 := ownAt_lt (addAll 50 l) ap aq
      refine ⟨_, rfl, ?_⟩
      refine J_q 12 rfl rfl rfl rfl (Q_assign rfl rfl) ?_
      refine J_nil (K_seq ?_)
      refine C_seq ?_
      refine C_seq ?_
      refine C_region ?_
      refine J_q 73 rfl rfl rfl rfl (Q_fa0 rfl rfl fo62_1) ?_
      refine J_q 74 rfl rfl rfl rfl (Q_ldB1 (k := 1) hS20 rfl rfl rfl Try.isAgg3 rfl) ?_
      refine J_q 75 rfl rfl rfl rfl (Q_lss rfl rfl rfl) ?_
      refine J_q 76 rfl rfl rfl rfl (Q_move rfl rfl) ?_
      refine J_split 76 rfl (fun h22 => ?_) (fun h22 => ?_)
      · refine J_no rfl rfl rfl ?_
        refine J_no rfl rfl rfl ?_
        refine J_no rfl rfl rfl ?_
        refine J_q 80 rfl rfl rfl rfl (Q_pickT rfl rfl rfl) ?_
        refine J_nil (K_seq ?_)
        refine C_true rfl ?_
        refine C_seq ?_
        refine C_region ?_
        refine J_q 81 rfl rfl rfl rfl (Q_move rfl rfl) ?_
        refine J_q 82 rfl rfl rfl rfl (Q_eql rfl rfl rfl) ?_
        refine J_q 83 rfl rfl rfl rfl (Q_move rfl rfl) ?_
        refine J_split 83 rfl (fun h23 => ?_) (fun h23 => ?_)
        · refine J_q 84 rfl rfl rfl rfl (Q_ldBK' (k := 10) (chL (ownC (addAll 50 l) ap aq) A17_0 cap17_0) hS20 rfl rfl rfl Try.isAgg55 Try.sizeOf55 rfl rfl) ?_
          refine J_q 85 rfl rfl rfl rfl (Q_bld (v := .agg ([.int .i64 0, .int .i64 0, .int .i64 0, .slice none 0 0, .int .i64 0, .int .i64 0, .int .i64 0, .int .i64 0, .int .i64 0, .int .i64 0, .int .i64 0, .string nostr, .string nostr]).toArray) (ps := []) rfl rfl (fun _ => by kernel_rfl)) ?_
          refine J_call 86 rfl rfl rfl rfl (T_call rfl rfl rfl Try.call29) (RSame5_calls _ _ (ownC (addAll 50 l) ap aq) (hS20.rd 9 rfl hr17_0) _ zeroCh (zero_rd _)) ?_
          rintro _ w24 ⟨rfl, hk24⟩
          have hS24 := hS20.kp0 hk24
          refine ⟨_, rfl, ?_⟩
          refine J_q 87 rfl rfl rfl rfl (Q_pickT rfl rfl rfl) ?_
          refine J_q 88 rfl rfl rfl rfl (Q_move rfl rfl) ?_
          refine J_split 88 rfl (fun h25 => ?_) (fun h25 => ?_)
          · refine J_call 89 rfl rfl rfl rfl (T_call rfl rfl rfl Try.call30) (awake_calls _) ?_
            rintro _ w26 ⟨rfl, hk26⟩
            have hS26 := hS24.kp0 hk26
            refine ⟨_, rfl, ?_⟩
            refine J_q 90 rfl rfl rfl rfl (Q_pickT rfl rfl rfl) ?_
            refine J_q 4 rfl rfl rfl rfl (Q_assign rfl rfl) ?_
            refine J_nil (K_seq ?_)
            refine C_ret (R_then (body_ret (res1 rfl rfl) ?_))
            exact ⟨rfl, hS26.kept (k := 0) rfl⟩
          · first | exact absurd (own_out (l := (addAll 50 l)) (r := ap) (q := aq) (by omega)).2 (by assumption) | exact absurd (hgF2.own_no (q := aq) (r := ap) (by omega) (by omega)).2 (by assumption)
        · exact absurd (own_out (l := (addAll 50 l)) (r := ap) (q := aq) (by omega)).1 (by assumption)
      · refine J_q 77 rfl rfl rfl rfl (Q_fa0 rfl rfl fo62_1) ?_
        refine J_q 78 rfl rfl rfl rfl (Q_ldB1 (k := 1) hS20 rfl rfl rfl Try.isAgg3 rfl) ?_
        refine J_q 79 rfl rfl rfl rfl (Q_geq rfl rfl rfl) ?_
        refine J_q 80 rfl rfl rfl rfl (Q_pickF rfl rfl rfl) ?_
        refine J_nil (K_seq ?_)
        refine C_if rfl (fun h27 => ?_) (fun h27 => ?_)
        · refine C_seq ?_
          refine C_region ?_
          refine J_q 81 rfl rfl rfl rfl (Q_move rfl rfl) ?_
          refine J_q 82 rfl rfl rfl rfl (Q_eql rfl rfl rfl) ?_
          refine J_q 83 rfl rfl rfl rfl (Q_move rfl rfl) ?_
          refine J_split 83 rfl (fun h28 => ?_) (fun h28 => ?_)
          · refine J_q 84 rfl rfl rfl rfl (Q_ldBK' (k := 10) (chL (ownC (addAll 50 l) ap aq) A17_0 cap17_0) hS20 rfl rfl rfl Try.isAgg55 Try.sizeOf55 rfl rfl) ?_
            refine J_q 85 rfl rfl rfl rfl (Q_bld (v := .agg ([.int .i64 0, .int .i64 0, .int .i64 0, .slice none 0 0, .int .i64 0, .int .i64 0, .int .i64 0, .int .i64 0, .int .i64 0, .int .i64 0, .int .i64 0, .string nostr, .string nostr]).toArray) (ps := []) rfl rfl (fun _ => by kernel_rfl)) ?_
            refine J_call 86 rfl rfl rfl rfl (T_call rfl rfl rfl Try.call29) (RSame5_calls _ _ (ownC (addAll 50 l) ap aq) (hS20.rd 9 rfl hr17_0) _ zeroCh (zero_rd _)) ?_
            rintro _ w29 ⟨rfl, hk29⟩
            have hS29 := hS20.kp0 hk29
            refine ⟨_, rfl, ?_⟩
            refine J_q 87 rfl rfl rfl rfl (Q_pickT rfl rfl rfl) ?_
            refine J_q 88 rfl rfl rfl rfl (Q_move rfl rfl) ?_
            refine J_split 88 rfl (fun h30 => ?_) (fun h30 => ?_)
            · refine J_call 89 rfl rfl rfl rfl (T_call rfl rfl rfl Try.call30) (awake_calls _) ?_
              rintro _ w31 ⟨rfl, hk31⟩
              have hS31 := hS29.kp0 hk31
              refine ⟨_, rfl, ?_⟩
              refine J_q 90 rfl rfl rfl rfl (Q_pickT rfl rfl rfl) ?_
              refine J_q 4 rfl rfl rfl rfl (Q_assign rfl rfl) ?_
              refine J_nil (K_seq ?_)
              refine C_ret (R_then (body_ret (res1 rfl rfl) ?_))
              exact ⟨rfl, hS31.kept (k := 0) rfl⟩
            · first | exact absurd (own_out (l := (addAll 50 l)) (r := ap) (q := aq) (by omega)).2 (by assumption) | exact absurd (hgF2.own_no (q := aq) (r := ap) (by omega) (by omega)).2 (by assumption)
          · exact absurd (own_out (l := (addAll 50 l)) (r := ap) (q := aq) (by omega)).1 (by assumption)
        · refine C_skip (K_seq ?_)
          refine C_seq ?_
          refine C_seq ?_
          refine C_region ?_
          refine J_q 91 rfl rfl rfl rfl (Q_move rfl rfl) ?_
          refine J_q 92 rfl rfl rfl rfl (Q_lss rfl rfl rfl) ?_
          refine J_nil (K_seq ?_)
          refine C_if rfl (fun h32 => ?_) (fun h32 => ?_)
          · refine C_seq ?_
            refine C_region ?_
            refine J_q 93 rfl rfl rfl rfl (Q_move rfl rfl) ?_
            refine J_q 94 rfl rfl rfl rfl (Q_eql rfl rfl rfl) ?_
            refine J_q 95 rfl rfl rfl rfl (Q_move rfl rfl) ?_
            refine J_split 95 rfl (fun h33 => ?_) (fun h33 => ?_)
            · refine J_q 96 rfl rfl rfl rfl (Q_ldBK' (k := 10) (chL (ownC (addAll 50 l) ap aq) A17_0 cap17_0) hS20 rfl rfl rfl Try.isAgg55 Try.sizeOf55 rfl rfl) ?_
              refine J_q 97 rfl rfl rfl rfl (Q_bld (v := .agg ([.int .i64 0, .int .i64 0, .int .i64 0, .slice none 0 0, .int .i64 0, .int .i64 0, .int .i64 0, .int .i64 0, .int .i64 0, .int .i64 0, .int .i64 0, .string nostr, .string nostr]).toArray) (ps := []) rfl rfl (fun _ => by kernel_rfl)) ?_
              refine J_call 98 rfl rfl rfl rfl (T_call rfl rfl rfl Try.call29) (RSame5_calls _ _ (ownC (addAll 50 l) ap aq) (hS20.rd 9 rfl hr17_0) _ zeroCh (zero_rd _)) ?_
              rintro _ w34 ⟨rfl, hk34⟩
              have hS34 := hS20.kp0 hk34
              refine ⟨_, rfl, ?_⟩
              refine J_q 99 rfl rfl rfl rfl (Q_pickT rfl rfl rfl) ?_
              refine J_q 100 rfl rfl rfl rfl (Q_move rfl rfl) ?_
              refine J_split 100 rfl (fun h35 => ?_) (fun h35 => ?_)
              · refine J_call 101 rfl rfl rfl rfl (T_call rfl rfl rfl Try.call30) (awake_calls _) ?_
                rintro _ w36 ⟨rfl, hk36⟩
                have hS36 := hS34.kp0 hk36
                refine ⟨_, rfl, ?_⟩
                refine J_q 102 rfl rfl rfl rfl (Q_pickT rfl rfl rfl) ?_
                refine J_q 4 rfl rfl rfl rfl (Q_assign rfl rfl) ?_
                refine J_nil (K_seq ?_)
                refine C_ret (R_then (body_ret (res1 rfl rfl) ?_))
                exact ⟨rfl, hS36.kept (k := 0) rfl⟩
              · first | exact absurd (own_out (l := (addAll 50 l)) (r := ap) (q := aq) (by omega)).2 (by assumption) | exact absurd (hgF2.own_no (q := aq) (r := ap) (by omega) (by omega)).2 (by assumption)
            · exact absurd (hgF2.own_no (q := aq) (r := ap) (by omega) (by omega)).1 (by assumption)
          · refine C_skip (K_seq ?_)
            refine C_seq ?_
            refine C_draw (fun w' => St w w' [(10, blkL g18 (chL (ownC (addAll 50 l) ap aq) A17_0 cap17_0) 55), (9, fz w17 (nw w14 w17)), (7, blkL g7 (chL (findC (addAll 50 l) (⟨ac, ar⟩ : Stamp)) A6_0 cap6_0) 55), (6, fz w6 (nw w4 w6)), (4, blkL g3 ([.int .i64 50, .slice AF2 ((addAll 50 l).length) cF2]) 47), (3, fz w2 GF2), (1, blkL g1 ([.int .i64 ac, .int .i64 ar, .int .i64 ap, .int .i64 aq]) 62), (0, fz w (lt_ w))]) 15 mixedOrders 15 rfl (fun w37 hk37 => ?_)
            have hS37 := hS20.kp0 hk37
            refine JA_p 0 103 15 rfl rfl rfl rfl (by kernel_rfl) (by kernel_rfl) (fun _ => Q_move rfl rfl) ?_
            refine JA_p 1 104 15 rfl rfl rfl rfl (by kernel_rfl) (by kernel_rfl) (fun _ => Q_eql rfl rfl rfl) ?_
            refine JA_p 2 105 15 rfl rfl rfl rfl (by kernel_rfl) (by kernel_rfl) (fun _ => Q_move rfl rfl) ?_
            refine JA_split 105 rfl (fun h38 => ?_) (fun h38 => ?_)
            · refine JA_q 3 106 rfl rfl rfl rfl (by kernel_rfl) (by kernel_rfl) (hS37.pick [10, 9, 7, 6, 4, 3, 1, 0] ⟨rfl, rfl, rfl, rfl, rfl, rfl, rfl, rfl, rfl, rfl, rfl, rfl, rfl, rfl, rfl, rfl, trivial⟩) (fun _ hI => Q_ldBK' (k := 10) (chL (ownC (addAll 50 l) ap aq) A17_0 cap17_0) hI rfl rfl rfl Try.isAgg55 Try.sizeOf55 rfl rfl) ?_
              refine JA_p 4 107 15 rfl rfl rfl rfl (by kernel_rfl) (by kernel_rfl) (fun _ => Q_fa0 rfl rfl fo47_1) ?_
              refine JA_q 5 108 rfl rfl rfl rfl (by kernel_rfl) (by kernel_rfl) (hS37.pick [10, 9, 7, 6, 4, 3, 1, 0] ⟨rfl, rfl, rfl, rfl, rfl, rfl, rfl, rfl, rfl, rfl, rfl, rfl, rfl, rfl, rfl, rfl, trivial⟩) (fun _ hI => Q_ldB1 (k := 4) hI rfl rfl rfl Try.isAgg43 rfl) ?_
              refine JA_p 6 109 15 rfl rfl rfl rfl (by kernel_rfl) (by kernel_rfl) (fun _ => Q_move rfl rfl) ?_
              obtain ⟨ad39, es39, hA39, hr39, hc39⟩ := RdF.nth hrF2 (ownAt (addAll 50 l) ap aq) (by omega) (by omega)
              obtain ⟨A39, cap39, rfl, hd39, ho39⟩ := openCh hr39
              have hln39 := RdF.lens hd39
              have hsq39 := ho39.seq
              refine JA_p 7 110 15 rfl rfl rfl rfl (by kernel_rfl) (by kernel_rfl) (fun _ => Q_iaE hA39 rfl rfl rfl Try.underlying43 Try.sizeOf55 (by omega) (by omega)) ?_
              refine JA_q 8 111 rfl rfl rfl rfl (by kernel_rfl) (by kernel_rfl) (hS37.pick [10, 9, 7, 6, 4, 3, 1, 0] ⟨rfl, rfl, rfl, rfl, rfl, rfl, rfl, rfl, rfl, rfl, rfl, rfl, rfl, rfl, rfl, rfl, trivial⟩) (fun _ hI => Q_ldCK' (chL (nth (addAll 50 l) (ownAt (addAll 50 l) ap aq)) A39 cap39) (hc39 _ (hI.get (k := 3) rfl)) rfl rfl Try.isAgg55 Try.sizeOf55 rfl rfl) ?_
              refine JA_call 9 112 rfl rfl rfl rfl (by kernel_rfl) (T_call rfl rfl rfl Try.call29) (RSame5_calls _ _ (ownC (addAll 50 l) ap aq) (hS37.rd 9 rfl hr17_0) _ (nth (addAll 50 l) (ownAt (addAll 50 l) ap aq)) (hS37.rd 3 rfl hr39)) ?_
              rintro _ w40 ⟨rfl, hk40⟩
              have hS40 := hS37.kp0 hk40
              refine ⟨_, rfl, (fun _ => ((hS37.kp0 hk40).pick [10, 9, 7, 6, 4, 3, 1, 0] ⟨rfl, rfl, rfl, rfl, rfl, rfl, rfl, rfl, rfl, rfl, rfl, rfl, rfl, rfl, rfl, rfl, trivial⟩)), ?_⟩
              refine JA_p 10 113 15 rfl rfl rfl rfl (by kernel_rfl) (by kernel_rfl) (fun _ => Q_pickT rfl rfl rfl) ?_
              refine JA_p 11 114 15 rfl rfl rfl rfl (by kernel_rfl) (by kernel_rfl) (fun _ => Q_move rfl rfl) ?_
              refine JA_split 114 rfl (fun h41 => ?_) (fun h41 => ?_)
              · refine JA_call 12 115 rfl rfl rfl rfl (by kernel_rfl) (T_call rfl rfl rfl Try.call30) (awake_calls _) ?_
                rintro _ w42 ⟨rfl, hk42⟩
                have hS42 := hS40.kp0 hk42
                refine ⟨_, rfl, (fun _ => ((hS40.kp0 hk42).pick [10, 9, 7, 6, 4, 3, 1, 0] ⟨rfl, rfl, rfl, rfl, rfl, rfl, rfl, rfl, rfl, rfl, rfl, rfl, rfl, rfl, rfl, rfl, trivial⟩)), ?_⟩
                refine JA_p 13 116 15 rfl rfl rfl rfl (by kernel_rfl) (by kernel_rfl) (fun _ => Q_pickT rfl rfl rfl) ?_
                refine JA_p 14 4 15 rfl rfl rfl rfl (by kernel_rfl) (by kernel_rfl) (fun _ => Q_assign rfl rfl) ?_
                refine JA_end (by kernel_rfl) (K_seq ?_)
                refine C_ret (body_ret (res1 rfl rfl) ?_)
                exact ⟨rfl, hS42.kept (k := 0) rfl⟩
              · exact absurd (hgF2.own_yes (q := aq) (r := ap) (by omega) (by omega)).2 (by assumption)
            · exact absurd (hgF2.own_yes (q := aq) (r := ap) (by omega) (by omega)).1 (by assumption)
  · refine JA_no 7 27 rfl rfl rfl (by kernel_rfl) (by kernel_rfl) (fun _ h => by cases h; rfl) ?_
    refine JA_no 8 27 rfl rfl rfl (by kernel_rfl) (by kernel_rfl) (fun _ h => by cases h; rfl) ?_
    refine JA_no 9 27 rfl rfl rfl (by kernel_rfl) (by kernel_rfl) (fun _ h => by cases h; rfl) ?_
    refine JA_no 10 27 rfl rfl rfl (by kernel_rfl) (by kernel_rfl) (fun _ h => by cases h; rfl) ?_
    refine JA_no 11 27 rfl rfl rfl (by kernel_rfl) (by kernel_rfl) (fun _ h => by cases h; rfl) ?_
    refine JA_no 12 27 rfl rfl rfl (by kernel_rfl) (by kernel_rfl) (fun _ h => by cases h; rfl) ?_
    refine JA_no 13 27 rfl rfl rfl (by kernel_rfl) (by kernel_rfl) (fun _ h => by cases h; rfl) ?_
    refine JA_no 14 27 rfl rfl rfl (by kernel_rfl) (by kernel_rfl) (fun _ h => by cases h; rfl) ?_
    refine JA_p 15 45 27 rfl rfl rfl rfl (by kernel_rfl) (by kernel_rfl) (fun _ => Q_pickF rfl rfl rfl) ?_
    refine JA_p 16 46 27 rfl rfl rfl rfl (by kernel_rfl) (by kernel_rfl) (fun _ => Q_pickF rfl rfl rfl) ?_
    refine JA_p 17 47 27 rfl rfl rfl rfl (by kernel_rfl) (by kernel_rfl) (fun _ => Q_move rfl rfl) ?_
    refine JA_p 18 48 27 rfl rfl rfl rfl (by kernel_rfl) (by kernel_rfl) (fun _ => Q_move rfl rfl) ?_
    refine JA_p 19 49 27 rfl rfl rfl rfl (by kernel_rfl) (by kernel_rfl) (fun _ => Q_not rfl rfl) ?_
    refine JA_p 20 50 27 rfl rfl rfl rfl (by kernel_rfl) (by kernel_rfl) (fun _ => Q_move rfl rfl) ?_
    refine JA_setNT 50 rfl h12 ?_
    refine JA_q 21 51 rfl rfl rfl rfl (by kernel_rfl) (by kernel_rfl) (hS11.pick [7, 6, 4, 3, 1, 0] ⟨rfl, rfl, rfl, rfl, rfl, rfl, rfl, rfl, rfl, rfl, rfl, rfl, trivial⟩) (fun _ hI => Q_ldBK' (k := 7) (chL (findC (addAll 50 l) (⟨ac, ar⟩ : Stamp)) A6_0 cap6_0) hI rfl rfl rfl Try.isAgg55 Try.sizeOf55 rfl rfl) ?_
    refine JA_p 22 52 27 rfl rfl rfl rfl (by kernel_rfl) (by kernel_rfl) (fun _ => Q_bld (v := .agg ([.int .i64 0, .int .i64 0, .int .i64 0, .slice none 0 0, .int .i64 0, .int .i64 0, .int .i64 0, .int .i64 0, .int .i64 0, .int .i64 0, .int .i64 0, .string nostr, .string nostr]).toArray) (ps := []) rfl rfl (fun _ => by kernel_rfl)) ?_
    refine JA_call 23 53 rfl rfl rfl rfl (by kernel_rfl) (T_call rfl rfl rfl Try.call29) (RSame5_calls _ _ (findC (addAll 50 l) (⟨ac, ar⟩ : Stamp)) (hS11.rd 6 rfl hr6_0) _ zeroCh (zero_rd _)) ?_
    rintro _ w43 ⟨rfl, hk43⟩
    have hS43 := hS11.kp0 hk43
    refine ⟨_, rfl, (fun _ => ((hS11.kp0 hk43).pick [7, 6, 4, 3, 1, 0] ⟨rfl, rfl, rfl, rfl, rfl, rfl, rfl, rfl, rfl, rfl, rfl, rfl, trivial⟩)), ?_⟩
    refine JA_p 24 54 27 rfl rfl rfl rfl (by kernel_rfl) (by kernel_rfl) (fun _ => Q_not rfl rfl) ?_
    refine JA_p 25 55 27 rfl rfl rfl rfl (by kernel_rfl) (by kernel_rfl) (fun _ => Q_pickT rfl rfl rfl) ?_
    refine JA_p 26 56 27 rfl rfl rfl rfl (by kernel_rfl) (by kernel_rfl) (fun _ => Q_pickF rfl rfl rfl) ?_
    refine JA_end (by kernel_rfl) (K_seq ?_)
    refine C_ifN rfl (fun h44 => ?_) (fun h44 => ?_)
    · exact absurd (findC_no (by assumption)) (by assumption)
    · refine C_skip (K_seq ?_)
      refine C_seq ?_
      refine C_region ?_
      refine J_q 58 rfl rfl rfl rfl (Q_move rfl rfl) ?_
      refine J_q 59 rfl rfl rfl rfl (Q_fa0 rfl rfl fo62_1) ?_
      refine J_q 60 rfl rfl rfl rfl (Q_ldB1 (k := 1) hS43 rfl rfl rfl Try.isAgg3 rfl) ?_
      refine J_q 61 rfl rfl rfl rfl (Q_fa0 rfl rfl fo62_2) ?_
      refine J_q 62 rfl rfl rfl rfl (Q_ldB1 (k := 1) hS43 rfl rfl rfl Try.isAgg3 rfl) ?_
      obtain ⟨pL45, hLR45⟩ := LogAt.logR (hS43.get (k := 2) rfl)
      refine J_call 63 rfl rfl rfl rfl (T_call rfl rfl rfl Try.call33) (LOwn_calls _ _ _ _ _ (hLR45.mono (hS43.fpLt (k := 2) rfl)) ap aq) ?_
      rintro _ w46 ⟨l46_0, rfl, hk46, hr46_0⟩
      have hS46 := hS43.call hk46 12
      obtain ⟨A46_0, cap46_0, rfl, hd46_0, ho46_0⟩ := openCh hr46_0
      have hln46_0 := RdF.lens hd46_0
      have hsq46_0 := ho46_0.seq
      refine ⟨_, rfl, ?_⟩
      refine J_q 57 rfl rfl rfl rfl (Q_move rfl rfl) ?_
      refine J_q 64 rfl rfl rfl rfl (Q_extract rfl rfl rfl) ?_
      refine J_q 65 rfl rfl rfl rfl (Q_extract rfl rfl rfl) ?_
      refine J_do 10 rfl rfl rfl rfl (D_alloc 13 hS46 rfl Try.zeroValue55 (fun g47 w47 hS47 => ?_))
      refine J_do0 rfl rfl rfl rfl (D_store' (k := 13) hS47 rfl rfl rfl rfl Try.sizeOf55 rfl rfl rfl (fun w48 hS48 => ?_))
      refine J_q 11 rfl rfl rfl rfl (Q_assign rfl rfl) ?_
      refine J_nil (K_seq ?_)
      refine C_seq ?_
      refine C_region ?_
      refine J_q 66 rfl rfl rfl rfl (Q_fa0 rfl rfl fo47_1) ?_
      refine J_q 67 rfl rfl rfl rfl (Q_ldB1 (k := 4) hS48 rfl rfl rfl Try.isAgg43 rfl) ?_
      refine J_q 68 rfl rfl rfl rfl (Q_fa0 rfl rfl fo62_1) ?_
      refine J_q 69 rfl rfl rfl rfl (Q_ldB1 (k := 1) hS48 rfl rfl rfl Try.isAgg3 rfl) ?_
      refine J_q 70 rfl rfl rfl rfl (Q_fa0 rfl rfl fo62_2) ?_
      refine J_q 71 rfl rfl rfl rfl (Q_ldB1 (k := 1) hS48 rfl rfl rfl Try.isAgg3 rfl) ?_
      refine J_call 72 rfl rfl rfl rfl (T_call rfl rfl rfl Try.call34) (ROwn_calls _ _ (addAll 50 l) (hS48.rd 3 rfl hrF2) ap aq) ?_
      rintro _ w49 ⟨rfl, hk49⟩
      have hS49 := hS48.kp0 hk49
      have hz50 := ownAt_lt (addAll 50 l) ap aq
      refine ⟨_, rfl, ?_⟩
      refine J_q 12 rfl rfl rfl rfl (Q_assign rfl rfl) ?_
      refine J_nil (K_seq ?_)
      refine C_seq ?_
      refine C_seq ?_
      refine C_region ?_
      refine J_q 73 rfl rfl rfl rfl (Q_fa0 rfl rfl fo62_1) ?_
      refine J_q 74 rfl rfl rfl rfl (Q_ldB1 (k := 1) hS49 rfl rfl rfl Try.isAgg3 rfl) ?_
      refine J_q 75 rfl rfl rfl rfl (Q_lss rfl rfl rfl) ?_
      refine J_q 76 rfl rfl rfl rfl (Q_move rfl rfl) ?_
      refine J_split 76 rfl (fun h51 => ?_) (fun h51 => ?_)
      · refine J_no rfl rfl rfl ?_
        refine J_no rfl rfl rfl ?_
        refine J_no rfl rfl rfl ?_
        refine J_q 80 rfl rfl rfl rfl (Q_pickT rfl rfl rfl) ?_
        refine J_nil (K_seq ?_)
        refine C_true rfl ?_
        refine C_seq ?_
        refine C_region ?_
        refine J_q 81 rfl rfl rfl rfl (Q_move rfl rfl) ?_
        refine J_q 82 rfl rfl rfl rfl (Q_eql rfl rfl rfl) ?_
        refine J_q 83 rfl rfl rfl rfl (Q_move rfl rfl) ?_
        refine J_split 83 rfl (fun h52 => ?_) (fun h52 => ?_)
        · refine J_q 84 rfl rfl rfl rfl (Q_ldBK' (k := 13) (chL (ownC (addAll 50 l) ap aq) A46_0 cap46_0) hS49 rfl rfl rfl Try.isAgg55 Try.sizeOf55 rfl rfl) ?_
          refine J_q 85 rfl rfl rfl rfl (Q_bld (v := .agg ([.int .i64 0, .int .i64 0, .int .i64 0, .slice none 0 0, .int .i64 0, .int .i64 0, .int .i64 0, .int .i64 0, .int .i64 0, .int .i64 0, .int .i64 0, .string nostr, .string nostr]).toArray) (ps := []) rfl rfl (fun _ => by kernel_rfl)) ?_
          refine J_call 86 rfl rfl rfl rfl (T_call rfl rfl rfl Try.call29) (RSame5_calls _ _ (ownC (addAll 50 l) ap aq) (hS49.rd 12 rfl hr46_0) _ zeroCh (zero_rd _)) ?_
          rintro _ w53 ⟨rfl, hk53⟩
          have hS53 := hS49.kp0 hk53
          refine ⟨_, rfl, ?_⟩
          refine J_q 87 rfl rfl rfl rfl (Q_pickT rfl rfl rfl) ?_
          refine J_q 88 rfl rfl rfl rfl (Q_move rfl rfl) ?_
          refine J_split 88 rfl (fun h54 => ?_) (fun h54 => ?_)
          · refine J_call 89 rfl rfl rfl rfl (T_call rfl rfl rfl Try.call30) (awake_calls _) ?_
            rintro _ w55 ⟨rfl, hk55⟩
            have hS55 := hS53.kp0 hk55
            refine ⟨_, rfl, ?_⟩
            refine J_q 90 rfl rfl rfl rfl (Q_pickT rfl rfl rfl) ?_
            refine J_q 4 rfl rfl rfl rfl (Q_assign rfl rfl) ?_
            refine J_nil (K_seq ?_)
            refine C_ret (R_then (body_ret (res1 rfl rfl) ?_))
            exact ⟨rfl, hS55.kept (k := 0) rfl⟩
          · first | exact absurd (own_out (l := (addAll 50 l)) (r := ap) (q := aq) (by omega)).2 (by assumption) | exact absurd (hgF2.own_no (q := aq) (r := ap) (by omega) (by omega)).2 (by assumption)
        · exact absurd (own_out (l := (addAll 50 l)) (r := ap) (q := aq) (by omega)).1 (by assumption)
      · refine J_q 77 rfl rfl rfl rfl (Q_fa0 rfl rfl fo62_1) ?_
        refine J_q 78 rfl rfl rfl rfl (Q_ldB1 (k := 1) hS49 rfl rfl rfl Try.isAgg3 rfl) ?_
        refine J_q 79 rfl rfl rfl rfl (Q_geq rfl rfl rfl) ?_
        refine J_q 80 rfl rfl rfl rfl (Q_pickF rfl rfl rfl) ?_
        refine J_nil (K_seq ?_)
        refine C_if rfl (fun h56 => ?_) (fun h56 => ?_)
        · refine C_seq ?_
          refine C_region ?_
          refine J_q 81 rfl rfl rfl rfl (Q_move rfl rfl) ?_
          refine J_q 82 rfl rfl rfl rfl (Q_eql rfl rfl rfl) ?_
          refine J_q 83 rfl rfl rfl rfl (Q_move rfl rfl) ?_
          refine J_split 83 rfl (fun h57 => ?_) (fun h57 => ?_)
          · refine J_q 84 rfl rfl rfl rfl (Q_ldBK' (k := 13) (chL (ownC (addAll 50 l) ap aq) A46_0 cap46_0) hS49 rfl rfl rfl Try.isAgg55 Try.sizeOf55 rfl rfl) ?_
            refine J_q 85 rfl rfl rfl rfl (Q_bld (v := .agg ([.int .i64 0, .int .i64 0, .int .i64 0, .slice none 0 0, .int .i64 0, .int .i64 0, .int .i64 0, .int .i64 0, .int .i64 0, .int .i64 0, .int .i64 0, .string nostr, .string nostr]).toArray) (ps := []) rfl rfl (fun _ => by kernel_rfl)) ?_
            refine J_call 86 rfl rfl rfl rfl (T_call rfl rfl rfl Try.call29) (RSame5_calls _ _ (ownC (addAll 50 l) ap aq) (hS49.rd 12 rfl hr46_0) _ zeroCh (zero_rd _)) ?_
            rintro _ w58 ⟨rfl, hk58⟩
            have hS58 := hS49.kp0 hk58
            refine ⟨_, rfl, ?_⟩
            refine J_q 87 rfl rfl rfl rfl (Q_pickT rfl rfl rfl) ?_
            refine J_q 88 rfl rfl rfl rfl (Q_move rfl rfl) ?_
            refine J_split 88 rfl (fun h59 => ?_) (fun h59 => ?_)
            · refine J_call 89 rfl rfl rfl rfl (T_call rfl rfl rfl Try.call30) (awake_calls _) ?_
              rintro _ w60 ⟨rfl, hk60⟩
              have hS60 := hS58.kp0 hk60
              refine ⟨_, rfl, ?_⟩
              refine J_q 90 rfl rfl rfl rfl (Q_pickT rfl rfl rfl) ?_
              refine J_q 4 rfl rfl rfl rfl (Q_assign rfl rfl) ?_
              refine J_nil (K_seq ?_)
              refine C_ret (R_then (body_ret (res1 rfl rfl) ?_))
              exact ⟨rfl, hS60.kept (k := 0) rfl⟩
            · first | exact absurd (own_out (l := (addAll 50 l)) (r := ap) (q := aq) (by omega)).2 (by assumption) | exact absurd (hgF2.own_no (q := aq) (r := ap) (by omega) (by omega)).2 (by assumption)
          · exact absurd (own_out (l := (addAll 50 l)) (r := ap) (q := aq) (by omega)).1 (by assumption)
        · refine C_skip (K_seq ?_)
          refine C_seq ?_
          refine C_seq ?_
          refine C_region ?_
          refine J_q 91 rfl rfl rfl rfl (Q_move rfl rfl) ?_
          refine J_q 92 rfl rfl rfl rfl (Q_lss rfl rfl rfl) ?_
          refine J_nil (K_seq ?_)
          refine C_if rfl (fun h61 => ?_) (fun h61 => ?_)
          · refine C_seq ?_
            refine C_region ?_
            refine J_q 93 rfl rfl rfl rfl (Q_move rfl rfl) ?_
            refine J_q 94 rfl rfl rfl rfl (Q_eql rfl rfl rfl) ?_
            refine J_q 95 rfl rfl rfl rfl (Q_move rfl rfl) ?_
            refine J_split 95 rfl (fun h62 => ?_) (fun h62 => ?_)
            · refine J_q 96 rfl rfl rfl rfl (Q_ldBK' (k := 13) (chL (ownC (addAll 50 l) ap aq) A46_0 cap46_0) hS49 rfl rfl rfl Try.isAgg55 Try.sizeOf55 rfl rfl) ?_
              refine J_q 97 rfl rfl rfl rfl (Q_bld (v := .agg ([.int .i64 0, .int .i64 0, .int .i64 0, .slice none 0 0, .int .i64 0, .int .i64 0, .int .i64 0, .int .i64 0, .int .i64 0, .int .i64 0, .int .i64 0, .string nostr, .string nostr]).toArray) (ps := []) rfl rfl (fun _ => by kernel_rfl)) ?_
              refine J_call 98 rfl rfl rfl rfl (T_call rfl rfl rfl Try.call29) (RSame5_calls _ _ (ownC (addAll 50 l) ap aq) (hS49.rd 12 rfl hr46_0) _ zeroCh (zero_rd _)) ?_
              rintro _ w63 ⟨rfl, hk63⟩
              have hS63 := hS49.kp0 hk63
              refine ⟨_, rfl, ?_⟩
              refine J_q 99 rfl rfl rfl rfl (Q_pickT rfl rfl rfl) ?_
              refine J_q 100 rfl rfl rfl rfl (Q_move rfl rfl) ?_
              refine J_split 100 rfl (fun h64 => ?_) (fun h64 => ?_)
              · refine J_call 101 rfl rfl rfl rfl (T_call rfl rfl rfl Try.call30) (awake_calls _) ?_
                rintro _ w65 ⟨rfl, hk65⟩
                have hS65 := hS63.kp0 hk65
                refine ⟨_, rfl, ?_⟩
                refine J_q 102 rfl rfl rfl rfl (Q_pickT rfl rfl rfl) ?_
                refine J_q 4 rfl rfl rfl rfl (Q_assign rfl rfl) ?_
                refine J_nil (K_seq ?_)
                refine C_ret (R_then (body_ret (res1 rfl rfl) ?_))
                exact ⟨rfl, hS65.kept (k := 0) rfl⟩
              · first | exact absurd (own_out (l := (addAll 50 l)) (r := ap) (q := aq) (by omega)).2 (by assumption) | exact absurd (hgF2.own_no (q := aq) (r := ap) (by omega) (by omega)).2 (by assumption)
            · exact absurd (hgF2.own_no (q := aq) (r := ap) (by omega) (by omega)).1 (by assumption)
          · refine C_skip (K_seq ?_)
            refine C_seq ?_
            refine C_draw (fun w' => St w w' [(13, blkL g47 (chL (ownC (addAll 50 l) ap aq) A46_0 cap46_0) 55), (12, fz w46 (nw w43 w46)), (7, blkL g7 (chL (findC (addAll 50 l) (⟨ac, ar⟩ : Stamp)) A6_0 cap6_0) 55), (6, fz w6 (nw w4 w6)), (4, blkL g3 ([.int .i64 50, .slice AF2 ((addAll 50 l).length) cF2]) 47), (3, fz w2 GF2), (1, blkL g1 ([.int .i64 ac, .int .i64 ar, .int .i64 ap, .int .i64 aq]) 62), (0, fz w (lt_ w))]) 15 mixedOrders 15 rfl (fun w66 hk66 => ?_)
            have hS66 := hS49.kp0 hk66
            refine JA_p 0 103 15 rfl rfl rfl rfl (by kernel_rfl) (by kernel_rfl) (fun _ => Q_move rfl rfl) ?_
            refine JA_p 1 104 15 rfl rfl rfl rfl (by kernel_rfl) (by kernel_rfl) (fun _ => Q_eql rfl rfl rfl) ?_
            refine JA_p 2 105 15 rfl rfl rfl rfl (by kernel_rfl) (by kernel_rfl) (fun _ => Q_move rfl rfl) ?_
            refine JA_split 105 rfl (fun h67 => ?_) (fun h67 => ?_)
            · refine JA_q 3 106 rfl rfl rfl rfl (by kernel_rfl) (by kernel_rfl) (hS66.pick [13, 12, 7, 6, 4, 3, 1, 0] ⟨rfl, rfl, rfl, rfl, rfl, rfl, rfl, rfl, rfl, rfl, rfl, rfl, rfl, rfl, rfl, rfl, trivial⟩) (fun _ hI => Q_ldBK' (k := 13) (chL (ownC (addAll 50 l) ap aq) A46_0 cap46_0) hI rfl rfl rfl Try.isAgg55 Try.sizeOf55 rfl rfl) ?_
              refine JA_p 4 107 15 rfl rfl rfl rfl (by kernel_rfl) (by kernel_rfl) (fun _ => Q_fa0 rfl rfl fo47_1) ?_
              refine JA_q 5 108 rfl rfl rfl rfl (by kernel_rfl) (by kernel_rfl) (hS66.pick [13, 12, 7, 6, 4, 3, 1, 0] ⟨rfl, rfl, rfl, rfl, rfl, rfl, rfl, rfl, rfl, rfl, rfl, rfl, rfl, rfl, rfl, rfl, trivial⟩) (fun _ hI => Q_ldB1 (k := 4) hI rfl rfl rfl Try.isAgg43 rfl) ?_
              refine JA_p 6 109 15 rfl rfl rfl rfl (by kernel_rfl) (by kernel_rfl) (fun _ => Q_move rfl rfl) ?_
              obtain ⟨ad68, es68, hA68, hr68, hc68⟩ := RdF.nth hrF2 (ownAt (addAll 50 l) ap aq) (by omega) (by omega)
              obtain ⟨A68, cap68, rfl, hd68, ho68⟩ := openCh hr68
              have hln68 := RdF.lens hd68
              have hsq68 := ho68.seq
              refine JA_p 7 110 15 rfl rfl rfl rfl (by kernel_rfl) (by kernel_rfl) (fun _ => Q_iaE hA68 rfl rfl rfl Try.underlying43 Try.sizeOf55 (by omega) (by omega)) ?_
              refine JA_q 8 111 rfl rfl rfl rfl (by kernel_rfl) (by kernel_rfl) (hS66.pick [13, 12, 7, 6, 4, 3, 1, 0] ⟨rfl, rfl, rfl, rfl, rfl, rfl, rfl, rfl, rfl, rfl, rfl, rfl, rfl, rfl, rfl, rfl, trivial⟩) (fun _ hI => Q_ldCK' (chL (nth (addAll 50 l) (ownAt (addAll 50 l) ap aq)) A68 cap68) (hc68 _ (hI.get (k := 3) rfl)) rfl rfl Try.isAgg55 Try.sizeOf55 rfl rfl) ?_
              refine JA_call 9 112 rfl rfl rfl rfl (by kernel_rfl) (T_call rfl rfl rfl Try.call29) (RSame5_calls _ _ (ownC (addAll 50 l) ap aq) (hS66.rd 12 rfl hr46_0) _ (nth (addAll 50 l) (ownAt (addAll 50 l) ap aq)) (hS66.rd 3 rfl hr68)) ?_
              rintro _ w69 ⟨rfl, hk69⟩
              have hS69 := hS66.kp0 hk69
              refine ⟨_, rfl, (fun _ => ((hS66.kp0 hk69).pick [13, 12, 7, 6, 4, 3, 1, 0] ⟨rfl, rfl, rfl, rfl, rfl, rfl, rfl, rfl, rfl, rfl, rfl, rfl, rfl, rfl, rfl, rfl, trivial⟩)), ?_⟩
              refine JA_p 10 113 15 rfl rfl rfl rfl (by kernel_rfl) (by kernel_rfl) (fun _ => Q_pickT rfl rfl rfl) ?_
              refine JA_p 11 114 15 rfl rfl rfl rfl (by kernel_rfl) (by kernel_rfl) (fun _ => Q_move rfl rfl) ?_
              refine JA_split 114 rfl (fun h70 => ?_) (fun h70 => ?_)
              · refine JA_call 12 115 rfl rfl rfl rfl (by kernel_rfl) (T_call rfl rfl rfl Try.call30) (awake_calls _) ?_
                rintro _ w71 ⟨rfl, hk71⟩
                have hS71 := hS69.kp0 hk71
                refine ⟨_, rfl, (fun _ => ((hS69.kp0 hk71).pick [13, 12, 7, 6, 4, 3, 1, 0] ⟨rfl, rfl, rfl, rfl, rfl, rfl, rfl, rfl, rfl, rfl, rfl, rfl, rfl, rfl, rfl, rfl, trivial⟩)), ?_⟩
                refine JA_p 13 116 15 rfl rfl rfl rfl (by kernel_rfl) (by kernel_rfl) (fun _ => Q_pickT rfl rfl rfl) ?_
                refine JA_p 14 4 15 rfl rfl rfl rfl (by kernel_rfl) (by kernel_rfl) (fun _ => Q_assign rfl rfl) ?_
                refine JA_end (by kernel_rfl) (K_seq ?_)
                refine C_ret (body_ret (res1 rfl rfl) ?_)
                exact ⟨rfl, hS71.kept (k := 0) rfl⟩
              · exact absurd (hgF2.own_yes (q := aq) (r := ap) (by omega) (by omega)).2 (by assumption)
            · exact absurd (hgF2.own_yes (q := aq) (r := ap) (by omega) (by omega)).1 (by assumption)
end Go.Proofs.Ytceeellnjckmiaa

/- What comes in, opened: from the reading of an argument to what its cells read as. -/
namespace Go.Proofs.Ytceeellnjckmiaa.opens
open Go Go.Sl Go.ChangeShapes Go.WideShapes Go.RowKit

theorem one_le {H : Type} (d : DataW H) : 1 ≤ Rows.uptoBulk d := by
  cases d with
  | lit l => cases l <;> simp [Rows.uptoBulk]
  | _ => simp [Rows.uptoBulk]
theorem part_le {H : Type} {d : DataW H} {l : List (DataW H)} (h : d ∈ l) : Rows.uptoBulk d ≤ Rows.uptoBulkAll l := by
  induction l with
  | nil => cases h
  | cons x r ih =>
    simp only [Rows.uptoBulkAll]
    cases List.mem_cons.1 h with
    | inl e => subst e; omega
    | inr e => have := ih e; omega
theorem length_le {H : Type} (l : List (DataW H)) : l.length ≤ Rows.uptoBulkAll l := by
  induction l with
  | nil => simp [Rows.uptoBulkAll]
  | cons x r ih => have := one_le x; simp only [Rows.uptoBulkAll, List.length_cons]; omega
theorem bulk_slice {H : Type} (a b : List (DataW H)) : Rows.uptoBulk (DataW.slice a b) = Rows.uptoBulkAll a + Rows.uptoBulkAll b + 1 := by simp [Rows.uptoBulk]
theorem bulk_agg {H : Type} (a : List (DataW H)) : Rows.uptoBulk (DataW.agg a) = Rows.uptoBulkAll a + 1 := by simp [Rows.uptoBulk]

/-- What reads at this type (and is small) reads as d says. -/
def Opens {α : Type} (t : TypeId) (d : Ty α) : Prop := ∀ (H : Type) (enc : TypeId × Value → H) (w : World) (sp : Nat → Bool) (hd : Bool) (fuel : Nat) (cs : List Value) (x : DataW H × List MemPlace),
  DataW.trod enc Try.prog w 0 sp hd fuel t cs = some x → Rows.uptoBulk x.1 ≤ 1048576 → ∃ a, d.rd w cs a

theorem cells_at {w : World} {ad : Addr} {n : Nat} {cs : List Value} (h : w.cells? 0 ad n = some cs) : CellsAt w ad cs := by
  intro j v hv
  unfold World.cells? at h
  rw [if_pos (Nat.zero_le _)] at h
  have hl := mapM_some_length h
  have hj : j < n := by have := (List.getElem?_eq_some_iff.1 hv).1; simp at hl; omega
  rw [mapM_some_get h j j (by simp [hj]), hv]

theorem wf_in {a : Int} (h : (Lit.int .i64 a).wf = true) : InR a := by
  simp [Lit.wf, IntKind.min, IntKind.max, IntKind.signed, IntKind.bits] at h
  constructor <;> omega

theorem opens_int : Opens 3 tI := by
  intro H enc w sp hd fuel cs x h _
  obtain ⟨n, rfl, _, hw⟩ := DataW.trod_int Try.underlying3 h
  exact ⟨n, rfl, wf_in hw⟩
theorem str_le {H : Type} {s : ByteArray} (h : Rows.uptoBulk (DataW.lit (H := H) (.string s.data.toList)) ≤ 1048576) : s.size ≤ 140737488355328 := by
  simp only [Rows.uptoBulk, Array.length_toList] at h
  show s.data.size ≤ _
  omega
theorem opens_str : Opens 9 tS := by
  intro H enc w sp hd fuel cs x h hb
  obtain ⟨n, rfl, rfl, hw⟩ := DataW.trod_string Try.underlying9 h
  exact ⟨n, rfl, str_le hb⟩
set_option maxRecDepth 100000 in
theorem opens_st : Opens 23 tSt := by
  intro H enc w sp hd fuel cs x h _
  obtain ⟨y0, y1, n, rfl, hl, h0, h1⟩ := trod_struct2 Try.underlying23 h
  obtain ⟨a0, e0, _, w0⟩ := DataW.trod_int Try.underlying3 h0
  obtain ⟨a1, e1, _, w1⟩ := DataW.trod_int Try.underlying3 h1
  rw [show Try.prog.cellsOf 23 = 2 by kernel_rfl] at hl
  rw [show Try.prog.cellsOf 3 = 1 by kernel_rfl] at e0 e1
  match cs, hl with
  | [c0, c1], _ => simp at e0 e1; subst e0 e1; exact ⟨⟨a0, a1⟩, rfl, wf_in w0, wf_in w1⟩
set_option maxRecDepth 100000 in
theorem opens_slice {α : Type} {t e : TypeId} {d : Ty α} (ht : Try.prog.underlying t = some (.slice e)) (hc : Try.prog.cellsOf e = d.sz) (ho : Opens e d) : Opens t (tSl d) := by
  intro H enc w sp hd fuel cs x h hb
  rcases Go.Deep.open_slice ht h with ⟨rfl, rfl⟩ | ⟨a, len, cap, m, n, D, Pl, hcs, h8, hlc, h9, hm, hx, hel⟩
  rotate_left
  subst hcs hx
  rotate_right
  · exact ⟨[], none, 0, rfl, Nat.le_refl _, Nat.zero_le _, fun i x hx => by simp at hx⟩
  · have hlm : len ≤ m := by rw [hm]; split <;> omega
    have hb1 := hb
    simp only [bulk_slice] at hb1
    have hll := length_le ((List.range len).map D)
    simp at hll
    have hE : ∀ i, i < len → ∃ y, ∃ cs', CellsAt w (a.add (i * d.sz)) cs' ∧ d.rd w cs' y := by
      intro i hi
      obtain ⟨cs', h1, h2⟩ := hel i (by omega)
      have hp := part_le (d := D i) (l := (List.range len).map D) (List.mem_map.2 ⟨i, by simpa using hi, rfl⟩)
      obtain ⟨y, hy⟩ := ho H enc w sp hd n cs' _ h2 (by show Rows.uptoBulk (D i) ≤ _; omega)
      exact ⟨y, cs', cells_at (by rw [← hc]; exact h1), hy⟩
    have hX : ∃ xs : List α, xs.length = len ∧ ∀ i x, xs[i]? = some x → ∃ cs', CellsAt w (a.add (i * d.sz)) cs' ∧ d.rd w cs' x := by
      clear hel hb hb1 hll hlm hm hlc h
      induction len with
      | zero => exact ⟨[], rfl, fun i x hx => by simp at hx⟩
      | succ k ih =>
        obtain ⟨xs, hl, hx⟩ := ih (fun i hi => hE i (by omega))
        obtain ⟨y, hy⟩ := hE k (by omega)
        refine ⟨xs ++ [y], by simp [hl], fun i x hi => ?_⟩
        by_cases hik : i < xs.length
        · rw [List.getElem?_append_left hik] at hi; exact hx i x hi
        · have h2 := (List.getElem?_eq_some_iff.1 hi).1
          simp at h2
          obtain rfl : i = k := by omega
          rw [List.getElem?_append_right (by omega), hl] at hi
          simp at hi; subst hi; exact hy
    obtain ⟨xs, rfl, hx⟩ := hX
    refine ⟨xs, some a, cap, rfl, hlc, by unfold maxL; omega, fun i x hi => ?_⟩
    obtain ⟨cs', h1, h2⟩ := hx i x hi
    exact ⟨a, cs', rfl, h1, h2⟩
theorem opens_ints : Opens 44 (tSl tI) := opens_slice Try.underlying44 (by kernel_rfl) opens_int
set_option maxRecDepth 100000 in
theorem opens_ch : Opens 55 tCh := by
  intro H enc w sp hd fuel cs x h hb
  obtain ⟨xs, n, _, rfl, hl, hlen, hf⟩ := DataW.trod_struct Try.underlying55 h
  match xs, hlen with
  | [y0, y1, y2, y3, y4, y5, y6, y7, y8], _ =>
    have g0 : DataW.trod enc Try.prog w 0 sp hd n 23 ((cs.drop 0).take (Try.prog.cellsOf 23)) = some y0 := hf 0 _ rfl
    have g1 : DataW.trod enc Try.prog w 0 sp hd n 3 ((cs.drop 2).take (Try.prog.cellsOf 3)) = some y1 := hf 1 _ rfl
    have g2 : DataW.trod enc Try.prog w 0 sp hd n 44 ((cs.drop 3).take (Try.prog.cellsOf 44)) = some y2 := hf 2 _ rfl
    have g3 : DataW.trod enc Try.prog w 0 sp hd n 3 ((cs.drop 4).take (Try.prog.cellsOf 3)) = some y3 := hf 3 _ rfl
    have g4 : DataW.trod enc Try.prog w 0 sp hd n 23 ((cs.drop 5).take (Try.prog.cellsOf 23)) = some y4 := hf 4 _ rfl
    have g5 : DataW.trod enc Try.prog w 0 sp hd n 23 ((cs.drop 7).take (Try.prog.cellsOf 23)) = some y5 := hf 5 _ rfl
    have g6 : DataW.trod enc Try.prog w 0 sp hd n 23 ((cs.drop 9).take (Try.prog.cellsOf 23)) = some y6 := hf 6 _ rfl
    have g7 : DataW.trod enc Try.prog w 0 sp hd n 9 ((cs.drop 11).take (Try.prog.cellsOf 9)) = some y7 := hf 7 _ rfl
    have g8 : DataW.trod enc Try.prog w 0 sp hd n 9 ((cs.drop 12).take (Try.prog.cellsOf 9)) = some y8 := hf 8 _ rfl
    clear hf
    have hb2 := part_le (d := y2.1) (l := [y0.1, y1.1, y2.1, y3.1, y4.1, y5.1, y6.1, y7.1, y8.1]) (by simp)
    have hb0 := part_le (d := y0.1) (l := [y0.1, y1.1, y2.1, y3.1, y4.1, y5.1, y6.1, y7.1, y8.1]) (by simp)
    have hb4 := part_le (d := y4.1) (l := [y0.1, y1.1, y2.1, y3.1, y4.1, y5.1, y6.1, y7.1, y8.1]) (by simp)
    have hb5 := part_le (d := y5.1) (l := [y0.1, y1.1, y2.1, y3.1, y4.1, y5.1, y6.1, y7.1, y8.1]) (by simp)
    have hb7 := part_le (d := y7.1) (l := [y0.1, y1.1, y2.1, y3.1, y4.1, y5.1, y6.1, y7.1, y8.1]) (by simp)
    have hb8 := part_le (d := y8.1) (l := [y0.1, y1.1, y2.1, y3.1, y4.1, y5.1, y6.1, y7.1, y8.1]) (by simp)
    have hb6 := part_le (d := y6.1) (l := [y0.1, y1.1, y2.1, y3.1, y4.1, y5.1, y6.1, y7.1, y8.1]) (by simp)
    have hbb : Rows.uptoBulkAll [y0.1, y1.1, y2.1, y3.1, y4.1, y5.1, y6.1, y7.1, y8.1] + 1 ≤ 1048576 := by rw [← bulk_agg]; exact hb
    obtain ⟨a0, e0, w0⟩ := opens_st H enc w sp hd n _ _ g0 (by omega)
    obtain ⟨a1, e1, _, w1⟩ := DataW.trod_int Try.underlying3 g1
    obtain ⟨a2, A2, c2, e2, d2, l2, r2⟩ := opens_ints H enc w sp hd n _ _ g2 (by omega)
    obtain ⟨a3, e3, _, w3⟩ := DataW.trod_int Try.underlying3 g3
    obtain ⟨a4, e4, w4⟩ := opens_st H enc w sp hd n _ _ g4 (by omega)
    obtain ⟨a5, e5, w5⟩ := opens_st H enc w sp hd n _ _ g5 (by omega)
    obtain ⟨a6, e6, w6⟩ := opens_st H enc w sp hd n _ _ g6 (by omega)
    obtain ⟨a7, e7, w7⟩ := opens_str H enc w sp hd n _ _ g7 (by omega)
    obtain ⟨a8, e8, w8⟩ := opens_str H enc w sp hd n _ _ g8 (by omega)
    rw [show Try.prog.cellsOf 55 = 13 by kernel_rfl] at hl
    rw [show Try.prog.cellsOf 23 = 2 by kernel_rfl] at e0 e4 e5 e6
    rw [show Try.prog.cellsOf 3 = 1 by kernel_rfl] at e1 e3
    rw [show Try.prog.cellsOf 44 = 1 by kernel_rfl] at e2
    rw [show Try.prog.cellsOf 9 = 1 by kernel_rfl] at e7 e8
    match cs, hl with
    | [c0, c1, c2', c3, c4, c5, c6, c7, c8, c9, c10, c11, c12], _ =>
      simp [stL] at e0 e1 e2 e3 e4 e5 e6 e7 e8
      obtain ⟨rfl, rfl⟩ := e0; obtain ⟨rfl, rfl⟩ := e4; obtain ⟨rfl, rfl⟩ := e5; obtain ⟨rfl, rfl⟩ := e6
      subst e1 e2 e3 e7 e8
      exact ⟨⟨a0, a1, a2, a3, a4, a5, a6, a7, a8⟩, A2, c2, rfl, ⟨A2, c2, rfl, d2, l2, r2⟩, ⟨w0, wf_in w1, wf_in w3, w4, w5, w6, w7, w8⟩⟩
theorem opens_chs : Opens 43 (tSl tCh) := opens_slice Try.underlying43 (by kernel_rfl) opens_ch
/-- .. of a value whose cells are one. -/
theorem one_cell {α : Type} {t : TypeId} {d : Ty α} (ho : Opens t d) {H : Type} {enc : TypeId × Value → H} {w : World} {sp : Nat → Bool} {hd : Bool} {v : Value} {y : DataW H} {p : List MemPlace} (h : DataW.Trod enc Try.prog w 0 sp hd t v y p) (hb : Rows.uptoBulk y ≤ 1048576) : ∃ a, d.rd w v.cells.toList a := by
  obtain ⟨fuel, hf⟩ := h
  exact ho H enc w sp hd fuel _ _ hf hb
set_option maxRecDepth 100000 in
theorem open_ask {H : Type} {enc : TypeId × Value → H} {w : World} {sp : Nat → Bool} {hd : Bool} {v : Value} {y : DataW H} {p : List MemPlace} (h : DataW.Trod enc Try.prog w 0 sp hd 62 v y p) : ∃ a b c d : Int, v.cells.toList = [.int .i64 a, .int .i64 b, .int .i64 c, .int .i64 d] ∧ InR a ∧ InR b := by
  obtain ⟨fuel, hf⟩ := h
  obtain ⟨xs, n, _, _, hl, hlen, hf⟩ := DataW.trod_struct Try.underlying62 hf
  match xs, hlen with
  | [y0, y1, y2], _ =>
    have g0 : DataW.trod enc Try.prog w 0 sp hd n 23 ((v.cells.toList.drop 0).take (Try.prog.cellsOf 23)) = some y0 := hf 0 _ rfl
    have g1 : DataW.trod enc Try.prog w 0 sp hd n 3 ((v.cells.toList.drop 2).take (Try.prog.cellsOf 3)) = some y1 := hf 1 _ rfl
    have g2 : DataW.trod enc Try.prog w 0 sp hd n 3 ((v.cells.toList.drop 3).take (Try.prog.cellsOf 3)) = some y2 := hf 2 _ rfl
    clear hf
    obtain ⟨_, _, m, _, hl0, h0, h1⟩ := trod_struct2 Try.underlying23 g0
    obtain ⟨a0, e0, _, w0⟩ := DataW.trod_int Try.underlying3 h0
    obtain ⟨a1, e1, _, w1⟩ := DataW.trod_int Try.underlying3 h1
    obtain ⟨a2, e2, _, w2⟩ := DataW.trod_int Try.underlying3 g1
    obtain ⟨a3, e3, _, w3⟩ := DataW.trod_int Try.underlying3 g2
    rw [show Try.prog.cellsOf 62 = 4 by kernel_rfl] at hl
    rw [show Try.prog.cellsOf 3 = 1 by kernel_rfl] at e0 e1 e2 e3
    rw [show Try.prog.cellsOf 23 = 2 by kernel_rfl] at e0 e1
    generalize v.cells.toList = cs at *
    match cs, hl with
    | [c0, c1, c2, c3], _ =>
      simp at e0 e1 e2 e3
      subst e0 e1 e2 e3
      exact ⟨a0, a1, a2, a3, rfl, wf_in w0, wf_in w1⟩
end Go.Proofs.Ytceeellnjckmiaa.opens

/- The row of OplogFinds. -/
namespace Go.Proofs.Ytceeellnjckmiaa.oplogFinds
open Go Go.Sl Go.ChangeShapes Go.WideShapes Go.ChangeAt Go.RowKit
open Go.ChangeMaps (open_string shut_string)
set_option maxRecDepth 100000
theorem own : ownKnob Try.prog.godebug = none := by kernel_rfl
theorem laidOut : laidOutB Try.prog = true := by kernel_rfl
theorem lifted (os : Os) (started : os.Started) (H : Type) (enc : TypeId × Value → H) (F : Stop.Interp) :
    ReturnsInHanded {} Try.checked os 5 .any ((Rows.OpenSpec.upto Rows.oplogFindsSpec).pre6 enc Try.prog Try.f5 Rows.oplogFindsUptoRow.domain false) (((Rows.OpenSpec.upto Rows.oplogFindsSpec).at F).post enc Try.prog Try.f5 false true false false) := by
  refine returnsInHanded_of_cond (C := Try.checked) (s := (Rows.OpenSpec.upto Rows.oplogFindsSpec)) (k := Rows.uptoSmall) rfl own started (by kernel_rfl) Try.func5
    (OpenSpec.witness (enc := enc) (C := Try.checked) (s := (Rows.OpenSpec.upto Rows.oplogFindsSpec)) (k := Rows.uptoSmall) rfl false ⟨#[], #[.slice none 0 0, .agg #[.int .i64 0, .int .i64 0, .int .i64 0, .int .i64 0]], []⟩ 8 (by kernel_rfl) (by kernel_rfl) (by kernel_rfl)
      (x := ([.nil, .agg [.agg [.lit (.int .i64 0), .lit (.int .i64 0)], .lit (.int .i64 0), .lit (.int .i64 0)]], [], [])) (by kernel_rfl) rfl (by kernel_rfl)) ?_
  intro W base args ds gs before hval0 hW _ hk _
  have hval : ∀ (j : Nat) t v, Try.f5.params[j]? = some t → args[j]? = some v → Value.okWide Try.prog W .any base t v := hval0
  have hW' := hW
  obtain ⟨p, q, hA0, hV, rfl, hfz, hnd⟩ := hW
  have hA : DataW.TrodAll enc Try.prog W 0 (fun _ => true) true Try.f5.params.toList args.toList ds p := hA0
  rw [Try.params5] at hA hval
  obtain ⟨v0, vs0, d0, ds0, p0, q0, hargs, rfl, rfl, h0, r0⟩ := trodAll_cons hA
  obtain ⟨v1, vs1, d1, ds1, p1, q1, rfl, rfl, rfl, h1, r1⟩ := trodAll_cons r0
  obtain ⟨rfl, rfl, rfl⟩ := trodAll_nil r1
  obtain rfl : args = #[v0, v1] := by cases args; simp_all
  obtain ⟨rfl, rfl⟩ := trodVars_none hV
  have hb : Rows.uptoBulkAll [d0, d1] ≤ 1048576 := of_decide_eq_true hk
  have lt0 : ∀ x ∈ p0, x.block < W.heap.size := by obtain ⟨m, hm⟩ := h0; exact DataW.trod_lt m _ _ _ hm
  have hb0 := opens.part_le (d := d0) (l := [d0, d1]) (by simp)
  obtain ⟨x0, hx0⟩ := opens.one_cell opens.opens_chs h0 (Nat.le_trans hb0 hb)
  obtain ⟨a0, len0, cap0, rfl⟩ := okWide_slice Try.underlying43 (hval 0 43 v0 rfl rfl)
  have hy0 : (tSl tCh).rd W [.slice a0 len0 cap0] x0 := by simpa [Value.cells] using hx0
  have lt1 : ∀ x ∈ p1, x.block < W.heap.size := by obtain ⟨m, hm⟩ := h1; exact DataW.trod_lt m _ _ _ hm
  have hb1 := opens.part_le (d := d1) (l := [d0, d1]) (by simp)
  obtain ⟨cs1, rfl, hsz1⟩ := okWide_struct Try.underlying62 (hval 1 62 v1 rfl rfl)
  obtain ⟨cs1⟩ := cs1
  obtain ⟨ac, ar, ap, aq, he1, hR1a, hR1b⟩ := opens.open_ask h1
  have he12 : cs1 = _ := he1
  subst he12
  clear hA0 hval0
  refine (OplogFinds_calls W _ x0 hy0 ac ar ap aq hR1a hR1b).mono fun e W' ⟨he, hk⟩ => ?_
  subst he
  have bel := hk.below
  exact ⟨_, rfl, _, _, _, [], _, [], hW', trodAll_mk1 (shut_bool Try.underlying4 _), (trodAll_cons_mk (Below.trod laidOut (by kernel_rfl) (of_decide_eq_true (by kernel_rfl)) h0 bel lt0) (trodAll_cons_mk (Below.trod laidOut (by kernel_rfl) (of_decide_eq_true (by kernel_rfl)) h1 bel lt1) trodAll_mk0)), rfl, bel.frame _, fun h => by cases h⟩
theorem over : Rows.oplogFindsUptoRow.holds Try.pinned (Rows.OpenSpec.upto Rows.oplogFindsSpec) :=
  OpenClaim.holds_of_cond 5 Try.f5 rfl rfl rfl rfl rfl rfl rfl ⟨rfl, rfl, rfl, rfl, rfl⟩ rfl rfl rfl rfl rfl (by kernel_rfl) Try.func5 (by kernel_rfl)
    (of_decide_eq_true (by kernel_rfl)) (by unfold Func.isWrapper; first | (rw [if_pos (by decide +kernel)]; kernel_rfl) | (rw [if_neg (by decide +kernel)]; exact ⟨rfl, rfl⟩))
    (fun os started H enc _ F => lifted os started H enc F)
end Go.Proofs.Ytceeellnjckmiaa.oplogFinds
namespace Go.Proofs.Ytceeellnjckmiaa
theorem oplogFinds_holds : Rows.OplogFindsUptoSaid := oplogFinds.over
end Go.Proofs.Ytceeellnjckmiaa

