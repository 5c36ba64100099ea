/- The texts Le, Sl29, Sl30, Lj, Sl28, WGoes, merged. Proved: what their theorems say, with no condition but those written. -/
import Derived.Test.YtceeellnjckmiaaRows
import Derived.JoinedCond
import Derived.Deep.Slices
import Derived.WalkKit
import Derived.ProofKit
import Derived.OpenShut
import Derived.ShutString
import Derived.ChangeOld
import Derived.Below
import Derived.Carry
import Derived.Test.YtceeellnjckmiaaBase7
/- Printed by a program of mine (gen.py). -/
set_option linter.unusedVariables false
set_option linter.unusedSimpArgs false
set_option maxRecDepth 100000
namespace Go.Proofs.Ytceeellnjckmiaa
open Go Go.Sl
theorem RCopyO_calls (w : World) (l_c : List Value) (c : Change) (h_c : tCh.rd w l_c c) :
    Calls Try.prog 45 #[.agg l_c.toArray] w fun e w' => ∃ A cap fl, e = .returned (.agg (chL c A cap).toArray) ∧ Kp no w w' ∧ w'.ownsRow 0 3 1 (.slice A c.deps.length cap) c.deps.length fl ∧ Reps tI w no c.deps fl ∧ (∀ b, (Value.slice A c.deps.length cap).ownBlock = some b → nw w w' b) ∧ ChOk c := by
  have hS0 := St.start w
  have hF_c := RdF.of_rd h_c
  obtain ⟨A_c, cap_c, rfl, hd_c, ho_c⟩ := openCh hF_c
  have hln_c := RdF.lens hd_c
  have hsq_c := ho_c.seq
  refine fn_calls' 9 (args := [_]) Try.func45 rfl rfl rfl ?_
  refine C_seq ?_
  refine C_region ?_
  refine J_do 1 rfl rfl rfl rfl (D_box 1 hS0 rfl rfl (fun g1 w1 hS1 => ?_))
  refine J_do 2 rfl rfl rfl rfl (D_alloc 2 hS1 rfl Try.zeroValue55 (fun g2 w2 hS2 => ?_))
  refine J_nil (K_seq ?_)
  refine C_seq ?_
  refine C_region ?_
  refine J_do 3 rfl rfl rfl rfl (D_bs (e := 3) (ps := []) 3 ([]) hS2 rfl rfl (fun _ => by kernel_rfl) (fun g3 w3 hS3 => ?_))
  refine J_q 4 rfl rfl rfl rfl (Q_fa0 rfl rfl fo55_2) ?_
  refine J_q 5 rfl rfl rfl rfl (Q_ldB1 (k := 1) hS3 rfl rfl rfl Try.isAgg44 rfl) ?_
  have hS4 := hS3.lit0 (sz := 1) 3 rfl
  refine J_do 6 rfl rfl rfl rfl (D_appSL ([]) c.deps app44 hS4 3 rfl 0 rfl rfl rfl rfl hd_c (by first | omega | (simp only [List.length_nil, List.length_append, List.length_cons]; omega)) (by first | omega | (simp only [List.length_nil, List.length_append, List.length_cons]; omega)) (fun A5 cap5 gl5 w5 hR5 hc5 hS5 => ?_))
  have hR5 := Reps.int (W' := w) hR5
  refine J_q 7 rfl rfl rfl rfl (Q_fa0 rfl rfl fo55_2) ?_
  refine J_do0 rfl rfl rfl rfl (D_store (k := 1) hS5 rfl rfl rfl rfl Try.sizeOf44 rfl rfl rfl (fun w6 hS6 => ?_))
  refine J_nil (K_seq ?_)
  refine C_seq ?_
  refine C_region ?_
  refine J_q 8 rfl rfl rfl rfl (Q_ldBK' (k := 1) ([.int .i64 c.at_.c, .int .i64 c.at_.r, .int .i64 c.seq, .slice A5 (([] ++ c.deps).length) cap5, .int .i64 c.kind, .int .i64 c.node.c, .int .i64 c.node.r, .int .i64 c.par.c, .int .i64 c.par.r, .int .i64 c.aft.c, .int .i64 c.aft.r, .string c.name, .string c.val]) hS6 rfl rfl rfl Try.isAgg55 Try.sizeOf55 rfl rfl) ?_
  refine J_do0 rfl rfl rfl rfl (D_store' (k := 2) hS6 rfl rfl rfl rfl Try.sizeOf55 rfl rfl rfl (fun w7 hS7 => ?_))
  refine J_nil (K_seq ?_)
  refine C_ret (body_ret (resG (vs := [.agg ([.int .i64 c.at_.c, .int .i64 c.at_.r, .int .i64 c.seq, .slice A5 (([] ++ c.deps).length) cap5, .int .i64 c.kind, .int .i64 c.node.c, .int .i64 c.node.r, .int .i64 c.par.c, .int .i64 c.par.r, .int .i64 c.aft.c, .int .i64 c.aft.r, .string c.name, .string c.val]).toArray]) rfl ⟨rCK ([.int .i64 c.at_.c, .int .i64 c.at_.r, .int .i64 c.seq, .slice A5 (([] ++ c.deps).length) cap5, .int .i64 c.kind, .int .i64 c.node.c, .int .i64 c.node.r, .int .i64 c.par.c, .int .i64 c.par.r, .int .i64 c.aft.c, .int .i64 c.aft.r, .string c.name, .string c.val]) (blk_cells (k := 2) hS7 rfl) rfl Try.isAgg55 Try.sizeOf55 rfl rfl, trivial⟩) ?_)
  exact ⟨_, _, _, rfl, hS7.kept (k := 0) rfl, hS7.get (k := 3) rfl, (Reps.append (Reps.nil _ w _) hR5), fun b hb => hS7.fresh (k := 3) rfl rfl rfl b hb, ho_c⟩

theorem CCopyO_calls (w : World) (l_c : List Value) (c : Change) (h_c : tCh.rd w l_c c) :
    Calls Try.prog 67 #[.agg l_c.toArray] w fun e w' => ∃ A cap fl, e = .returned (.agg (chL c A cap).toArray) ∧ Kp no w w' ∧ w'.ownsRow 0 3 1 (.slice A c.deps.length cap) c.deps.length fl ∧ Reps tI w no c.deps fl ∧ (∀ b, (Value.slice A c.deps.length cap).ownBlock = some b → nw w w' b) ∧ ChOk c := by
  have hS0 := St.start w
  have hF_c := RdF.of_rd h_c
  obtain ⟨A_c, cap_c, rfl, hd_c, ho_c⟩ := openCh hF_c
  have hln_c := RdF.lens hd_c
  have hsq_c := ho_c.seq
  refine fn_calls' 9 (args := [_]) Try.func67 rfl rfl rfl ?_
  refine C_seq ?_
  refine C_region ?_
  refine J_do 1 rfl rfl rfl rfl (D_box 1 hS0 rfl rfl (fun g1 w1 hS1 => ?_))
  refine J_do 2 rfl rfl rfl rfl (D_alloc 2 hS1 rfl Try.zeroValue55 (fun g2 w2 hS2 => ?_))
  refine J_nil (K_seq ?_)
  refine C_seq ?_
  refine C_region ?_
  refine J_do 3 rfl rfl rfl rfl (D_bs (e := 3) (ps := []) 3 ([]) hS2 rfl rfl (fun _ => by kernel_rfl) (fun g3 w3 hS3 => ?_))
  refine J_q 4 rfl rfl rfl rfl (Q_fa0 rfl rfl fo55_2) ?_
  refine J_q 5 rfl rfl rfl rfl (Q_ldB1 (k := 1) hS3 rfl rfl rfl Try.isAgg44 rfl) ?_
  have hS4 := hS3.lit0 (sz := 1) 3 rfl
  refine J_do 6 rfl rfl rfl rfl (D_appSL ([]) c.deps app44 hS4 3 rfl 0 rfl rfl rfl rfl hd_c (by first | omega | (simp only [List.length_nil, List.length_append, List.length_cons]; omega)) (by first | omega | (simp only [List.length_nil, List.length_append, List.length_cons]; omega)) (fun A5 cap5 gl5 w5 hR5 hc5 hS5 => ?_))
  have hR5 := Reps.int (W' := w) hR5
  refine J_q 7 rfl rfl rfl rfl (Q_fa0 rfl rfl fo55_2) ?_
  refine J_do0 rfl rfl rfl rfl (D_store (k := 1) hS5 rfl rfl rfl rfl Try.sizeOf44 rfl rfl rfl (fun w6 hS6 => ?_))
  refine J_nil (K_seq ?_)
  refine C_seq ?_
  refine C_region ?_
  refine J_q 8 rfl rfl rfl rfl (Q_ldBK' (k := 1) ([.int .i64 c.at_.c, .int .i64 c.at_.r, .int .i64 c.seq, .slice A5 (([] ++ c.deps).length) cap5, .int .i64 c.kind, .int .i64 c.node.c, .int .i64 c.node.r, .int .i64 c.par.c, .int .i64 c.par.r, .int .i64 c.aft.c, .int .i64 c.aft.r, .string c.name, .string c.val]) hS6 rfl rfl rfl Try.isAgg55 Try.sizeOf55 rfl rfl) ?_
  refine J_do0 rfl rfl rfl rfl (D_store' (k := 2) hS6 rfl rfl rfl rfl Try.sizeOf55 rfl rfl rfl (fun w7 hS7 => ?_))
  refine J_nil (K_seq ?_)
  refine C_ret (body_ret (resG (vs := [.agg ([.int .i64 c.at_.c, .int .i64 c.at_.r, .int .i64 c.seq, .slice A5 (([] ++ c.deps).length) cap5, .int .i64 c.kind, .int .i64 c.node.c, .int .i64 c.node.r, .int .i64 c.par.c, .int .i64 c.par.r, .int .i64 c.aft.c, .int .i64 c.aft.r, .string c.name, .string c.val]).toArray]) rfl ⟨rCK ([.int .i64 c.at_.c, .int .i64 c.at_.r, .int .i64 c.seq, .slice A5 (([] ++ c.deps).length) cap5, .int .i64 c.kind, .int .i64 c.node.c, .int .i64 c.node.r, .int .i64 c.par.c, .int .i64 c.par.r, .int .i64 c.aft.c, .int .i64 c.aft.r, .string c.name, .string c.val]) (blk_cells (k := 2) hS7 rfl) rfl Try.isAgg55 Try.sizeOf55 rfl rfl, trivial⟩) ?_)
  exact ⟨_, _, _, rfl, hS7.kept (k := 0) rfl, hS7.get (k := 3) rfl, (Reps.append (Reps.nil _ w _) hR5), fun b hb => hS7.fresh (k := 3) rfl rfl rfl b hb, ho_c⟩
end Go.Proofs.Ytceeellnjckmiaa

/- Booleans that differ; what a log's Find and Own hold against the reference's. -/
namespace Go.Sl
open Go Go.RowKit
section
variable {P : Program} {o : Oper} {E : Env} {w : World} {x y : Operand} {t e : TypeId} {b c : Bool}
theorem Q_neqB' (ht : P.underlying t = some .bool) (ho : o.op = .binOp .neq t x y e) (hx : evalE E x = some (.bool b)) (hy : evalE E y = some (.bool c)) : Qt P o E w (.bool (!(b == c))) := fun nt D a ha => by
  have hg : ∀ w : World, (Op.equal t (.bool b) (.bool c)).run P w = .ok (b == c) w := fun w => by
    have hq : ∀ n, (Op.equalIn (n + 1) t (.bool b) (.bool c)).run P w = .ok (b == c) w := fun n => by simp [Op.equalIn, underlying, ht]
    exact hq 9999
  unfold execOp; rw [ho]; simp [ha.eval hx, ha.eval hy, eqGuard, binOp, hg]
end
theorem zero_rd (w : World) : tCh.rd w [.int .i64 0, .int .i64 0, .int .i64 0, .slice none 0 0, .int .i64 0, .int .i64 0, .int .i64 0, .int .i64 0, .int .i64 0, .int .i64 0, .int .i64 0, .string nostr, .string nostr] zeroCh := ⟨none, 0, rfl, rdNil _ _, zeroCh_ok⟩
section
variable {l : List Change} {r q : Int}
theorem Good.own_no (hg : Good l) (h : ¬ (r < 0 ∨ 64 ≤ r)) (h2 : ownAt l r q < 0) : ownE l r q = 4 ∧ ownC l r q = zeroCh := by
  have h3 := hg.own (r := r) (q := q)
  have h4 : ownE l r q = 4 := ownE_4 h (by omega)
  exact ⟨h4, ownC_no (by omega)⟩
theorem Good.own_yes (hg : Good l) (h : ¬ (r < 0 ∨ 64 ≤ r)) (h2 : ¬ ownAt l r q < 0) : ownE l r q = 0 ∧ ownC l r q = nth l (ownAt l r q) := by
  have h3 := (hg.own (r := r) (q := q)).1 (by omega)
  have h4 : ownE l r q = 0 := ownE_0 h (by omega)
  refine ⟨h4, ?_⟩
  rw [ownC_0 h4, ← hg.own_at h3.1 h3.2]
  obtain ⟨ho1, ho2, ho3⟩ := ownAt_at (l := l) (r := r) (q := q) (by omega)
  have hm : nth l (ownAt l r q) ∈ l := nth_mem (by omega) ho1
  have hf : 0 ≤ findAt l (nth l (ownAt l r q)).at_ := findAt_pos.2 ⟨_, hm, rfl⟩
  rw [findC_yes hf]
  exact at_uniq hg.rise (find_mem hf) hm (findAt_at hf).2
theorem own_out (h : r < 0 ∨ 64 ≤ r) : ownE l r q = 1 ∧ ownC l r q = zeroCh := ⟨ownE_1 h, ownC_no (by rw [ownE_1 h]; decide)⟩
end
end Go.Sl

/- Two loud operations of a region of open order that may come up in either order. -/
namespace Go.Sl
open Go Go.RowKit
section
variable {ro : Option Nat} {P : Program} {nt : Nat} {D : List Deferred} {ops : Array Oper} {I : World → Prop} {Q : Exit → Act → World → Prop} {E : Env} {w : World} {nA fuel : Nat} {listed : Array Bool} {o : Oper}
/-- Operation i comes up. -/
def JA1 (ro : Option Nat) (P : Program) (nt : Nat) (D : List Deferred) (ops : Array Oper) (I : World → Prop) (nA : Nat) (Q : Exit → Act → World → Prop) (fuel : Nat) (listed : Array Bool) (i : Nat) (E : Env) (w : World) : Prop :=
  ∀ a, Ag nt D E a → wpOpIn (Fw ro) 0 P ops QF i (fun a' w' => (Nat.blt i nA = true → I w → I w') ∧ wpJ ro P ops I (fun j => Nat.blt j nA) (Q .normal) fuel (listed.setIfInBounds i true) a' w') a w
theorem JA_two (i j : Nat) (hr : Region.ready .any ops listed = [i, j]) (h1 : JA1 ro P nt D ops I nA Q fuel listed i E w) (h2 : JA1 ro P nt D ops I nA Q fuel listed j E w) : JA ro P nt D ops I nA Q (fuel + 1) listed E w := fun a ha => by
  refine ⟨fun h => (by rw [hr] at h; cases h), fun k hk => ?_⟩
  rw [hr] at hk
  simp only [List.mem_cons, List.not_mem_nil, or_false] at hk
  rcases hk with rfl | rfl
  · exact h1 a ha
  · exact h2 a ha
theorem JA1_do (i : Nat) (d : Nat) (ho : ops[i]? = some o) (hf : fine ops o nt = true) (hw : wantsE ops o E = some true) (hd : o.dst = some d) (hr : 0 = 0)
    (hq : Does P o E w fun v w' => (Nat.blt i nA = true → I w') ∧ JA ro P nt D ops I nA Q fuel (listed.setIfInBounds i true) ((d, v) :: E) w') : JA1 ro P nt D ops I nA Q fuel listed i E w := fun a ha => by
  obtain ⟨nx, v, w', hrun, hnx, hI, hK⟩ := hq nt D a ha
  have ha' : Ag nt D ((d, v) :: E) (a.put o.dst v) := by
    have h := ha.after v hf
    unfold Sl.after at h
    rw [hd] at h ⊢
    exact h
  have h3 := hK _ ha'
  unfold wpOpIn
  simp only [ho, wanted_of ha hw (guardLt_of (fine_guard hf)), if_true, Oper.wpIn, fine_semAt hf, hrun]
  rcases hnx with rfl | ⟨rfl, rfl⟩
  · exact ⟨fun _ _ => trivial, fun h _ => hI h, h3⟩
  · exact ⟨fun _ _ => trivial, fun h _ => hI h, h3⟩
theorem JA1_call (i : Nat) (d : Nat) {f : FuncId} {args : Array Value} {R : Ending → World → Prop} (ho : ops[i]? = some o) (hf : fine ops o nt = true) (hw : wantsE ops o E = some true) (hd : o.dst = some d) (hr : 0 = 0)
    (hq : CallsTo P o E w f args) (hc : Calls P f args w R)
    (hk : ∀ e w', R e w' → ∃ v, e = .returned v ∧ (Nat.blt i nA = true → I w') ∧ JA ro P nt D ops I nA Q fuel (listed.setIfInBounds i true) ((d, v) :: E) w') : JA1 ro P nt D ops I nA Q fuel listed i E w := fun a ha => by
  have h2 := hq nt D a ha
  unfold wpOpIn
  simp only [ho, wanted_of ha hw (guardLt_of (fine_guard hf)), if_true, Oper.wpIn, fine_semAt hf, h2, Oper.uponIn]
  refine ⟨fun _ _ => trivial, fun h => by simp [Fw] at h, ?_⟩
  refine (callsIn_fw_any ro hc).mono ?_
  rintro e w' hR
  obtain ⟨v, rfl, hI, hJ⟩ := hk e w' hR
  have ha' : Ag nt D ((d, v) :: E) (a.put o.dst v) := by
    have h := ha.after v hf
    unfold Sl.after at h
    rw [hd] at h ⊢
    exact h
  exact ⟨fun h _ => hI h, hJ _ ha'⟩
end
end Go.Sl

/- Printed by a program of mine (gen.py). -/
set_option maxRecDepth 100000
namespace Go.Proofs.Ytceeellnjckmiaa
open Go Go.Sl
theorem OplogGoes_calls (w : World) (v_l : Value) (l : List Change) (h_l : (tSl tCh).rd w [v_l] l) (v_known : Value) (known : List Int) (h_known : (tSl tI).rd w [v_known] known) (stop : Int) :
    Calls Try.prog 4 #[v_l, v_known, .int .i64 stop] w fun e w' => e = .returned (.bool true) ∧ Kp no w w' := by
  have hS0 := St.start w
  have hF_l := RdF.of_rd h_l
  obtain ⟨A_l, cap_l, rfl, hc_l, hm_l⟩ := hF_l.slice
  have hF_known := RdF.of_rd h_known
  obtain ⟨A_known, cap_known, rfl, hc_known, hm_known⟩ := hF_known.slice
  refine fn_callsM 117 (args := [_, _, _]) Try.func4 rfl rfl rfl ?_
  refine C_seq ?_
  refine C_region ?_
  refine J_do 5 rfl rfl rfl rfl (D_box 1 hS0 rfl rfl (fun g1 w1 hS1 => ?_))
  refine J_do 6 rfl rfl rfl rfl (D_alloc 2 hS1 rfl Try.zeroValue4 (fun g2 w2 hS2 => ?_))
  refine J_nil (K_seq ?_)
  refine C_seq ?_
  refine C_region ?_
  refine J_q 19 rfl rfl rfl rfl (Q_move rfl rfl) ?_
  refine J_call 20 rfl rfl rfl rfl (T_call rfl rfl rfl Try.call23) (Lfilled_calls _ 50 _ l (hS2.rd 0 rfl hF_l) (by omega)) ?_
  rintro _ w3 ⟨gL3, FL3, vF3, rfl, hk3, hFL3, hLL3, GF3, hGF3, hdF3, hrF3⟩
  have hS3 := hS2.new2 (e1 := logE FL3 gL3 50 (addAll 50 l)) (e2 := fz w3 GF3) hk3 3 4 hLL3 (fun _ _ => rfl) hFL3 hGF3 hdF3
  obtain ⟨AF3, cF3, rfl, hcF3, hmF3⟩ := hrF3.slice
  have hlf3 := LogAt.f hLL3
  have hgF3 := hlf3.1
  refine ⟨_, rfl, ?_⟩
  refine J_q 18 rfl rfl rfl rfl (Q_move rfl rfl) ?_
  refine J_q 21 rfl rfl rfl rfl (Q_extract rfl rfl rfl) ?_
  refine J_q 22 rfl rfl rfl rfl (Q_extract rfl rfl rfl) ?_
  refine J_do 8 rfl rfl rfl rfl (D_alloc 5 hS3 rfl Try.zeroValue47 (fun g4 w4 hS4 => ?_))
  refine J_q 7 rfl rfl rfl rfl (Q_assign rfl rfl) ?_
  refine J_do0 rfl rfl rfl rfl (D_store' (k := 5) hS4 rfl rfl rfl rfl Try.sizeOf47 rfl rfl rfl (fun w5 hS5 => ?_))
  refine J_nil (K_seq ?_)
  refine C_seq ?_
  refine C_region ?_
  refine J_do 23 rfl rfl rfl rfl (D_bs (e := 3) (ps := []) 7 ([]) hS5 rfl rfl (fun _ => by kernel_rfl) (fun g6 w6 hS6 => ?_))
  refine J_q 24 rfl rfl rfl rfl (Q_move rfl rfl) ?_
  have hS7 := hS6.lit0 (sz := 1) 7 rfl
  refine J_do 25 rfl rfl rfl rfl (D_appSL ([]) known app44 hS7 7 rfl 0 rfl rfl rfl rfl hF_known (by first | omega | (simp only [List.length_nil, List.length_append, List.length_cons]; omega)) (by first | omega | (simp only [List.length_nil, List.length_append, List.length_cons]; omega)) (fun A8 cap8 gl8 w8 hR8 hc8 hS8 => ?_))
  have hR8 := Reps.int (W' := w) hR8
  refine J_q 9 rfl rfl rfl rfl (Q_assign rfl rfl) ?_
  refine J_nil (K_seq ?_)
  refine C_seq ?_
  refine C_region ?_
  refine J_q 26 rfl rfl rfl rfl (Q_move rfl rfl) ?_
  refine J_q 27 rfl rfl rfl rfl (Q_move rfl rfl) ?_
  have hro9 := own_rd0 (d := tI) hS8 7 rfl rfl (Reps.append (Reps.nil _ w _) hR8) (by first | omega | (simp only [List.length_append, List.length_nil]; omega))
  obtain ⟨pL10, hLR10⟩ := LogAt.logR (hS8.get (k := 3) rfl)
  refine J_call 28 rfl rfl rfl rfl (T_call rfl rfl rfl Try.call24) (LEach_calls _ _ _ _ _ (hLR10.mono (hS8.fpLt (k := 3) rfl)) _ known hro9.here) ?_
  rintro _ w9 ⟨gE9, vE9, rfl, hk9, hBE9, hRE9⟩
  have hS9 := hS8.call hk9 8
  obtain ⟨AE9, cE9, rfl, hcE9, hxE9⟩ := hRE9.slice
  have hzE9 := eachL_len (addAll 50 l) known
  refine ⟨_, rfl, ?_⟩
  refine J_q 10 rfl rfl rfl rfl (Q_assign rfl rfl) ?_
  refine J_nil (K_seq ?_)
  refine C_seq ?_
  refine C_seq ?_
  refine C_region ?_
  refine J_q 29 rfl rfl rfl rfl (Q_move rfl rfl) ?_
  refine J_q 30 rfl rfl rfl rfl (Q_eqlNilFn rfl rfl rfl ⟨_, _, _, Try.underlying51⟩) ?_
  refine J_nil (K_seq ?_)
  refine C_false rfl ?_
  refine C_skip (K_seq ?_)
  refine C_seq ?_
  refine C_seq ?_
  refine C_region ?_
  refine J_q 11 rfl rfl rfl rfl (Q_assign rfl rfl) ?_
  refine J_nil (K_seq ?_)
  refine C_block ?_
  refine C_loop2 (fun (i0 : Int) (ow : Row Int) => (known.length - i0).toNat) (fun (i0 : Int) (ow : Row Int) => [(0, .slice A_l l.length cap_l), (1, .slice A_known known.length cap_known), (2, .int .i64 stop), (5, .pointer (some (⟨g1, 0, none⟩ : Addr))), (6, .pointer (some (⟨g2, 0, none⟩ : Addr))), (19, .slice A_l l.length cap_l), (20, .tuple #[.pointer (some (⟨gL3, 0, none⟩ : Addr)), .agg ([.int .i64 50, .slice AF3 ((addAll 50 l).length) cF3]).toArray]), (18, .tuple #[.pointer (some (⟨gL3, 0, none⟩ : Addr)), .agg ([.int .i64 50, .slice AF3 ((addAll 50 l).length) cF3]).toArray]), (21, .pointer (some (⟨gL3, 0, none⟩ : Addr))), (22, .agg ([.int .i64 50, .slice AF3 ((addAll 50 l).length) cF3]).toArray), (8, .pointer (some (⟨g4, 0, none⟩ : Addr))), (7, .pointer (some (⟨gL3, 0, none⟩ : Addr))), (23, .slice (some ⟨g6, 0, none⟩) 0 0), (24, .slice A_known known.length cap_known), (25, .slice A8 (([] ++ known).length) cap8), (9, .slice ow.A known.length ow.c), (26, .pointer (some (⟨gL3, 0, none⟩ : Addr))), (27, .slice A8 (([] ++ known).length) cap8), (28, .func (.func 68) #[] #[.pointer (some (⟨gE9, 0, none⟩ : Addr))]), (10, .func (.func 68) #[] #[.pointer (some (⟨gE9, 0, none⟩ : Addr))]), (29, .func (.func 68) #[] #[.pointer (some (⟨gE9, 0, none⟩ : Addr))]), (30, .bool false), (11, .int .i64 i0)]) (fun (i0 : Int) (ow : Row Int) w' => (0 ≤ i0) ∧ (i0 ≤ known.length) ∧ (ow.l.length = known.length) ∧ (Reps tI w no ow.l ow.f) ∧ St w w' [(8, fz w9 (nw w8 w9)), (7, own 3 1 (.slice ow.A known.length ow.c) known.length ow.f), (5, blkL g4 ([.int .i64 50, .slice AF3 ((addAll 50 l).length) cF3]) 47), (3, logE FL3 gL3 50 (addAll 50 l)), (4, fz w3 GF3), (2, blkL g2 ([.bool false]) 4), (1, blkL g1 ([.int .i64 stop]) 3), (0, fz w (lt_ w))]) 0 (⟨A8, cap8, [] ++ gl8, [] ++ known⟩) ⟨(by first | omega | rfl), (by first | omega | rfl), (by first | omega | rfl), (Reps.append (Reps.nil _ w _) hR8), hS9⟩ ⟨rfl, rfl, rfl, rfl, rfl, rfl, rfl, rfl, rfl, rfl, rfl, rfl, rfl, rfl, rfl, rfl, rfl, rfl, rfl, rfl, rfl, rfl, rfl, trivial⟩ ?_
  rintro i0 ow w11 ⟨h00, h10, hlw, hR_ow, hS11⟩
  refine C_seq ?_
  refine C_seq ?_
  refine C_region ?_
  refine J_q 31 rfl rfl rfl rfl (Q_move rfl rfl) ?_
  refine J_q 32 rfl rfl rfl rfl (Q_move rfl rfl) ?_
  refine J_q 33 rfl rfl rfl rfl (Q_len rfl rfl Try.underlying44) ?_
  refine J_q 34 rfl rfl rfl rfl (Q_lss rfl rfl rfl) ?_
  refine J_nil (K_seq ?_)
  refine C_if rfl (fun h12 => ?_) (fun h12 => ?_)
  · refine C_skip (K_seq ?_)
    refine C_seq ?_
    refine C_block ?_
    refine C_region ?_
    refine J_q 37 rfl rfl rfl rfl (Q_move rfl rfl) ?_
    refine J_q 38 rfl rfl rfl rfl (Q_move rfl rfl) ?_
    obtain ⟨ga13, hA13⟩ := own_addr (hS11.get (k := 7) rfl) (by omega)
    refine J_q 39 rfl rfl rfl rfl (Q_iaE hA13 rfl rfl rfl Try.underlying44 Try.sizeOf3 (by omega) (by omega)) ?_
    refine J_do0 rfl rfl rfl rfl (D_setI (k := 7) ow.l i0 1 hlw hS11 rfl hR_ow hA13 (by omega) (by omega) rfl rfl rfl Try.sizeOf3 (fun w14 hS14 => ?_))
    refine J_nil (N_blk (K_seq ?_))
    refine C_region ?_
    refine J_q 35 rfl rfl rfl rfl (Q_move rfl rfl) ?_
    refine J_q 36 rfl rfl rfl rfl (Q_add rfl rfl rfl (by omega) (by omega)) ?_
    refine J_q 11 rfl rfl rfl rfl (Q_assign rfl rfl) ?_
    exact J_nil (K_round2 (x0 := i0) (x1 := ow) (i0 + 1) ⟨ow.A, ow.c, (ow.f.set (i0).toNat (.int .i64 1)), (ow.l.set (i0).toNat 1)⟩ ⟨(by first | omega | (simp only [List.length_set]; omega)), (by first | omega | (simp only [List.length_set]; omega)), (by first | omega | (simp only [List.length_set]; omega)), (Reps.setI hR_ow (by omega) (by omega)), hS14⟩ (by omega) ⟨rfl, rfl, rfl, rfl, rfl, rfl, rfl, rfl, rfl, rfl, rfl, rfl, rfl, rfl, rfl, rfl, rfl, rfl, rfl, rfl, rfl, rfl, rfl, trivial⟩)
  · refine C_exit (X_then (X_then (X_hit (K_seq ?_))))
    refine C_seq ?_
    refine C_region ?_
    refine J_q 40 rfl rfl rfl rfl (Q_move rfl rfl) ?_
    refine J_call 41 rfl rfl rfl rfl (T_call rfl rfl rfl Try.call26) (first_calls _) ?_
    rintro _ w15 ⟨l15_0, rfl, hk15, hr15_0⟩
    have hS15 := hS11.call hk15 10
    obtain ⟨A15_0, cap15_0, rfl, hd15_0, ho15_0⟩ := openCh hr15_0
    have hln15_0 := RdF.lens hd15_0
    have hsq15_0 := ho15_0.seq
    refine ⟨_, rfl, ?_⟩
    refine J_call 42 rfl rfl rfl rfl (T_call rfl rfl rfl Try.call25) (LAdd_calls _ FL3 gL3 50 (addAll 50 l) (hS15.get (k := 3) rfl) _ (firstC) _ (hS15.rdF 10 rfl hr15_0) (fun b hb => ⟨hS15.fpLt (k := 10) rfl b hb, fun h => hS15.disj (k := 10) (j := 3) rfl rfl rfl b hb h⟩)) ?_
    rintro _ w16 ⟨rfl, hk16, FN16, hFN16, hLN16⟩
    have hS16 := hS15.upd (k := 3) (e' := logE FN16 gL3 50 (if whyR (addAll 50 l) 50 (firstC) = 0 then putC (addAll 50 l) (firstC) else (addAll 50 l))) rfl hk16 hLN16 hFN16
    refine ⟨_, rfl, ?_⟩
    refine J_nil (K_seq ?_)
    refine C_seq ?_
    refine C_region ?_
    refine J_do 43 rfl rfl rfl rfl (D_bs (e := 55) (ps := []) 11 ([]) hS16 rfl rfl (fun _ => by kernel_rfl) (fun g17 w17 hS17 => ?_))
    refine J_do 12 rfl rfl rfl rfl (D_alloc 12 hS17 rfl Try.zeroValue43 (fun g18 w18 hS18 => ?_))
    refine J_do0 rfl rfl rfl rfl (D_store' (k := 12) hS18 rfl rfl rfl rfl Try.sizeOf43 rfl rfl rfl (fun w19 hS19 => ?_))
    refine J_nil (K_seq ?_)
    refine C_seq ?_
    refine C_seq ?_
    refine C_region ?_
    refine J_q 44 rfl rfl rfl rfl (Q_move rfl rfl) ?_
    refine J_call 45 rfl rfl rfl rfl (T_call rfl rfl rfl Try.call27) (RCheck_calls _ _ known (hS19.rd 0 rfl hF_known)) ?_
    rintro _ w20 ⟨rfl, hk20⟩
    have hS20 := hS19.kp0 hk20
    refine ⟨_, rfl, ?_⟩
    refine J_q 46 rfl rfl rfl rfl (Q_eql rfl rfl rfl) ?_
    refine J_nil (K_seq ?_)
    refine C_if rfl (fun h21 => ?_) (fun h21 => ?_)
    · refine C_region ?_
      refine J_q 47 rfl rfl rfl rfl (Q_fa0 rfl rfl fo47_1) ?_
      refine J_q 48 rfl rfl rfl rfl (Q_ldB1 (k := 5) hS20 rfl rfl rfl Try.isAgg43 rfl) ?_
      refine J_q 49 rfl rfl rfl rfl (Q_move rfl rfl) ?_
      refine J_call 50 rfl rfl rfl rfl (T_call rfl rfl rfl Try.call28) (RAll_calls _ GF3 (hS20.fpLt (k := 4) rfl) _ (addAll 50 l) (hS20.rdF 4 rfl hrF3) _ known (hS20.rd 0 rfl hF_known)) ?_
      rintro _ w22 ⟨vv22_0, rfl, hk22, hr22_0⟩
      have hS22 := hS20.join hk22 4 rfl
      obtain ⟨A22_0, cap22_0, rfl, hc22_0, hm22_0⟩ := hr22_0.slice
      have hz23 := lackR_len (addAll 50 l) known
      refine ⟨_, rfl, ?_⟩
      refine J_do0 rfl rfl rfl rfl (D_store' (k := 12) hS22 rfl rfl rfl rfl Try.sizeOf43 rfl rfl rfl (fun w24 hS24 => ?_))
      refine J_nil (K_seq ?_)
      refine C_seq ?_
      refine C_region ?_
      refine J_do 13 rfl rfl rfl rfl (D_alloc 15 hS24 rfl Try.zeroValue3 (fun g25 w25 hS25 => ?_))
      refine J_do0 rfl rfl rfl rfl (D_store' (k := 15) hS25 rfl rfl rfl rfl Try.sizeOf3 rfl rfl rfl (fun w26 hS26 => ?_))
      refine J_nil (K_seq ?_)
      refine C_seq ?_
      refine C_seq ?_
      refine C_region ?_
      refine J_q 51 rfl rfl rfl rfl (Q_move rfl rfl) ?_
      refine J_nil (K_seq ?_)
      refine C_block ?_
      refine C_range 17 18 hS26 rfl Try.call68 (fun l27 d27 B27 w27 hB27 hS27 => ?_)
      refine fn_calls' 17 (args := [_, _]) Try.func68 rfl rfl rfl ?_
      refine C_seq ?_
      refine C_region ?_
      refine J_q 5 rfl rfl rfl rfl (Q_ldC1' (hBE9 _ (hS27.get (k := 8) rfl)) rfl rfl Try.isAgg43 rfl) ?_
      refine J_q 6 rfl rfl rfl rfl (Q_len rfl rfl Try.underlying43) ?_
      refine J_q 7 rfl rfl rfl rfl (Q_move rfl rfl) ?_
      refine J_nil (K_seq ?_)
      refine C_block ?_
      refine C_loop2 (fun (i : Int) (n : Int) => ((eachL (addAll 50 l) known).length - i).toNat) (fun (i : Int) (n : Int) => [(0, .func (.yield l27) #[] #[]), (1, .pointer (some (⟨gE9, 0, none⟩ : Addr))), (5, .slice AE9 ((eachL (addAll 50 l) known).length) cE9), (6, .int .i64 ((eachL (addAll 50 l) known).length : Int)), (7, .int .i64 i)]) (fun (i : Int) (n : Int) w' => (0 ≤ i) ∧ (i ≤ (eachL (addAll 50 l) known).length) ∧ (n = i) ∧ St w w' [(17, lpE l27 B27 .ready none), (18, dfE d27), (15, blkL g25 ([.int .i64 n]) 3), (12, blkL g18 ([.slice A22_0 ((lackR (addAll 50 l) known).length) cap22_0]) 43), (11, blkL g17 ([]) 55), (10, fz w15 (nw w11 w15)), (8, fz w9 (nw w8 w9)), (7, own 3 1 (.slice ow.A known.length ow.c) known.length ow.f), (5, blkL g4 ([.int .i64 50, .slice AF3 ((addAll 50 l).length) cF3]) 47), (3, logE FN16 gL3 50 (if whyR (addAll 50 l) 50 (firstC) = 0 then putC (addAll 50 l) (firstC) else (addAll 50 l))), (4, fz w22 (or_ GF3 (nw w20 w22))), (2, blkL g2 ([.bool false]) 4), (1, blkL g1 ([.int .i64 stop]) 3), (0, fz w (lt_ w))]) 0 0 ⟨(by first | omega | rfl), (by first | omega | rfl), (by first | omega | rfl), hS27⟩ ⟨rfl, rfl, rfl, rfl, rfl, trivial⟩ ?_
      rintro i n w28 ⟨h0i, h1i, hnin, hS28⟩
      have hEL : eachL (addAll 50 l) known = lackR (addAll 50 l) known := eachL_yes (by assumption)
      have hELl := congrArg List.length hEL; (try simp only [List.length_nil] at hELl)
      refine C_seq ?_
      refine C_region ?_
      refine J_q 8 rfl rfl rfl rfl (Q_lss rfl rfl rfl) ?_
      refine J_nil (K_seq ?_)
      refine C_seq ?_
      refine C_if rfl (fun h29 => ?_) (fun h29 => ?_)
      · refine C_skip (K_seq ?_)
        refine C_seq ?_
        refine C_block ?_
        refine C_seq ?_
        refine C_region ?_
        obtain ⟨ad30, es30, hA30, hr30, hc30⟩ := RdF.nth hRE9 i (by omega) (by omega)
        obtain ⟨A30, cap30, rfl, hd30, ho30⟩ := openCh hr30
        have hln30 := RdF.lens hd30
        have hsq30 := ho30.seq
        refine J_q 9 rfl rfl rfl rfl (Q_iaE hA30 rfl rfl rfl Try.underlying43 Try.sizeOf55 (by omega) (by omega)) ?_
        refine J_q 10 rfl rfl rfl rfl (Q_ldCK' (chL (nth (eachL (addAll 50 l) known) i) A30 cap30) (hc30 _ (hS28.get (k := 8) rfl)) rfl rfl Try.isAgg55 Try.sizeOf55 rfl rfl) ?_
        refine J_do 4 rfl rfl rfl rfl (D_alloc 19 hS28 rfl Try.zeroValue55 (fun g31 w31 hS31 => ?_))
        refine J_do0 rfl rfl rfl rfl (D_store' (k := 19) hS31 rfl rfl rfl rfl Try.sizeOf55 rfl rfl rfl (fun w32 hS32 => ?_))
        refine J_nil (K_seq ?_)
        refine C_seq ?_
        refine C_region ?_
        refine J_q 11 rfl rfl rfl rfl (Q_move rfl rfl) ?_
        refine J_q 12 rfl rfl rfl rfl (Q_ldBK' (k := 19) (chL (nth (eachL (addAll 50 l) known) i) A30 cap30) hS32 rfl rfl rfl Try.isAgg55 Try.sizeOf55 rfl rfl) ?_
        refine J_call 13 rfl rfl rfl rfl (T_call rfl rfl rfl Try.call67) (CCopyO_calls _ _ (nth (eachL (addAll 50 l) known) i) (hS32.rd 8 rfl hr30)) ?_
        rintro _ w33 ⟨A33, cap33, fl33, rfl, hk33, hw33, hR33, hf33, hok33⟩
        have hS33 := hS32.new hk33 21 (own 3 1 (.slice A33 (nth (eachL (addAll 50 l) known) i).deps.length cap33) (nth (eachL (addAll 50 l) known) i).deps.length fl33) hw33 hf33
        have hR33 := Reps.int (W' := w) hR33
        refine ⟨_, rfl, ?_⟩
        refine J_round 14 (k := 17) rfl rfl rfl rfl rfl rfl rfl hB27 hS33 rfl rfl rfl ?_
        refine C_sub (E' := [(5, .pointer (some (⟨g1, 0, none⟩ : Addr))), (6, .pointer (some (⟨g2, 0, none⟩ : Addr))), (12, .pointer (some (⟨g18, 0, none⟩ : Addr))), (13, .pointer (some (⟨g25, 0, none⟩ : Addr))), (52, .agg ([.int .i64 ((nth (eachL (addAll 50 l) known) i).at_.c), .int .i64 ((nth (eachL (addAll 50 l) known) i).at_.r), .int .i64 ((nth (eachL (addAll 50 l) known) i).seq), .slice A33 ((nth (eachL (addAll 50 l) known) i).deps.length) cap33, .int .i64 ((nth (eachL (addAll 50 l) known) i).kind), .int .i64 ((nth (eachL (addAll 50 l) known) i).node.c), .int .i64 ((nth (eachL (addAll 50 l) known) i).node.r), .int .i64 ((nth (eachL (addAll 50 l) known) i).par.c), .int .i64 ((nth (eachL (addAll 50 l) known) i).par.r), .int .i64 ((nth (eachL (addAll 50 l) known) i).aft.c), .int .i64 ((nth (eachL (addAll 50 l) known) i).aft.r), .string ((nth (eachL (addAll 50 l) known) i).name), .string ((nth (eachL (addAll 50 l) known) i).val)]).toArray)]) ⟨rfl, rfl, rfl, rfl, rfl, trivial⟩ ?_
        refine C_region ?_
        refine J_do 14 rfl rfl rfl rfl (D_alloc 22 hS33 rfl Try.zeroValue55 (fun g34 w34 hS34 => ?_))
        refine J_do0 rfl rfl rfl rfl (D_store' (k := 22) hS34 rfl rfl rfl rfl Try.sizeOf55 rfl rfl rfl (fun w35 hS35 => ?_))
        refine J_nil (K_begin hS35 17 rfl (fun w36 hS36 => ?_))
        refine C_block ?_
        refine C_seq ?_
        refine C_seq ?_
        refine C_region ?_
        refine J_q 53 rfl rfl rfl rfl (Q_ldB1' (k := 15) hS36 rfl rfl rfl Try.isAgg3 rfl) ?_
        refine J_q 54 rfl rfl rfl rfl (Q_ldB1' (k := 1) hS36 rfl rfl rfl Try.isAgg3 rfl) ?_
        refine J_q 55 rfl rfl rfl rfl (Q_eql rfl rfl rfl) ?_
        refine J_nil (K_seq ?_)
        refine C_if rfl (fun h37 => ?_) (fun h37 => ?_)
        · refine C_exit (X_then (X_miss rfl (K_rexit hS36 17 rfl (fun w38 hS38 => ?_))))
          have hS39 : St w w38 [(21, own 3 1 (.slice A33 (nth (eachL (addAll 50 l) known) i).deps.length cap33) ((nth (eachL (addAll 50 l) known) i).deps.length) fl33), (19, blkL g31 (chL (nth (eachL (addAll 50 l) known) i) A30 cap30) 55), (17, lpE l27 B27 .done (some (.exit 2))), (18, dfE d27), (15, blkL g25 ([.int .i64 n]) 3), (12, blkL g18 ([.slice A22_0 ((lackR (addAll 50 l) known).length) cap22_0]) 43), (11, blkL g17 ([]) 55), (10, fz w15 (nw w11 w15)), (8, fz w9 (nw w8 w9)), (7, own 3 1 (.slice ow.A known.length ow.c) known.length ow.f), (5, blkL g4 ([.int .i64 50, .slice AF3 ((addAll 50 l).length) cF3]) 47), (3, logE FN16 gL3 50 (if whyR (addAll 50 l) 50 (firstC) = 0 then putC (addAll 50 l) (firstC) else (addAll 50 l))), (4, fz w22 (or_ GF3 (nw w20 w22))), (2, blkL g2 ([.bool false]) 4), (1, blkL g1 ([.int .i64 stop]) 3), (0, fz w (lt_ w))] := hS38.pick [21, 19, 17, 18, 15, 12, 11, 10, 8, 7, 5, 3, 4, 2, 1, 0] ⟨rfl, rfl, rfl, rfl, rfl, rfl, rfl, rfl, rfl, rfl, rfl, rfl, rfl, rfl, rfl, rfl, rfl, rfl, rfl, rfl, rfl, rfl, rfl, rfl, rfl, rfl, rfl, rfl, rfl, rfl, rfl, rfl, trivial⟩
          refine J_q 15 rfl rfl rfl rfl (Q_not rfl rfl) ?_
          refine J_nil (K_seq ?_)
          refine C_true rfl ?_
          refine C_ret (R_blk (R_then (R_then (R_blk (body_ret (res0 rfl) ?_)))))
          refine range_jump hS39 17 rfl (fun h => nomatch h) (fun w40 hS40 => ?_) _
          refine C_exit (X_hit (K_seq ?_))
          refine C_seq ?_
          refine C_region ?_
          refine J_do 16 rfl rfl rfl rfl (D_alloc 24 hS40 rfl Try.zeroValue3 (fun g41 w41 hS41 => ?_))
          refine J_do0 rfl rfl rfl rfl (D_store' (k := 24) hS41 rfl rfl rfl rfl Try.sizeOf3 rfl rfl rfl (fun w42 hS42 => ?_))
          refine J_nil (K_seq ?_)
          refine C_seq ?_
          refine C_seq ?_
          refine C_region ?_
          refine J_q 82 rfl rfl rfl rfl (Q_move rfl rfl) ?_
          refine J_nil (K_seq ?_)
          refine C_block ?_
          have hS44 : St w w42 [(24, blkL g41 ([.int .i64 0]) 3), (21, own 3 1 (.slice A33 (nth (eachL (addAll 50 l) known) i).deps.length cap33) ((nth (eachL (addAll 50 l) known) i).deps.length) fl33), (18, dfE d27), (15, blkL g25 ([.int .i64 n]) 3), (12, blkL g18 ([.slice A22_0 ((lackR (addAll 50 l) known).length) cap22_0]) 43), (11, blkL g17 ([]) 55), (10, fz w15 (nw w11 w15)), (8, fz w9 (nw w8 w9)), (7, own 3 1 (.slice ow.A known.length ow.c) known.length ow.f), (5, blkL g4 ([.int .i64 50, .slice AF3 ((addAll 50 l).length) cF3]) 47), (3, logE FN16 gL3 50 (if whyR (addAll 50 l) 50 (firstC) = 0 then putC (addAll 50 l) (firstC) else (addAll 50 l))), (4, fz w22 (or_ GF3 (nw w20 w22))), (2, blkL g2 ([.bool false]) 4), (1, blkL g1 ([.int .i64 stop]) 3), (0, fz w (lt_ w))] := hS42.pick [24, 21, 18, 15, 12, 11, 10, 8, 7, 5, 3, 4, 2, 1, 0] ⟨rfl, rfl, rfl, rfl, rfl, rfl, rfl, rfl, rfl, rfl, rfl, rfl, rfl, rfl, rfl, rfl, rfl, rfl, rfl, rfl, rfl, rfl, rfl, rfl, rfl, rfl, rfl, rfl, rfl, rfl, trivial⟩
          refine C_range 26 27 hS44 rfl Try.call68 (fun l43 d43 B43 w43 hB43 hS43 => ?_)
          refine fn_calls' 17 (args := [_, _]) Try.func68 rfl rfl rfl ?_
          refine C_seq ?_
          refine C_region ?_
          refine J_q 5 rfl rfl rfl rfl (Q_ldC1' (hBE9 _ (hS43.get (k := 8) rfl)) rfl rfl Try.isAgg43 rfl) ?_
          refine J_q 6 rfl rfl rfl rfl (Q_len rfl rfl Try.underlying43) ?_
          refine J_q 7 rfl rfl rfl rfl (Q_move rfl rfl) ?_
          refine J_nil (K_seq ?_)
          refine C_block ?_
          refine C_loop2 (fun (i3 : Int) (k2 : Int) => ((eachL (addAll 50 l) known).length - i3).toNat) (fun (i3 : Int) (k2 : Int) => [(0, .func (.yield l43) #[] #[]), (1, .pointer (some (⟨gE9, 0, none⟩ : Addr))), (5, .slice AE9 ((eachL (addAll 50 l) known).length) cE9), (6, .int .i64 ((eachL (addAll 50 l) known).length : Int)), (7, .int .i64 i3)]) (fun (i3 : Int) (k2 : Int) w' => (0 ≤ i3) ∧ (i3 ≤ (eachL (addAll 50 l) known).length) ∧ (k2 = i3) ∧ St w w' [(26, lpE l43 B43 .ready none), (27, dfE d43), (24, blkL g41 ([.int .i64 k2]) 3), (21, own 3 1 (.slice A33 (nth (eachL (addAll 50 l) known) i).deps.length cap33) ((nth (eachL (addAll 50 l) known) i).deps.length) fl33), (18, dfE d27), (15, blkL g25 ([.int .i64 n]) 3), (12, blkL g18 ([.slice A22_0 ((lackR (addAll 50 l) known).length) cap22_0]) 43), (11, blkL g17 ([]) 55), (10, fz w15 (nw w11 w15)), (8, fz w9 (nw w8 w9)), (7, own 3 1 (.slice ow.A known.length ow.c) known.length ow.f), (5, blkL g4 ([.int .i64 50, .slice AF3 ((addAll 50 l).length) cF3]) 47), (3, logE FN16 gL3 50 (if whyR (addAll 50 l) 50 (firstC) = 0 then putC (addAll 50 l) (firstC) else (addAll 50 l))), (4, fz w22 (or_ GF3 (nw w20 w22))), (2, blkL g2 ([.bool false]) 4), (1, blkL g1 ([.int .i64 stop]) 3), (0, fz w (lt_ w))]) 0 0 ⟨(by first | omega | rfl), (by first | omega | rfl), (by first | omega | rfl), hS43⟩ ⟨rfl, rfl, rfl, rfl, rfl, trivial⟩ ?_
          rintro i3 k2 w45 ⟨h0i3, h1i3, hnik2, hS45⟩
          have hEL : eachL (addAll 50 l) known = lackR (addAll 50 l) known := eachL_yes (by assumption)
          have hELl := congrArg List.length hEL; (try simp only [List.length_nil] at hELl)
          refine C_seq ?_
          refine C_region ?_
          refine J_q 8 rfl rfl rfl rfl (Q_lss rfl rfl rfl) ?_
          refine J_nil (K_seq ?_)
          refine C_seq ?_
          refine C_if rfl (fun h46 => ?_) (fun h46 => ?_)
          · refine C_skip (K_seq ?_)
            refine C_seq ?_
            refine C_block ?_
            refine C_seq ?_
            refine C_region ?_
            obtain ⟨ad47, es47, hA47, hr47, hc47⟩ := RdF.nth hRE9 i3 (by omega) (by omega)
            obtain ⟨A47, cap47, rfl, hd47, ho47⟩ := openCh hr47
            have hln47 := RdF.lens hd47
            have hsq47 := ho47.seq
            refine J_q 9 rfl rfl rfl rfl (Q_iaE hA47 rfl rfl rfl Try.underlying43 Try.sizeOf55 (by omega) (by omega)) ?_
            refine J_q 10 rfl rfl rfl rfl (Q_ldCK' (chL (nth (eachL (addAll 50 l) known) i3) A47 cap47) (hc47 _ (hS45.get (k := 8) rfl)) rfl rfl Try.isAgg55 Try.sizeOf55 rfl rfl) ?_
            refine J_do 4 rfl rfl rfl rfl (D_alloc 28 hS45 rfl Try.zeroValue55 (fun g48 w48 hS48 => ?_))
            refine J_do0 rfl rfl rfl rfl (D_store' (k := 28) hS48 rfl rfl rfl rfl Try.sizeOf55 rfl rfl rfl (fun w49 hS49 => ?_))
            refine J_nil (K_seq ?_)
            refine C_seq ?_
            refine C_region ?_
            refine J_q 11 rfl rfl rfl rfl (Q_move rfl rfl) ?_
            refine J_q 12 rfl rfl rfl rfl (Q_ldBK' (k := 28) (chL (nth (eachL (addAll 50 l) known) i3) A47 cap47) hS49 rfl rfl rfl Try.isAgg55 Try.sizeOf55 rfl rfl) ?_
            refine J_call 13 rfl rfl rfl rfl (T_call rfl rfl rfl Try.call67) (CCopyO_calls _ _ (nth (eachL (addAll 50 l) known) i3) (hS49.rd 8 rfl hr47)) ?_
            rintro _ w50 ⟨A50, cap50, fl50, rfl, hk50, hw50, hR50, hf50, hok50⟩
            have hS50 := hS49.new hk50 30 (own 3 1 (.slice A50 (nth (eachL (addAll 50 l) known) i3).deps.length cap50) (nth (eachL (addAll 50 l) known) i3).deps.length fl50) hw50 hf50
            have hR50 := Reps.int (W' := w) hR50
            refine ⟨_, rfl, ?_⟩
            refine J_round 14 (k := 26) rfl rfl rfl rfl rfl rfl rfl hB43 hS50 rfl rfl rfl ?_
            refine C_sub (E' := [(6, .pointer (some (⟨g2, 0, none⟩ : Addr))), (12, .pointer (some (⟨g18, 0, none⟩ : Addr))), (16, .pointer (some (⟨g41, 0, none⟩ : Addr))), (83, .agg ([.int .i64 ((nth (eachL (addAll 50 l) known) i3).at_.c), .int .i64 ((nth (eachL (addAll 50 l) known) i3).at_.r), .int .i64 ((nth (eachL (addAll 50 l) known) i3).seq), .slice A50 ((nth (eachL (addAll 50 l) known) i3).deps.length) cap50, .int .i64 ((nth (eachL (addAll 50 l) known) i3).kind), .int .i64 ((nth (eachL (addAll 50 l) known) i3).node.c), .int .i64 ((nth (eachL (addAll 50 l) known) i3).node.r), .int .i64 ((nth (eachL (addAll 50 l) known) i3).par.c), .int .i64 ((nth (eachL (addAll 50 l) known) i3).par.r), .int .i64 ((nth (eachL (addAll 50 l) known) i3).aft.c), .int .i64 ((nth (eachL (addAll 50 l) known) i3).aft.r), .string ((nth (eachL (addAll 50 l) known) i3).name), .string ((nth (eachL (addAll 50 l) known) i3).val)]).toArray)]) ⟨rfl, rfl, rfl, rfl, trivial⟩ ?_
            refine C_region ?_
            refine J_do 17 rfl rfl rfl rfl (D_alloc 31 hS50 rfl Try.zeroValue55 (fun g51 w51 hS51 => ?_))
            refine J_do0 rfl rfl rfl rfl (D_store' (k := 31) hS51 rfl rfl rfl rfl Try.sizeOf55 rfl rfl rfl (fun w52 hS52 => ?_))
            refine J_nil (K_begin hS52 26 rfl (fun w53 hS53 => ?_))
            refine C_block ?_
            refine C_seq ?_
            refine C_seq ?_
            refine C_draw (fun w' => St w w' [(31, blkL g51 ([.int .i64 ((nth (eachL (addAll 50 l) known) i3).at_.c), .int .i64 ((nth (eachL (addAll 50 l) known) i3).at_.r), .int .i64 ((nth (eachL (addAll 50 l) known) i3).seq), .slice A50 ((nth (eachL (addAll 50 l) known) i3).deps.length) cap50, .int .i64 ((nth (eachL (addAll 50 l) known) i3).kind), .int .i64 ((nth (eachL (addAll 50 l) known) i3).node.c), .int .i64 ((nth (eachL (addAll 50 l) known) i3).node.r), .int .i64 ((nth (eachL (addAll 50 l) known) i3).par.c), .int .i64 ((nth (eachL (addAll 50 l) known) i3).par.r), .int .i64 ((nth (eachL (addAll 50 l) known) i3).aft.c), .int .i64 ((nth (eachL (addAll 50 l) known) i3).aft.r), .string ((nth (eachL (addAll 50 l) known) i3).name), .string ((nth (eachL (addAll 50 l) known) i3).val)]) 55), (28, blkL g48 (chL (nth (eachL (addAll 50 l) known) i3) A47 cap47) 55), (26, lpE l43 B43 .busy none), (27, dfE d43), (24, blkL g41 ([.int .i64 k2]) 3), (18, dfE d27), (15, blkL g25 ([.int .i64 n]) 3), (12, blkL g18 ([.slice A22_0 ((lackR (addAll 50 l) known).length) cap22_0]) 43), (11, blkL g17 ([]) 55), (10, fz w15 (nw w11 w15)), (8, fz w9 (nw w8 w9)), (5, blkL g4 ([.int .i64 50, .slice AF3 ((addAll 50 l).length) cF3]) 47), (4, fz w22 (or_ GF3 (nw w20 w22))), (2, blkL g2 ([.bool false]) 4), (1, blkL g1 ([.int .i64 stop]) 3), (0, fz w (lt_ w))]) 13 mixedOrders 13 rfl (fun w54 hk54 => ?_)
            have hS54 := hS53.kp0 hk54
            refine JA_q 0 84 rfl rfl rfl rfl (by kernel_rfl) (by kernel_rfl) (hS54.pick [31, 28, 26, 27, 24, 18, 15, 12, 11, 10, 8, 5, 4, 2, 1, 0] ⟨rfl, rfl, rfl, rfl, rfl, rfl, rfl, rfl, rfl, rfl, rfl, rfl, rfl, rfl, rfl, rfl, rfl, rfl, rfl, rfl, rfl, rfl, rfl, rfl, rfl, rfl, rfl, rfl, rfl, rfl, rfl, rfl, trivial⟩) (fun _ hI => Q_ldB1' (k := 24) hI rfl rfl rfl Try.isAgg3 rfl) ?_
            refine JA_q 1 85 rfl rfl rfl rfl (by kernel_rfl) (by kernel_rfl) (hS54.pick [31, 28, 26, 27, 24, 18, 15, 12, 11, 10, 8, 5, 4, 2, 1, 0] ⟨rfl, rfl, rfl, rfl, rfl, rfl, rfl, rfl, rfl, rfl, rfl, rfl, rfl, rfl, rfl, rfl, rfl, rfl, rfl, rfl, rfl, rfl, rfl, rfl, rfl, rfl, rfl, rfl, rfl, rfl, rfl, rfl, trivial⟩) (fun _ hI => Q_ldB1' (k := 12) hI rfl rfl rfl Try.isAgg43 rfl) ?_
            refine JA_p 2 86 13 rfl rfl rfl rfl (by kernel_rfl) (by kernel_rfl) (fun _ => Q_len rfl rfl Try.underlying43) ?_
            refine JA_p 3 87 13 rfl rfl rfl rfl (by kernel_rfl) (by kernel_rfl) (fun _ => Q_geq rfl rfl rfl) ?_
            refine JA_p 4 88 13 rfl rfl rfl rfl (by kernel_rfl) (by kernel_rfl) (fun _ => Q_move rfl rfl) ?_
            refine JA_split 88 rfl (fun h55 => ?_) (fun h55 => ?_)
            · exfalso; omega
            · refine JA_q 5 89 rfl rfl rfl rfl (by kernel_rfl) (by kernel_rfl) (hS54.pick [31, 28, 26, 27, 24, 18, 15, 12, 11, 10, 8, 5, 4, 2, 1, 0] ⟨rfl, rfl, rfl, rfl, rfl, rfl, rfl, rfl, rfl, rfl, rfl, rfl, rfl, rfl, rfl, rfl, rfl, rfl, rfl, rfl, rfl, rfl, rfl, rfl, rfl, rfl, rfl, rfl, rfl, rfl, rfl, rfl, trivial⟩) (fun _ hI => Q_ldBK' (k := 31) ([.int .i64 ((nth (eachL (addAll 50 l) known) i3).at_.c), .int .i64 ((nth (eachL (addAll 50 l) known) i3).at_.r), .int .i64 ((nth (eachL (addAll 50 l) known) i3).seq), .slice A50 ((nth (eachL (addAll 50 l) known) i3).deps.length) cap50, .int .i64 ((nth (eachL (addAll 50 l) known) i3).kind), .int .i64 ((nth (eachL (addAll 50 l) known) i3).node.c), .int .i64 ((nth (eachL (addAll 50 l) known) i3).node.r), .int .i64 ((nth (eachL (addAll 50 l) known) i3).par.c), .int .i64 ((nth (eachL (addAll 50 l) known) i3).par.r), .int .i64 ((nth (eachL (addAll 50 l) known) i3).aft.c), .int .i64 ((nth (eachL (addAll 50 l) known) i3).aft.r), .string ((nth (eachL (addAll 50 l) known) i3).name), .string ((nth (eachL (addAll 50 l) known) i3).val)]) hI rfl rfl rfl Try.isAgg55 Try.sizeOf55 rfl rfl) ?_
              refine JA_q 6 90 rfl rfl rfl rfl (by kernel_rfl) (by kernel_rfl) (hS54.pick [31, 28, 26, 27, 24, 18, 15, 12, 11, 10, 8, 5, 4, 2, 1, 0] ⟨rfl, rfl, rfl, rfl, rfl, rfl, rfl, rfl, rfl, rfl, rfl, rfl, rfl, rfl, rfl, rfl, rfl, rfl, rfl, rfl, rfl, rfl, rfl, rfl, rfl, rfl, rfl, rfl, rfl, rfl, rfl, rfl, trivial⟩) (fun _ hI => Q_ldB1' (k := 12) hI rfl rfl rfl Try.isAgg43 rfl) ?_
              refine JA_q 7 91 rfl rfl rfl rfl (by kernel_rfl) (by kernel_rfl) (hS54.pick [31, 28, 26, 27, 24, 18, 15, 12, 11, 10, 8, 5, 4, 2, 1, 0] ⟨rfl, rfl, rfl, rfl, rfl, rfl, rfl, rfl, rfl, rfl, rfl, rfl, rfl, rfl, rfl, rfl, rfl, rfl, rfl, rfl, rfl, rfl, rfl, rfl, rfl, rfl, rfl, rfl, rfl, rfl, rfl, rfl, trivial⟩) (fun _ hI => Q_ldB1' (k := 24) hI rfl rfl rfl Try.isAgg3 rfl) ?_
              obtain ⟨ad56, es56, hA56, hr56, hc56⟩ := RdF.nth hr22_0 k2 (by omega) (by omega)
              obtain ⟨A56, cap56, rfl, hd56, ho56⟩ := openCh hr56
              have hln56 := RdF.lens hd56
              have hsq56 := ho56.seq
              refine JA_p 8 92 13 rfl rfl rfl rfl (by kernel_rfl) (by kernel_rfl) (fun _ => Q_iaE hA56 rfl rfl rfl Try.underlying43 Try.sizeOf55 (by omega) (by omega)) ?_
              refine JA_q 9 93 rfl rfl rfl rfl (by kernel_rfl) (by kernel_rfl) (hS54.pick [31, 28, 26, 27, 24, 18, 15, 12, 11, 10, 8, 5, 4, 2, 1, 0] ⟨rfl, rfl, rfl, rfl, rfl, rfl, rfl, rfl, rfl, rfl, rfl, rfl, rfl, rfl, rfl, rfl, rfl, rfl, rfl, rfl, rfl, rfl, rfl, rfl, rfl, rfl, rfl, rfl, rfl, rfl, rfl, rfl, trivial⟩) (fun _ hI => Q_ldCK' (chL (nth (lackR (addAll 50 l) known) k2) A56 cap56) (hc56 _ (hI.get (k := 4) rfl)) rfl rfl Try.isAgg55 Try.sizeOf55 rfl rfl) ?_
              have hmk57 := mkCh (own_rd0 (d := tI) hS54 30 rfl rfl hR50 (by omega)) hok50
              refine JA_call 10 94 rfl rfl rfl rfl (by kernel_rfl) (T_call rfl rfl rfl Try.call29) (RSame5_calls _ _ (nth (eachL (addAll 50 l) known) i3) hmk57.here _ (nth (lackR (addAll 50 l) known) k2) (hS54.rd 4 rfl hr56)) ?_
              rintro _ w58 ⟨rfl, hk58⟩
              have hS58 := hS54.kp0 hk58
              refine ⟨_, rfl, (fun _ => ((hS54.kp0 hk58).pick [31, 28, 26, 27, 24, 18, 15, 12, 11, 10, 8, 5, 4, 2, 1, 0] ⟨rfl, rfl, rfl, rfl, rfl, rfl, rfl, rfl, rfl, rfl, rfl, rfl, rfl, rfl, rfl, rfl, rfl, rfl, rfl, rfl, rfl, rfl, rfl, rfl, rfl, rfl, rfl, rfl, rfl, rfl, rfl, rfl, trivial⟩)), ?_⟩
              refine JA_p 11 95 13 rfl rfl rfl rfl (by kernel_rfl) (by kernel_rfl) (fun _ => Q_not rfl rfl) ?_
              refine JA_p 12 96 13 rfl rfl rfl rfl (by kernel_rfl) (by kernel_rfl) (fun _ => Q_pickF rfl rfl rfl) ?_
              refine JA_end (by kernel_rfl) (K_seq ?_)
              refine C_ifN rfl (fun h59 => ?_) (fun h59 => ?_)
              · exact absurd (show nth (eachL (addAll 50 l) known) i3 = nth (lackR (addAll 50 l) known) k2 by rw [hEL, hnik2]) (by assumption)
              · refine C_skip (K_seq ?_)
                refine C_region ?_
                refine J_q 97 rfl rfl rfl rfl (Q_ldB1' (k := 24) hS58 rfl rfl rfl Try.isAgg3 rfl) ?_
                refine J_q 98 rfl rfl rfl rfl (Q_add rfl rfl rfl (by omega) (by omega)) ?_
                refine J_do0 rfl rfl rfl rfl (D_store' (k := 24) hS58 rfl rfl rfl rfl Try.sizeOf3 rfl rfl rfl (fun w60 hS60 => ?_))
                refine J_nil (N_blk (K_rend hS60 26 rfl (fun w61 hS61 => ?_)))
                have hS62 : St w w61 [(30, own 3 1 (.slice A50 (nth (eachL (addAll 50 l) known) i3).deps.length cap50) ((nth (eachL (addAll 50 l) known) i3).deps.length) fl50), (28, blkL g48 (chL (nth (eachL (addAll 50 l) known) i3) A47 cap47) 55), (26, lpE l43 B43 .ready none), (27, dfE d43), (24, blkL g41 ([.int .i64 (k2 + 1)]) 3), (21, own 3 1 (.slice A33 (nth (eachL (addAll 50 l) known) i).deps.length cap33) ((nth (eachL (addAll 50 l) known) i).deps.length) fl33), (18, dfE d27), (15, blkL g25 ([.int .i64 n]) 3), (12, blkL g18 ([.slice A22_0 ((lackR (addAll 50 l) known).length) cap22_0]) 43), (11, blkL g17 ([]) 55), (10, fz w15 (nw w11 w15)), (8, fz w9 (nw w8 w9)), (7, own 3 1 (.slice ow.A known.length ow.c) known.length ow.f), (5, blkL g4 ([.int .i64 50, .slice AF3 ((addAll 50 l).length) cF3]) 47), (3, logE FN16 gL3 50 (if whyR (addAll 50 l) 50 (firstC) = 0 then putC (addAll 50 l) (firstC) else (addAll 50 l))), (4, fz w22 (or_ GF3 (nw w20 w22))), (2, blkL g2 ([.bool false]) 4), (1, blkL g1 ([.int .i64 stop]) 3), (0, fz w (lt_ w))] := hS61.pick [30, 28, 26, 27, 24, 21, 18, 15, 12, 11, 10, 8, 7, 5, 3, 4, 2, 1, 0] ⟨rfl, rfl, rfl, rfl, rfl, rfl, rfl, rfl, rfl, rfl, rfl, rfl, rfl, rfl, rfl, rfl, rfl, rfl, rfl, rfl, rfl, rfl, rfl, rfl, rfl, rfl, rfl, rfl, rfl, rfl, rfl, rfl, rfl, rfl, rfl, rfl, rfl, rfl, trivial⟩
                refine J_q 15 rfl rfl rfl rfl (Q_not rfl rfl) ?_
                refine J_nil (K_seq ?_)
                refine C_false rfl ?_
                refine C_skip (N_blk (K_seq ?_))
                refine C_region ?_
                refine J_q 16 rfl rfl rfl rfl (Q_add rfl rfl rfl (by omega) (by omega)) ?_
                refine J_q 7 rfl rfl rfl rfl (Q_move rfl rfl) ?_
                exact J_nil (K_round2 (x0 := i3) (x1 := k2) (i3 + 1) (k2 + 1) ⟨(by omega), (by omega), (by omega), (hS62.pick [26, 27, 24, 21, 18, 15, 12, 11, 10, 8, 7, 5, 3, 4, 2, 1, 0] ⟨rfl, rfl, rfl, rfl, rfl, rfl, rfl, rfl, rfl, rfl, rfl, rfl, rfl, rfl, rfl, rfl, rfl, rfl, rfl, rfl, rfl, rfl, rfl, rfl, rfl, rfl, rfl, rfl, rfl, rfl, rfl, rfl, rfl, rfl, trivial⟩)⟩ (by omega) ⟨rfl, rfl, rfl, rfl, rfl, trivial⟩)
          · refine C_exit (X_then (X_then (X_hit (body_end (res0 rfl) ?_))))
            refine range_none hS45 26 rfl (fun h => nomatch h) (fun w63 hS63 => ?_) _
            refine id (N_blk (K_seq ?_))
            refine C_seq ?_
            refine C_region ?_
            refine J_q 99 rfl rfl rfl rfl (Q_ldB1' (k := 24) hS63 rfl rfl rfl Try.isAgg3 rfl) ?_
            refine J_q 100 rfl rfl rfl rfl (Q_ldB1' (k := 12) hS63 rfl rfl rfl Try.isAgg43 rfl) ?_
            refine J_q 101 rfl rfl rfl rfl (Q_len rfl rfl Try.underlying43) ?_
            refine J_q 102 rfl rfl rfl rfl (Q_eql rfl rfl rfl) ?_
            refine J_q 103 rfl rfl rfl rfl (Q_move rfl rfl) ?_
            refine J_split 103 rfl (fun h64 => ?_) (fun h64 => ?_)
            · refine J_q 104 rfl rfl rfl rfl (Q_ldB1' (k := 15) hS63 rfl rfl rfl Try.isAgg3 rfl) ?_
              refine J_q 105 rfl rfl rfl rfl (Q_ldB1' (k := 12) hS63 rfl rfl rfl Try.isAgg43 rfl) ?_
              refine J_q 106 rfl rfl rfl rfl (Q_len rfl rfl Try.underlying43) ?_
              refine J_q 107 rfl rfl rfl rfl (Q_eql rfl rfl rfl) ?_
              refine J_q 108 rfl rfl rfl rfl (Q_move rfl rfl) ?_
              refine J_split 108 rfl (fun h65 => ?_) (fun h65 => ?_)
              · refine J_no rfl rfl rfl ?_
                refine J_no rfl rfl rfl ?_
                refine J_no rfl rfl rfl ?_
                refine J_q 112 rfl rfl rfl rfl (Q_pickT rfl rfl rfl) ?_
                refine J_q 113 rfl rfl rfl rfl (Q_pickT rfl rfl rfl) ?_
                refine J_q 114 rfl rfl rfl rfl (Q_move rfl rfl) ?_
                refine J_call 115 rfl rfl rfl rfl (T_call rfl rfl rfl Try.call30) (awake_calls _) ?_
                rintro _ w66 ⟨rfl, hk66⟩
                have hS66 := hS63.kp0 hk66
                refine ⟨_, rfl, ?_⟩
                refine J_q 116 rfl rfl rfl rfl (Q_pickT rfl rfl rfl) ?_
                refine J_do0 rfl rfl rfl rfl (D_store' (k := 2) hS66 rfl rfl rfl rfl Try.sizeOf4 rfl rfl rfl (fun w67 hS67 => ?_))
                refine J_nil (K_seq ?_)
                refine C_ret (bodyM_ret (w0 := w) ?_)
                refine .cons 27 hS67 rfl (fun w68 hS68 => ?_)
                refine .cons 18 hS68 rfl (fun w69 hS69 => ?_)
                refine marks_end (resG (vs := [.bool true]) rfl ⟨rC1 (blk_cells (k := 2) hS69 rfl) rfl Try.isAgg4 rfl, trivial⟩) ?_
                exact ⟨rfl, hS69.kept (k := 0) rfl⟩
              · refine J_q 109 rfl rfl rfl rfl (Q_ldB1' (k := 15) hS63 rfl rfl rfl Try.isAgg3 rfl) ?_
                refine J_q 110 rfl rfl rfl rfl (Q_ldB1' (k := 1) hS63 rfl rfl rfl Try.isAgg3 rfl) ?_
                refine J_q 111 rfl rfl rfl rfl (Q_eql rfl rfl rfl) ?_
                refine J_q 112 rfl rfl rfl rfl (Q_pickF rfl rfl rfl) ?_
                refine J_q 113 rfl rfl rfl rfl (Q_pickT rfl rfl rfl) ?_
                refine J_q 114 rfl rfl rfl rfl (Q_move rfl rfl) ?_
                refine J_setT 114 rfl h37 ?_
                refine J_call 115 rfl rfl rfl rfl (T_call rfl rfl rfl Try.call30) (awake_calls _) ?_
                rintro _ w70 ⟨rfl, hk70⟩
                have hS70 := hS63.kp0 hk70
                refine ⟨_, rfl, ?_⟩
                refine J_q 116 rfl rfl rfl rfl (Q_pickT rfl rfl rfl) ?_
                refine J_do0 rfl rfl rfl rfl (D_store' (k := 2) hS70 rfl rfl rfl rfl Try.sizeOf4 rfl rfl rfl (fun w71 hS71 => ?_))
                refine J_nil (K_seq ?_)
                refine C_ret (bodyM_ret (w0 := w) ?_)
                refine .cons 27 hS71 rfl (fun w72 hS72 => ?_)
                refine .cons 18 hS72 rfl (fun w73 hS73 => ?_)
                refine marks_end (resG (vs := [.bool true]) rfl ⟨rC1 (blk_cells (k := 2) hS73 rfl) rfl Try.isAgg4 rfl, trivial⟩) ?_
                exact ⟨rfl, hS73.kept (k := 0) rfl⟩
            · exfalso; omega
        · refine C_skip (K_seq ?_)
          refine C_seq ?_
          refine C_seq ?_
          refine C_draw (fun w' => St w w' [(22, blkL g34 ([.int .i64 ((nth (eachL (addAll 50 l) known) i).at_.c), .int .i64 ((nth (eachL (addAll 50 l) known) i).at_.r), .int .i64 ((nth (eachL (addAll 50 l) known) i).seq), .slice A33 ((nth (eachL (addAll 50 l) known) i).deps.length) cap33, .int .i64 ((nth (eachL (addAll 50 l) known) i).kind), .int .i64 ((nth (eachL (addAll 50 l) known) i).node.c), .int .i64 ((nth (eachL (addAll 50 l) known) i).node.r), .int .i64 ((nth (eachL (addAll 50 l) known) i).par.c), .int .i64 ((nth (eachL (addAll 50 l) known) i).par.r), .int .i64 ((nth (eachL (addAll 50 l) known) i).aft.c), .int .i64 ((nth (eachL (addAll 50 l) known) i).aft.r), .string ((nth (eachL (addAll 50 l) known) i).name), .string ((nth (eachL (addAll 50 l) known) i).val)]) 55), (19, blkL g31 (chL (nth (eachL (addAll 50 l) known) i) A30 cap30) 55), (17, lpE l27 B27 .busy none), (18, dfE d27), (15, blkL g25 ([.int .i64 n]) 3), (12, blkL g18 ([.slice A22_0 ((lackR (addAll 50 l) known).length) cap22_0]) 43), (11, blkL g17 ([]) 55), (10, fz w15 (nw w11 w15)), (8, fz w9 (nw w8 w9)), (5, blkL g4 ([.int .i64 50, .slice AF3 ((addAll 50 l).length) cF3]) 47), (4, fz w22 (or_ GF3 (nw w20 w22))), (2, blkL g2 ([.bool false]) 4), (1, blkL g1 ([.int .i64 stop]) 3), (0, fz w (lt_ w))]) 13 mixedOrders 13 rfl (fun w74 hk74 => ?_)
          have hS74 := hS36.kp0 hk74
          refine JA_q 0 56 rfl rfl rfl rfl (by kernel_rfl) (by kernel_rfl) (hS74.pick [22, 19, 17, 18, 15, 12, 11, 10, 8, 5, 4, 2, 1, 0] ⟨rfl, rfl, rfl, rfl, rfl, rfl, rfl, rfl, rfl, rfl, rfl, rfl, rfl, rfl, rfl, rfl, rfl, rfl, rfl, rfl, rfl, rfl, rfl, rfl, rfl, rfl, rfl, rfl, trivial⟩) (fun _ hI => Q_ldB1' (k := 15) hI rfl rfl rfl Try.isAgg3 rfl) ?_
          refine JA_q 1 57 rfl rfl rfl rfl (by kernel_rfl) (by kernel_rfl) (hS74.pick [22, 19, 17, 18, 15, 12, 11, 10, 8, 5, 4, 2, 1, 0] ⟨rfl, rfl, rfl, rfl, rfl, rfl, rfl, rfl, rfl, rfl, rfl, rfl, rfl, rfl, rfl, rfl, rfl, rfl, rfl, rfl, rfl, rfl, rfl, rfl, rfl, rfl, rfl, rfl, trivial⟩) (fun _ hI => Q_ldB1' (k := 12) hI rfl rfl rfl Try.isAgg43 rfl) ?_
          refine JA_p 2 58 13 rfl rfl rfl rfl (by kernel_rfl) (by kernel_rfl) (fun _ => Q_len rfl rfl Try.underlying43) ?_
          refine JA_p 3 59 13 rfl rfl rfl rfl (by kernel_rfl) (by kernel_rfl) (fun _ => Q_geq rfl rfl rfl) ?_
          refine JA_p 4 60 13 rfl rfl rfl rfl (by kernel_rfl) (by kernel_rfl) (fun _ => Q_move rfl rfl) ?_
          refine JA_split 60 rfl (fun h75 => ?_) (fun h75 => ?_)
          · exfalso; omega
          · refine JA_q 5 61 rfl rfl rfl rfl (by kernel_rfl) (by kernel_rfl) (hS74.pick [22, 19, 17, 18, 15, 12, 11, 10, 8, 5, 4, 2, 1, 0] ⟨rfl, rfl, rfl, rfl, rfl, rfl, rfl, rfl, rfl, rfl, rfl, rfl, rfl, rfl, rfl, rfl, rfl, rfl, rfl, rfl, rfl, rfl, rfl, rfl, rfl, rfl, rfl, rfl, trivial⟩) (fun _ hI => Q_ldBK' (k := 22) ([.int .i64 ((nth (eachL (addAll 50 l) known) i).at_.c), .int .i64 ((nth (eachL (addAll 50 l) known) i).at_.r), .int .i64 ((nth (eachL (addAll 50 l) known) i).seq), .slice A33 ((nth (eachL (addAll 50 l) known) i).deps.length) cap33, .int .i64 ((nth (eachL (addAll 50 l) known) i).kind), .int .i64 ((nth (eachL (addAll 50 l) known) i).node.c), .int .i64 ((nth (eachL (addAll 50 l) known) i).node.r), .int .i64 ((nth (eachL (addAll 50 l) known) i).par.c), .int .i64 ((nth (eachL (addAll 50 l) known) i).par.r), .int .i64 ((nth (eachL (addAll 50 l) known) i).aft.c), .int .i64 ((nth (eachL (addAll 50 l) known) i).aft.r), .string ((nth (eachL (addAll 50 l) known) i).name), .string ((nth (eachL (addAll 50 l) known) i).val)]) hI rfl rfl rfl Try.isAgg55 Try.sizeOf55 rfl rfl) ?_
            refine JA_q 6 62 rfl rfl rfl rfl (by kernel_rfl) (by kernel_rfl) (hS74.pick [22, 19, 17, 18, 15, 12, 11, 10, 8, 5, 4, 2, 1, 0] ⟨rfl, rfl, rfl, rfl, rfl, rfl, rfl, rfl, rfl, rfl, rfl, rfl, rfl, rfl, rfl, rfl, rfl, rfl, rfl, rfl, rfl, rfl, rfl, rfl, rfl, rfl, rfl, rfl, trivial⟩) (fun _ hI => Q_ldB1' (k := 12) hI rfl rfl rfl Try.isAgg43 rfl) ?_
            refine JA_q 7 63 rfl rfl rfl rfl (by kernel_rfl) (by kernel_rfl) (hS74.pick [22, 19, 17, 18, 15, 12, 11, 10, 8, 5, 4, 2, 1, 0] ⟨rfl, rfl, rfl, rfl, rfl, rfl, rfl, rfl, rfl, rfl, rfl, rfl, rfl, rfl, rfl, rfl, rfl, rfl, rfl, rfl, rfl, rfl, rfl, rfl, rfl, rfl, rfl, rfl, trivial⟩) (fun _ hI => Q_ldB1' (k := 15) hI rfl rfl rfl Try.isAgg3 rfl) ?_
            obtain ⟨ad76, es76, hA76, hr76, hc76⟩ := RdF.nth hr22_0 n (by omega) (by omega)
            obtain ⟨A76, cap76, rfl, hd76, ho76⟩ := openCh hr76
            have hln76 := RdF.lens hd76
            have hsq76 := ho76.seq
            refine JA_p 8 64 13 rfl rfl rfl rfl (by kernel_rfl) (by kernel_rfl) (fun _ => Q_iaE hA76 rfl rfl rfl Try.underlying43 Try.sizeOf55 (by omega) (by omega)) ?_
            refine JA_q 9 65 rfl rfl rfl rfl (by kernel_rfl) (by kernel_rfl) (hS74.pick [22, 19, 17, 18, 15, 12, 11, 10, 8, 5, 4, 2, 1, 0] ⟨rfl, rfl, rfl, rfl, rfl, rfl, rfl, rfl, rfl, rfl, rfl, rfl, rfl, rfl, rfl, rfl, rfl, rfl, rfl, rfl, rfl, rfl, rfl, rfl, rfl, rfl, rfl, rfl, trivial⟩) (fun _ hI => Q_ldCK' (chL (nth (lackR (addAll 50 l) known) n) A76 cap76) (hc76 _ (hI.get (k := 4) rfl)) rfl rfl Try.isAgg55 Try.sizeOf55 rfl rfl) ?_
            have hmk77 := mkCh (own_rd0 (d := tI) hS74 21 rfl rfl hR33 (by omega)) hok33
            refine JA_call 10 66 rfl rfl rfl rfl (by kernel_rfl) (T_call rfl rfl rfl Try.call29) (RSame5_calls _ _ (nth (eachL (addAll 50 l) known) i) hmk77.here _ (nth (lackR (addAll 50 l) known) n) (hS74.rd 4 rfl hr76)) ?_
            rintro _ w78 ⟨rfl, hk78⟩
            have hS78 := hS74.kp0 hk78
            refine ⟨_, rfl, (fun _ => ((hS74.kp0 hk78).pick [22, 19, 17, 18, 15, 12, 11, 10, 8, 5, 4, 2, 1, 0] ⟨rfl, rfl, rfl, rfl, rfl, rfl, rfl, rfl, rfl, rfl, rfl, rfl, rfl, rfl, rfl, rfl, rfl, rfl, rfl, rfl, rfl, rfl, rfl, rfl, rfl, rfl, rfl, rfl, trivial⟩)), ?_⟩
            refine JA_p 11 67 13 rfl rfl rfl rfl (by kernel_rfl) (by kernel_rfl) (fun _ => Q_not rfl rfl) ?_
            refine JA_p 12 68 13 rfl rfl rfl rfl (by kernel_rfl) (by kernel_rfl) (fun _ => Q_pickF rfl rfl rfl) ?_
            refine JA_end (by kernel_rfl) (K_seq ?_)
            refine C_ifN rfl (fun h79 => ?_) (fun h79 => ?_)
            · exact absurd (show nth (eachL (addAll 50 l) known) i = nth (lackR (addAll 50 l) known) n by rw [hEL, hnin]) (by assumption)
            · refine C_skip (K_seq ?_)
              refine C_seq ?_
              refine C_region ?_
              refine J_q 69 rfl rfl rfl rfl (Q_ldB1' (k := 15) hS78 rfl rfl rfl Try.isAgg3 rfl) ?_
              refine J_q 70 rfl rfl rfl rfl (Q_add rfl rfl rfl (by omega) (by omega)) ?_
              refine J_do0 rfl rfl rfl rfl (D_store' (k := 15) hS78 rfl rfl rfl rfl Try.sizeOf3 rfl rfl rfl (fun w80 hS80 => ?_))
              refine J_nil (K_seq ?_)
              refine C_seq ?_
              refine C_region ?_
              refine J_q 15 rfl rfl rfl rfl (Q_assign rfl rfl) ?_
              refine J_nil (K_seq ?_)
              refine C_block ?_
              refine C_loop2 (fun (k : Int) (ow2 : Row Int) => ((nth (eachL (addAll 50 l) known) i).deps.length - k).toNat) (fun (k : Int) (ow2 : Row Int) => [(5, .pointer (some (⟨g1, 0, none⟩ : Addr))), (6, .pointer (some (⟨g2, 0, none⟩ : Addr))), (12, .pointer (some (⟨g18, 0, none⟩ : Addr))), (13, .pointer (some (⟨g25, 0, none⟩ : Addr))), (52, .agg ([.int .i64 ((nth (eachL (addAll 50 l) known) i).at_.c), .int .i64 ((nth (eachL (addAll 50 l) known) i).at_.r), .int .i64 ((nth (eachL (addAll 50 l) known) i).seq), .slice A33 ((nth (eachL (addAll 50 l) known) i).deps.length) cap33, .int .i64 ((nth (eachL (addAll 50 l) known) i).kind), .int .i64 ((nth (eachL (addAll 50 l) known) i).node.c), .int .i64 ((nth (eachL (addAll 50 l) known) i).node.r), .int .i64 ((nth (eachL (addAll 50 l) known) i).par.c), .int .i64 ((nth (eachL (addAll 50 l) known) i).par.r), .int .i64 ((nth (eachL (addAll 50 l) known) i).aft.c), .int .i64 ((nth (eachL (addAll 50 l) known) i).aft.r), .string ((nth (eachL (addAll 50 l) known) i).name), .string ((nth (eachL (addAll 50 l) known) i).val)]).toArray), (14, .pointer (some (⟨g34, 0, none⟩ : Addr))), (53, .int .i64 n), (54, .int .i64 stop), (55, .bool (decide (n = stop))), (56, .int .i64 n), (57, .slice A22_0 ((lackR (addAll 50 l) known).length) cap22_0), (58, .int .i64 ((lackR (addAll 50 l) known).length : Int)), (59, .bool (decide (((lackR (addAll 50 l) known).length : Int) ≤ n))), (60, .bool false), (61, .agg ([.int .i64 ((nth (eachL (addAll 50 l) known) i).at_.c), .int .i64 ((nth (eachL (addAll 50 l) known) i).at_.r), .int .i64 ((nth (eachL (addAll 50 l) known) i).seq), .slice A33 ((nth (eachL (addAll 50 l) known) i).deps.length) cap33, .int .i64 ((nth (eachL (addAll 50 l) known) i).kind), .int .i64 ((nth (eachL (addAll 50 l) known) i).node.c), .int .i64 ((nth (eachL (addAll 50 l) known) i).node.r), .int .i64 ((nth (eachL (addAll 50 l) known) i).par.c), .int .i64 ((nth (eachL (addAll 50 l) known) i).par.r), .int .i64 ((nth (eachL (addAll 50 l) known) i).aft.c), .int .i64 ((nth (eachL (addAll 50 l) known) i).aft.r), .string ((nth (eachL (addAll 50 l) known) i).name), .string ((nth (eachL (addAll 50 l) known) i).val)]).toArray), (62, .slice A22_0 ((lackR (addAll 50 l) known).length) cap22_0), (63, .int .i64 n), (64, .pointer (some (ad76.add (n.toNat * 13)))), (65, .agg (chL (nth (lackR (addAll 50 l) known) n) A76 cap76).toArray), (66, .bool (decide (((nth (eachL (addAll 50 l) known) i) = (nth (lackR (addAll 50 l) known) n))))), (67, .bool (!decide (((nth (eachL (addAll 50 l) known) i) = (nth (lackR (addAll 50 l) known) n))))), (68, .bool (!decide (((nth (eachL (addAll 50 l) known) i) = (nth (lackR (addAll 50 l) known) n))))), (69, .int .i64 n), (70, .int .i64 (n + 1)), (15, .int .i64 k)]) (fun (k : Int) (ow2 : Row Int) w' => (0 ≤ k) ∧ (k ≤ (nth (eachL (addAll 50 l) known) i).deps.length) ∧ (ow2.l.length = (nth (eachL (addAll 50 l) known) i).deps.length) ∧ (Reps tI w no ow2.l ow2.f) ∧ St w w' [(22, blkL g34 ([.int .i64 ((nth (eachL (addAll 50 l) known) i).at_.c), .int .i64 ((nth (eachL (addAll 50 l) known) i).at_.r), .int .i64 ((nth (eachL (addAll 50 l) known) i).seq), .slice ow2.A ((nth (eachL (addAll 50 l) known) i).deps.length) ow2.c, .int .i64 ((nth (eachL (addAll 50 l) known) i).kind), .int .i64 ((nth (eachL (addAll 50 l) known) i).node.c), .int .i64 ((nth (eachL (addAll 50 l) known) i).node.r), .int .i64 ((nth (eachL (addAll 50 l) known) i).par.c), .int .i64 ((nth (eachL (addAll 50 l) known) i).par.r), .int .i64 ((nth (eachL (addAll 50 l) known) i).aft.c), .int .i64 ((nth (eachL (addAll 50 l) known) i).aft.r), .string ((nth (eachL (addAll 50 l) known) i).name), .string ((nth (eachL (addAll 50 l) known) i).val)]) 55), (21, own 3 1 (.slice ow2.A ((nth (eachL (addAll 50 l) known) i).deps.length) ow2.c) ((nth (eachL (addAll 50 l) known) i).deps.length) ow2.f), (19, blkL g31 (chL (nth (eachL (addAll 50 l) known) i) A30 cap30) 55), (17, lpE l27 B27 .busy none), (18, dfE d27), (15, blkL g25 ([.int .i64 (n + 1)]) 3), (12, blkL g18 ([.slice A22_0 ((lackR (addAll 50 l) known).length) cap22_0]) 43), (11, blkL g17 ([]) 55), (10, fz w15 (nw w11 w15)), (8, fz w9 (nw w8 w9)), (7, own 3 1 (.slice ow.A known.length ow.c) known.length ow.f), (5, blkL g4 ([.int .i64 50, .slice AF3 ((addAll 50 l).length) cF3]) 47), (3, logE FN16 gL3 50 (if whyR (addAll 50 l) 50 (firstC) = 0 then putC (addAll 50 l) (firstC) else (addAll 50 l))), (4, fz w22 (or_ GF3 (nw w20 w22))), (2, blkL g2 ([.bool false]) 4), (1, blkL g1 ([.int .i64 stop]) 3), (0, fz w (lt_ w))]) 0 (⟨A33, cap33, fl33, (nth (eachL (addAll 50 l) known) i).deps⟩) ⟨(by first | omega | rfl), (by first | omega | rfl), (by first | omega | rfl), hR33, hS80⟩ ⟨rfl, rfl, rfl, rfl, rfl, rfl, rfl, rfl, rfl, rfl, rfl, rfl, rfl, rfl, rfl, rfl, rfl, rfl, rfl, rfl, rfl, rfl, rfl, rfl, rfl, trivial⟩ ?_
              rintro k ow2 w81 ⟨h2, h3, hlw2, hR_ow2, hS81⟩
              refine C_seq ?_
              refine C_seq ?_
              refine C_region ?_
              refine J_q 71 rfl rfl rfl rfl (Q_move rfl rfl) ?_
              refine J_q 72 rfl rfl rfl rfl (Q_fa0 rfl rfl fo55_2) ?_
              refine J_q 73 rfl rfl rfl rfl (Q_ldB1 (k := 22) hS81 rfl rfl rfl Try.isAgg44 rfl) ?_
              refine J_q 74 rfl rfl rfl rfl (Q_len rfl rfl Try.underlying44) ?_
              refine J_q 75 rfl rfl rfl rfl (Q_lss rfl rfl rfl) ?_
              refine J_nil (K_seq ?_)
              refine C_if rfl (fun h82 => ?_) (fun h82 => ?_)
              · refine C_skip (K_seq ?_)
                refine C_seq ?_
                refine C_block ?_
                refine C_region ?_
                refine J_q 78 rfl rfl rfl rfl (Q_fa0 rfl rfl fo55_2) ?_
                refine J_q 79 rfl rfl rfl rfl (Q_ldB1 (k := 22) hS81 rfl rfl rfl Try.isAgg44 rfl) ?_
                refine J_q 80 rfl rfl rfl rfl (Q_move rfl rfl) ?_
                obtain ⟨ga83, hA83⟩ := own_addr (hS81.get (k := 21) rfl) (by omega)
                refine J_q 81 rfl rfl rfl rfl (Q_iaE hA83 rfl rfl rfl Try.underlying44 Try.sizeOf3 (by omega) (by omega)) ?_
                refine J_do0 rfl rfl rfl rfl (D_setI (k := 21) ow2.l k (-7) hlw2 hS81 rfl hR_ow2 hA83 (by omega) (by omega) rfl rfl rfl Try.sizeOf3 (fun w84 hS84 => ?_))
                refine J_nil (N_blk (K_seq ?_))
                refine C_region ?_
                refine J_q 76 rfl rfl rfl rfl (Q_move rfl rfl) ?_
                refine J_q 77 rfl rfl rfl rfl (Q_add rfl rfl rfl (by omega) (by omega)) ?_
                refine J_q 15 rfl rfl rfl rfl (Q_assign rfl rfl) ?_
                exact J_nil (K_round2 (x0 := k) (x1 := ow2) (k + 1) ⟨ow2.A, ow2.c, (ow2.f.set (k).toNat (.int .i64 (-7))), (ow2.l.set (k).toNat (-7))⟩ ⟨(by first | omega | (simp only [List.length_set]; omega)), (by first | omega | (simp only [List.length_set]; omega)), (by first | omega | (simp only [List.length_set]; omega)), (Reps.setI hR_ow2 (by omega) (by omega)), hS84⟩ (by omega) ⟨rfl, rfl, rfl, rfl, rfl, rfl, rfl, rfl, rfl, rfl, rfl, rfl, rfl, rfl, rfl, rfl, rfl, rfl, rfl, rfl, rfl, rfl, rfl, rfl, rfl, trivial⟩)
              · refine C_exit (X_then (X_then (X_hit (N_blk (K_rend hS81 17 rfl (fun w85 hS85 => ?_))))))
                have hS86 : St w w85 [(21, own 3 1 (.slice ow2.A ((nth (eachL (addAll 50 l) known) i).deps.length) ow2.c) ((nth (eachL (addAll 50 l) known) i).deps.length) ow2.f), (19, blkL g31 (chL (nth (eachL (addAll 50 l) known) i) A30 cap30) 55), (17, lpE l27 B27 .ready none), (18, dfE d27), (15, blkL g25 ([.int .i64 (n + 1)]) 3), (12, blkL g18 ([.slice A22_0 ((lackR (addAll 50 l) known).length) cap22_0]) 43), (11, blkL g17 ([]) 55), (10, fz w15 (nw w11 w15)), (8, fz w9 (nw w8 w9)), (7, own 3 1 (.slice ow.A known.length ow.c) known.length ow.f), (5, blkL g4 ([.int .i64 50, .slice AF3 ((addAll 50 l).length) cF3]) 47), (3, logE FN16 gL3 50 (if whyR (addAll 50 l) 50 (firstC) = 0 then putC (addAll 50 l) (firstC) else (addAll 50 l))), (4, fz w22 (or_ GF3 (nw w20 w22))), (2, blkL g2 ([.bool false]) 4), (1, blkL g1 ([.int .i64 stop]) 3), (0, fz w (lt_ w))] := hS85.pick [21, 19, 17, 18, 15, 12, 11, 10, 8, 7, 5, 3, 4, 2, 1, 0] ⟨rfl, rfl, rfl, rfl, rfl, rfl, rfl, rfl, rfl, rfl, rfl, rfl, rfl, rfl, rfl, rfl, rfl, rfl, rfl, rfl, rfl, rfl, rfl, rfl, rfl, rfl, rfl, rfl, rfl, rfl, rfl, rfl, trivial⟩
                refine J_q 15 rfl rfl rfl rfl (Q_not rfl rfl) ?_
                refine J_nil (K_seq ?_)
                refine C_false rfl ?_
                refine C_skip (N_blk (K_seq ?_))
                refine C_region ?_
                refine J_q 16 rfl rfl rfl rfl (Q_add rfl rfl rfl (by omega) (by omega)) ?_
                refine J_q 7 rfl rfl rfl rfl (Q_move rfl rfl) ?_
                exact J_nil (K_round2 (x0 := i) (x1 := n) (i + 1) (n + 1) ⟨(by omega), (by omega), (by omega), (hS86.pick [17, 18, 15, 12, 11, 10, 8, 7, 5, 3, 4, 2, 1, 0] ⟨rfl, rfl, rfl, rfl, rfl, rfl, rfl, rfl, rfl, rfl, rfl, rfl, rfl, rfl, rfl, rfl, rfl, rfl, rfl, rfl, rfl, rfl, rfl, rfl, rfl, rfl, rfl, rfl, trivial⟩)⟩ (by omega) ⟨rfl, rfl, rfl, rfl, rfl, trivial⟩)
      · refine C_exit (X_then (X_then (X_hit (body_end (res0 rfl) ?_))))
        refine range_none hS28 17 rfl (fun h => nomatch h) (fun w87 hS87 => ?_) _
        refine id (N_blk (K_seq ?_))
        refine C_seq ?_
        refine C_region ?_
        refine J_do 16 rfl rfl rfl rfl (D_alloc 38 hS87 rfl Try.zeroValue3 (fun g88 w88 hS88 => ?_))
        refine J_do0 rfl rfl rfl rfl (D_store' (k := 38) hS88 rfl rfl rfl rfl Try.sizeOf3 rfl rfl rfl (fun w89 hS89 => ?_))
        refine J_nil (K_seq ?_)
        refine C_seq ?_
        refine C_seq ?_
        refine C_region ?_
        refine J_q 82 rfl rfl rfl rfl (Q_move rfl rfl) ?_
        refine J_nil (K_seq ?_)
        refine C_block ?_
        have hS91 : St w w89 [(38, blkL g88 ([.int .i64 0]) 3), (18, dfE d27), (15, blkL g25 ([.int .i64 n]) 3), (12, blkL g18 ([.slice A22_0 ((lackR (addAll 50 l) known).length) cap22_0]) 43), (11, blkL g17 ([]) 55), (10, fz w15 (nw w11 w15)), (8, fz w9 (nw w8 w9)), (7, own 3 1 (.slice ow.A known.length ow.c) known.length ow.f), (5, blkL g4 ([.int .i64 50, .slice AF3 ((addAll 50 l).length) cF3]) 47), (3, logE FN16 gL3 50 (if whyR (addAll 50 l) 50 (firstC) = 0 then putC (addAll 50 l) (firstC) else (addAll 50 l))), (4, fz w22 (or_ GF3 (nw w20 w22))), (2, blkL g2 ([.bool false]) 4), (1, blkL g1 ([.int .i64 stop]) 3), (0, fz w (lt_ w))] := hS89.pick [38, 18, 15, 12, 11, 10, 8, 7, 5, 3, 4, 2, 1, 0] ⟨rfl, rfl, rfl, rfl, rfl, rfl, rfl, rfl, rfl, rfl, rfl, rfl, rfl, rfl, rfl, rfl, rfl, rfl, rfl, rfl, rfl, rfl, rfl, rfl, rfl, rfl, rfl, rfl, trivial⟩
        refine C_range 40 41 hS91 rfl Try.call68 (fun l90 d90 B90 w90 hB90 hS90 => ?_)
        refine fn_calls' 17 (args := [_, _]) Try.func68 rfl rfl rfl ?_
        refine C_seq ?_
        refine C_region ?_
        refine J_q 5 rfl rfl rfl rfl (Q_ldC1' (hBE9 _ (hS90.get (k := 8) rfl)) rfl rfl Try.isAgg43 rfl) ?_
        refine J_q 6 rfl rfl rfl rfl (Q_len rfl rfl Try.underlying43) ?_
        refine J_q 7 rfl rfl rfl rfl (Q_move rfl rfl) ?_
        refine J_nil (K_seq ?_)
        refine C_block ?_
        refine C_loop2 (fun (i3 : Int) (k2 : Int) => ((eachL (addAll 50 l) known).length - i3).toNat) (fun (i3 : Int) (k2 : Int) => [(0, .func (.yield l90) #[] #[]), (1, .pointer (some (⟨gE9, 0, none⟩ : Addr))), (5, .slice AE9 ((eachL (addAll 50 l) known).length) cE9), (6, .int .i64 ((eachL (addAll 50 l) known).length : Int)), (7, .int .i64 i3)]) (fun (i3 : Int) (k2 : Int) w' => (0 ≤ i3) ∧ (i3 ≤ (eachL (addAll 50 l) known).length) ∧ (k2 = i3) ∧ St w w' [(40, lpE l90 B90 .ready none), (41, dfE d90), (38, blkL g88 ([.int .i64 k2]) 3), (18, dfE d27), (15, blkL g25 ([.int .i64 n]) 3), (12, blkL g18 ([.slice A22_0 ((lackR (addAll 50 l) known).length) cap22_0]) 43), (11, blkL g17 ([]) 55), (10, fz w15 (nw w11 w15)), (8, fz w9 (nw w8 w9)), (7, own 3 1 (.slice ow.A known.length ow.c) known.length ow.f), (5, blkL g4 ([.int .i64 50, .slice AF3 ((addAll 50 l).length) cF3]) 47), (3, logE FN16 gL3 50 (if whyR (addAll 50 l) 50 (firstC) = 0 then putC (addAll 50 l) (firstC) else (addAll 50 l))), (4, fz w22 (or_ GF3 (nw w20 w22))), (2, blkL g2 ([.bool false]) 4), (1, blkL g1 ([.int .i64 stop]) 3), (0, fz w (lt_ w))]) 0 0 ⟨(by first | omega | rfl), (by first | omega | rfl), (by first | omega | rfl), hS90⟩ ⟨rfl, rfl, rfl, rfl, rfl, trivial⟩ ?_
        rintro i3 k2 w92 ⟨h0i3, h1i3, hnik2, hS92⟩
        have hEL : eachL (addAll 50 l) known = lackR (addAll 50 l) known := eachL_yes (by assumption)
        have hELl := congrArg List.length hEL; (try simp only [List.length_nil] at hELl)
        refine C_seq ?_
        refine C_region ?_
        refine J_q 8 rfl rfl rfl rfl (Q_lss rfl rfl rfl) ?_
        refine J_nil (K_seq ?_)
        refine C_seq ?_
        refine C_if rfl (fun h93 => ?_) (fun h93 => ?_)
        · refine C_skip (K_seq ?_)
          refine C_seq ?_
          refine C_block ?_
          refine C_seq ?_
          refine C_region ?_
          obtain ⟨ad94, es94, hA94, hr94, hc94⟩ := RdF.nth hRE9 i3 (by omega) (by omega)
          obtain ⟨A94, cap94, rfl, hd94, ho94⟩ := openCh hr94
          have hln94 := RdF.lens hd94
          have hsq94 := ho94.seq
          refine J_q 9 rfl rfl rfl rfl (Q_iaE hA94 rfl rfl rfl Try.underlying43 Try.sizeOf55 (by omega) (by omega)) ?_
          refine J_q 10 rfl rfl rfl rfl (Q_ldCK' (chL (nth (eachL (addAll 50 l) known) i3) A94 cap94) (hc94 _ (hS92.get (k := 8) rfl)) rfl rfl Try.isAgg55 Try.sizeOf55 rfl rfl) ?_
          refine J_do 4 rfl rfl rfl rfl (D_alloc 42 hS92 rfl Try.zeroValue55 (fun g95 w95 hS95 => ?_))
          refine J_do0 rfl rfl rfl rfl (D_store' (k := 42) hS95 rfl rfl rfl rfl Try.sizeOf55 rfl rfl rfl (fun w96 hS96 => ?_))
          refine J_nil (K_seq ?_)
          refine C_seq ?_
          refine C_region ?_
          refine J_q 11 rfl rfl rfl rfl (Q_move rfl rfl) ?_
          refine J_q 12 rfl rfl rfl rfl (Q_ldBK' (k := 42) (chL (nth (eachL (addAll 50 l) known) i3) A94 cap94) hS96 rfl rfl rfl Try.isAgg55 Try.sizeOf55 rfl rfl) ?_
          refine J_call 13 rfl rfl rfl rfl (T_call rfl rfl rfl Try.call67) (CCopyO_calls _ _ (nth (eachL (addAll 50 l) known) i3) (hS96.rd 8 rfl hr94)) ?_
          rintro _ w97 ⟨A97, cap97, fl97, rfl, hk97, hw97, hR97, hf97, hok97⟩
          have hS97 := hS96.new hk97 44 (own 3 1 (.slice A97 (nth (eachL (addAll 50 l) known) i3).deps.length cap97) (nth (eachL (addAll 50 l) known) i3).deps.length fl97) hw97 hf97
          have hR97 := Reps.int (W' := w) hR97
          refine ⟨_, rfl, ?_⟩
          refine J_round 14 (k := 40) rfl rfl rfl rfl rfl rfl rfl hB90 hS97 rfl rfl rfl ?_
          refine C_sub (E' := [(6, .pointer (some (⟨g2, 0, none⟩ : Addr))), (12, .pointer (some (⟨g18, 0, none⟩ : Addr))), (16, .pointer (some (⟨g88, 0, none⟩ : Addr))), (83, .agg ([.int .i64 ((nth (eachL (addAll 50 l) known) i3).at_.c), .int .i64 ((nth (eachL (addAll 50 l) known) i3).at_.r), .int .i64 ((nth (eachL (addAll 50 l) known) i3).seq), .slice A97 ((nth (eachL (addAll 50 l) known) i3).deps.length) cap97, .int .i64 ((nth (eachL (addAll 50 l) known) i3).kind), .int .i64 ((nth (eachL (addAll 50 l) known) i3).node.c), .int .i64 ((nth (eachL (addAll 50 l) known) i3).node.r), .int .i64 ((nth (eachL (addAll 50 l) known) i3).par.c), .int .i64 ((nth (eachL (addAll 50 l) known) i3).par.r), .int .i64 ((nth (eachL (addAll 50 l) known) i3).aft.c), .int .i64 ((nth (eachL (addAll 50 l) known) i3).aft.r), .string ((nth (eachL (addAll 50 l) known) i3).name), .string ((nth (eachL (addAll 50 l) known) i3).val)]).toArray)]) ⟨rfl, rfl, rfl, rfl, trivial⟩ ?_
          refine C_region ?_
          refine J_do 17 rfl rfl rfl rfl (D_alloc 45 hS97 rfl Try.zeroValue55 (fun g98 w98 hS98 => ?_))
          refine J_do0 rfl rfl rfl rfl (D_store' (k := 45) hS98 rfl rfl rfl rfl Try.sizeOf55 rfl rfl rfl (fun w99 hS99 => ?_))
          refine J_nil (K_begin hS99 40 rfl (fun w100 hS100 => ?_))
          refine C_block ?_
          refine C_seq ?_
          refine C_seq ?_
          refine C_draw (fun w' => St w w' [(45, blkL g98 ([.int .i64 ((nth (eachL (addAll 50 l) known) i3).at_.c), .int .i64 ((nth (eachL (addAll 50 l) known) i3).at_.r), .int .i64 ((nth (eachL (addAll 50 l) known) i3).seq), .slice A97 ((nth (eachL (addAll 50 l) known) i3).deps.length) cap97, .int .i64 ((nth (eachL (addAll 50 l) known) i3).kind), .int .i64 ((nth (eachL (addAll 50 l) known) i3).node.c), .int .i64 ((nth (eachL (addAll 50 l) known) i3).node.r), .int .i64 ((nth (eachL (addAll 50 l) known) i3).par.c), .int .i64 ((nth (eachL (addAll 50 l) known) i3).par.r), .int .i64 ((nth (eachL (addAll 50 l) known) i3).aft.c), .int .i64 ((nth (eachL (addAll 50 l) known) i3).aft.r), .string ((nth (eachL (addAll 50 l) known) i3).name), .string ((nth (eachL (addAll 50 l) known) i3).val)]) 55), (42, blkL g95 (chL (nth (eachL (addAll 50 l) known) i3) A94 cap94) 55), (40, lpE l90 B90 .busy none), (41, dfE d90), (38, blkL g88 ([.int .i64 k2]) 3), (18, dfE d27), (15, blkL g25 ([.int .i64 n]) 3), (12, blkL g18 ([.slice A22_0 ((lackR (addAll 50 l) known).length) cap22_0]) 43), (11, blkL g17 ([]) 55), (10, fz w15 (nw w11 w15)), (8, fz w9 (nw w8 w9)), (5, blkL g4 ([.int .i64 50, .slice AF3 ((addAll 50 l).length) cF3]) 47), (4, fz w22 (or_ GF3 (nw w20 w22))), (2, blkL g2 ([.bool false]) 4), (1, blkL g1 ([.int .i64 stop]) 3), (0, fz w (lt_ w))]) 13 mixedOrders 13 rfl (fun w101 hk101 => ?_)
          have hS101 := hS100.kp0 hk101
          refine JA_q 0 84 rfl rfl rfl rfl (by kernel_rfl) (by kernel_rfl) (hS101.pick [45, 42, 40, 41, 38, 18, 15, 12, 11, 10, 8, 5, 4, 2, 1, 0] ⟨rfl, rfl, rfl, rfl, rfl, rfl, rfl, rfl, rfl, rfl, rfl, rfl, rfl, rfl, rfl, rfl, rfl, rfl, rfl, rfl, rfl, rfl, rfl, rfl, rfl, rfl, rfl, rfl, rfl, rfl, rfl, rfl, trivial⟩) (fun _ hI => Q_ldB1' (k := 38) hI rfl rfl rfl Try.isAgg3 rfl) ?_
          refine JA_q 1 85 rfl rfl rfl rfl (by kernel_rfl) (by kernel_rfl) (hS101.pick [45, 42, 40, 41, 38, 18, 15, 12, 11, 10, 8, 5, 4, 2, 1, 0] ⟨rfl, rfl, rfl, rfl, rfl, rfl, rfl, rfl, rfl, rfl, rfl, rfl, rfl, rfl, rfl, rfl, rfl, rfl, rfl, rfl, rfl, rfl, rfl, rfl, rfl, rfl, rfl, rfl, rfl, rfl, rfl, rfl, trivial⟩) (fun _ hI => Q_ldB1' (k := 12) hI rfl rfl rfl Try.isAgg43 rfl) ?_
          refine JA_p 2 86 13 rfl rfl rfl rfl (by kernel_rfl) (by kernel_rfl) (fun _ => Q_len rfl rfl Try.underlying43) ?_
          refine JA_p 3 87 13 rfl rfl rfl rfl (by kernel_rfl) (by kernel_rfl) (fun _ => Q_geq rfl rfl rfl) ?_
          refine JA_p 4 88 13 rfl rfl rfl rfl (by kernel_rfl) (by kernel_rfl) (fun _ => Q_move rfl rfl) ?_
          refine JA_split 88 rfl (fun h102 => ?_) (fun h102 => ?_)
          · exfalso; omega
          · refine JA_q 5 89 rfl rfl rfl rfl (by kernel_rfl) (by kernel_rfl) (hS101.pick [45, 42, 40, 41, 38, 18, 15, 12, 11, 10, 8, 5, 4, 2, 1, 0] ⟨rfl, rfl, rfl, rfl, rfl, rfl, rfl, rfl, rfl, rfl, rfl, rfl, rfl, rfl, rfl, rfl, rfl, rfl, rfl, rfl, rfl, rfl, rfl, rfl, rfl, rfl, rfl, rfl, rfl, rfl, rfl, rfl, trivial⟩) (fun _ hI => Q_ldBK' (k := 45) ([.int .i64 ((nth (eachL (addAll 50 l) known) i3).at_.c), .int .i64 ((nth (eachL (addAll 50 l) known) i3).at_.r), .int .i64 ((nth (eachL (addAll 50 l) known) i3).seq), .slice A97 ((nth (eachL (addAll 50 l) known) i3).deps.length) cap97, .int .i64 ((nth (eachL (addAll 50 l) known) i3).kind), .int .i64 ((nth (eachL (addAll 50 l) known) i3).node.c), .int .i64 ((nth (eachL (addAll 50 l) known) i3).node.r), .int .i64 ((nth (eachL (addAll 50 l) known) i3).par.c), .int .i64 ((nth (eachL (addAll 50 l) known) i3).par.r), .int .i64 ((nth (eachL (addAll 50 l) known) i3).aft.c), .int .i64 ((nth (eachL (addAll 50 l) known) i3).aft.r), .string ((nth (eachL (addAll 50 l) known) i3).name), .string ((nth (eachL (addAll 50 l) known) i3).val)]) hI rfl rfl rfl Try.isAgg55 Try.sizeOf55 rfl rfl) ?_
            refine JA_q 6 90 rfl rfl rfl rfl (by kernel_rfl) (by kernel_rfl) (hS101.pick [45, 42, 40, 41, 38, 18, 15, 12, 11, 10, 8, 5, 4, 2, 1, 0] ⟨rfl, rfl, rfl, rfl, rfl, rfl, rfl, rfl, rfl, rfl, rfl, rfl, rfl, rfl, rfl, rfl, rfl, rfl, rfl, rfl, rfl, rfl, rfl, rfl, rfl, rfl, rfl, rfl, rfl, rfl, rfl, rfl, trivial⟩) (fun _ hI => Q_ldB1' (k := 12) hI rfl rfl rfl Try.isAgg43 rfl) ?_
            refine JA_q 7 91 rfl rfl rfl rfl (by kernel_rfl) (by kernel_rfl) (hS101.pick [45, 42, 40, 41, 38, 18, 15, 12, 11, 10, 8, 5, 4, 2, 1, 0] ⟨rfl, rfl, rfl, rfl, rfl, rfl, rfl, rfl, rfl, rfl, rfl, rfl, rfl, rfl, rfl, rfl, rfl, rfl, rfl, rfl, rfl, rfl, rfl, rfl, rfl, rfl, rfl, rfl, rfl, rfl, rfl, rfl, trivial⟩) (fun _ hI => Q_ldB1' (k := 38) hI rfl rfl rfl Try.isAgg3 rfl) ?_
            obtain ⟨ad103, es103, hA103, hr103, hc103⟩ := RdF.nth hr22_0 k2 (by omega) (by omega)
            obtain ⟨A103, cap103, rfl, hd103, ho103⟩ := openCh hr103
            have hln103 := RdF.lens hd103
            have hsq103 := ho103.seq
            refine JA_p 8 92 13 rfl rfl rfl rfl (by kernel_rfl) (by kernel_rfl) (fun _ => Q_iaE hA103 rfl rfl rfl Try.underlying43 Try.sizeOf55 (by omega) (by omega)) ?_
            refine JA_q 9 93 rfl rfl rfl rfl (by kernel_rfl) (by kernel_rfl) (hS101.pick [45, 42, 40, 41, 38, 18, 15, 12, 11, 10, 8, 5, 4, 2, 1, 0] ⟨rfl, rfl, rfl, rfl, rfl, rfl, rfl, rfl, rfl, rfl, rfl, rfl, rfl, rfl, rfl, rfl, rfl, rfl, rfl, rfl, rfl, rfl, rfl, rfl, rfl, rfl, rfl, rfl, rfl, rfl, rfl, rfl, trivial⟩) (fun _ hI => Q_ldCK' (chL (nth (lackR (addAll 50 l) known) k2) A103 cap103) (hc103 _ (hI.get (k := 4) rfl)) rfl rfl Try.isAgg55 Try.sizeOf55 rfl rfl) ?_
            have hmk104 := mkCh (own_rd0 (d := tI) hS101 44 rfl rfl hR97 (by omega)) hok97
            refine JA_call 10 94 rfl rfl rfl rfl (by kernel_rfl) (T_call rfl rfl rfl Try.call29) (RSame5_calls _ _ (nth (eachL (addAll 50 l) known) i3) hmk104.here _ (nth (lackR (addAll 50 l) known) k2) (hS101.rd 4 rfl hr103)) ?_
            rintro _ w105 ⟨rfl, hk105⟩
            have hS105 := hS101.kp0 hk105
            refine ⟨_, rfl, (fun _ => ((hS101.kp0 hk105).pick [45, 42, 40, 41, 38, 18, 15, 12, 11, 10, 8, 5, 4, 2, 1, 0] ⟨rfl, rfl, rfl, rfl, rfl, rfl, rfl, rfl, rfl, rfl, rfl, rfl, rfl, rfl, rfl, rfl, rfl, rfl, rfl, rfl, rfl, rfl, rfl, rfl, rfl, rfl, rfl, rfl, rfl, rfl, rfl, rfl, trivial⟩)), ?_⟩
            refine JA_p 11 95 13 rfl rfl rfl rfl (by kernel_rfl) (by kernel_rfl) (fun _ => Q_not rfl rfl) ?_
            refine JA_p 12 96 13 rfl rfl rfl rfl (by kernel_rfl) (by kernel_rfl) (fun _ => Q_pickF rfl rfl rfl) ?_
            refine JA_end (by kernel_rfl) (K_seq ?_)
            refine C_ifN rfl (fun h106 => ?_) (fun h106 => ?_)
            · exact absurd (show nth (eachL (addAll 50 l) known) i3 = nth (lackR (addAll 50 l) known) k2 by rw [hEL, hnik2]) (by assumption)
            · refine C_skip (K_seq ?_)
              refine C_region ?_
              refine J_q 97 rfl rfl rfl rfl (Q_ldB1' (k := 38) hS105 rfl rfl rfl Try.isAgg3 rfl) ?_
              refine J_q 98 rfl rfl rfl rfl (Q_add rfl rfl rfl (by omega) (by omega)) ?_
              refine J_do0 rfl rfl rfl rfl (D_store' (k := 38) hS105 rfl rfl rfl rfl Try.sizeOf3 rfl rfl rfl (fun w107 hS107 => ?_))
              refine J_nil (N_blk (K_rend hS107 40 rfl (fun w108 hS108 => ?_)))
              have hS109 : St w w108 [(44, own 3 1 (.slice A97 (nth (eachL (addAll 50 l) known) i3).deps.length cap97) ((nth (eachL (addAll 50 l) known) i3).deps.length) fl97), (42, blkL g95 (chL (nth (eachL (addAll 50 l) known) i3) A94 cap94) 55), (40, lpE l90 B90 .ready none), (41, dfE d90), (38, blkL g88 ([.int .i64 (k2 + 1)]) 3), (18, dfE d27), (15, blkL g25 ([.int .i64 n]) 3), (12, blkL g18 ([.slice A22_0 ((lackR (addAll 50 l) known).length) cap22_0]) 43), (11, blkL g17 ([]) 55), (10, fz w15 (nw w11 w15)), (8, fz w9 (nw w8 w9)), (7, own 3 1 (.slice ow.A known.length ow.c) known.length ow.f), (5, blkL g4 ([.int .i64 50, .slice AF3 ((addAll 50 l).length) cF3]) 47), (3, logE FN16 gL3 50 (if whyR (addAll 50 l) 50 (firstC) = 0 then putC (addAll 50 l) (firstC) else (addAll 50 l))), (4, fz w22 (or_ GF3 (nw w20 w22))), (2, blkL g2 ([.bool false]) 4), (1, blkL g1 ([.int .i64 stop]) 3), (0, fz w (lt_ w))] := hS108.pick [44, 42, 40, 41, 38, 18, 15, 12, 11, 10, 8, 7, 5, 3, 4, 2, 1, 0] ⟨rfl, rfl, rfl, rfl, rfl, rfl, rfl, rfl, rfl, rfl, rfl, rfl, rfl, rfl, rfl, rfl, rfl, rfl, rfl, rfl, rfl, rfl, rfl, rfl, rfl, rfl, rfl, rfl, rfl, rfl, rfl, rfl, rfl, rfl, rfl, rfl, trivial⟩
              refine J_q 15 rfl rfl rfl rfl (Q_not rfl rfl) ?_
              refine J_nil (K_seq ?_)
              refine C_false rfl ?_
              refine C_skip (N_blk (K_seq ?_))
              refine C_region ?_
              refine J_q 16 rfl rfl rfl rfl (Q_add rfl rfl rfl (by omega) (by omega)) ?_
              refine J_q 7 rfl rfl rfl rfl (Q_move rfl rfl) ?_
              exact J_nil (K_round2 (x0 := i3) (x1 := k2) (i3 + 1) (k2 + 1) ⟨(by omega), (by omega), (by omega), (hS109.pick [40, 41, 38, 18, 15, 12, 11, 10, 8, 7, 5, 3, 4, 2, 1, 0] ⟨rfl, rfl, rfl, rfl, rfl, rfl, rfl, rfl, rfl, rfl, rfl, rfl, rfl, rfl, rfl, rfl, rfl, rfl, rfl, rfl, rfl, rfl, rfl, rfl, rfl, rfl, rfl, rfl, rfl, rfl, rfl, rfl, trivial⟩)⟩ (by omega) ⟨rfl, rfl, rfl, rfl, rfl, trivial⟩)
        · refine C_exit (X_then (X_then (X_hit (body_end (res0 rfl) ?_))))
          refine range_none hS92 40 rfl (fun h => nomatch h) (fun w110 hS110 => ?_) _
          refine id (N_blk (K_seq ?_))
          refine C_seq ?_
          refine C_region ?_
          refine J_q 99 rfl rfl rfl rfl (Q_ldB1' (k := 38) hS110 rfl rfl rfl Try.isAgg3 rfl) ?_
          refine J_q 100 rfl rfl rfl rfl (Q_ldB1' (k := 12) hS110 rfl rfl rfl Try.isAgg43 rfl) ?_
          refine J_q 101 rfl rfl rfl rfl (Q_len rfl rfl Try.underlying43) ?_
          refine J_q 102 rfl rfl rfl rfl (Q_eql rfl rfl rfl) ?_
          refine J_q 103 rfl rfl rfl rfl (Q_move rfl rfl) ?_
          refine J_split 103 rfl (fun h111 => ?_) (fun h111 => ?_)
          · refine J_q 104 rfl rfl rfl rfl (Q_ldB1' (k := 15) hS110 rfl rfl rfl Try.isAgg3 rfl) ?_
            refine J_q 105 rfl rfl rfl rfl (Q_ldB1' (k := 12) hS110 rfl rfl rfl Try.isAgg43 rfl) ?_
            refine J_q 106 rfl rfl rfl rfl (Q_len rfl rfl Try.underlying43) ?_
            refine J_q 107 rfl rfl rfl rfl (Q_eql rfl rfl rfl) ?_
            refine J_q 108 rfl rfl rfl rfl (Q_move rfl rfl) ?_
            refine J_split 108 rfl (fun h112 => ?_) (fun h112 => ?_)
            · refine J_no rfl rfl rfl ?_
              refine J_no rfl rfl rfl ?_
              refine J_no rfl rfl rfl ?_
              refine J_q 112 rfl rfl rfl rfl (Q_pickT rfl rfl rfl) ?_
              refine J_q 113 rfl rfl rfl rfl (Q_pickT rfl rfl rfl) ?_
              refine J_q 114 rfl rfl rfl rfl (Q_move rfl rfl) ?_
              refine J_call 115 rfl rfl rfl rfl (T_call rfl rfl rfl Try.call30) (awake_calls _) ?_
              rintro _ w113 ⟨rfl, hk113⟩
              have hS113 := hS110.kp0 hk113
              refine ⟨_, rfl, ?_⟩
              refine J_q 116 rfl rfl rfl rfl (Q_pickT rfl rfl rfl) ?_
              refine J_do0 rfl rfl rfl rfl (D_store' (k := 2) hS113 rfl rfl rfl rfl Try.sizeOf4 rfl rfl rfl (fun w114 hS114 => ?_))
              refine J_nil (K_seq ?_)
              refine C_ret (bodyM_ret (w0 := w) ?_)
              refine .cons 41 hS114 rfl (fun w115 hS115 => ?_)
              refine .cons 18 hS115 rfl (fun w116 hS116 => ?_)
              refine marks_end (resG (vs := [.bool true]) rfl ⟨rC1 (blk_cells (k := 2) hS116 rfl) rfl Try.isAgg4 rfl, trivial⟩) ?_
              exact ⟨rfl, hS116.kept (k := 0) rfl⟩
            · refine J_q 109 rfl rfl rfl rfl (Q_ldB1' (k := 15) hS110 rfl rfl rfl Try.isAgg3 rfl) ?_
              refine J_q 110 rfl rfl rfl rfl (Q_ldB1' (k := 1) hS110 rfl rfl rfl Try.isAgg3 rfl) ?_
              refine J_q 111 rfl rfl rfl rfl (Q_eql rfl rfl rfl) ?_
              refine J_q 112 rfl rfl rfl rfl (Q_pickF rfl rfl rfl) ?_
              refine J_q 113 rfl rfl rfl rfl (Q_pickT rfl rfl rfl) ?_
              refine J_q 114 rfl rfl rfl rfl (Q_move rfl rfl) ?_
              refine J_split 114 rfl (fun h117 => ?_) (fun h117 => ?_)
              · refine J_call 115 rfl rfl rfl rfl (T_call rfl rfl rfl Try.call30) (awake_calls _) ?_
                rintro _ w118 ⟨rfl, hk118⟩
                have hS118 := hS110.kp0 hk118
                refine ⟨_, rfl, ?_⟩
                refine J_q 116 rfl rfl rfl rfl (Q_pickT rfl rfl rfl) ?_
                refine J_do0 rfl rfl rfl rfl (D_store' (k := 2) hS118 rfl rfl rfl rfl Try.sizeOf4 rfl rfl rfl (fun w119 hS119 => ?_))
                refine J_nil (K_seq ?_)
                refine C_ret (bodyM_ret (w0 := w) ?_)
                refine .cons 41 hS119 rfl (fun w120 hS120 => ?_)
                refine .cons 18 hS120 rfl (fun w121 hS121 => ?_)
                refine marks_end (resG (vs := [.bool true]) rfl ⟨rC1 (blk_cells (k := 2) hS121 rfl) rfl Try.isAgg4 rfl, trivial⟩) ?_
                exact ⟨rfl, hS121.kept (k := 0) rfl⟩
              · exfalso; omega
          · exfalso; omega
    · refine C_skip (K_seq ?_)
      refine C_seq ?_
      refine C_region ?_
      refine J_do 13 rfl rfl rfl rfl (D_alloc 50 hS20 rfl Try.zeroValue3 (fun g122 w122 hS122 => ?_))
      refine J_do0 rfl rfl rfl rfl (D_store' (k := 50) hS122 rfl rfl rfl rfl Try.sizeOf3 rfl rfl rfl (fun w123 hS123 => ?_))
      refine J_nil (K_seq ?_)
      refine C_seq ?_
      refine C_seq ?_
      refine C_region ?_
      refine J_q 51 rfl rfl rfl rfl (Q_move rfl rfl) ?_
      refine J_nil (K_seq ?_)
      refine C_block ?_
      refine C_range 52 53 hS123 rfl Try.call68 (fun l124 d124 B124 w124 hB124 hS124 => ?_)
      refine fn_calls' 17 (args := [_, _]) Try.func68 rfl rfl rfl ?_
      refine C_seq ?_
      refine C_region ?_
      refine J_q 5 rfl rfl rfl rfl (Q_ldC1' (hBE9 _ (hS124.get (k := 8) rfl)) rfl rfl Try.isAgg43 rfl) ?_
      refine J_q 6 rfl rfl rfl rfl (Q_len rfl rfl Try.underlying43) ?_
      refine J_q 7 rfl rfl rfl rfl (Q_move rfl rfl) ?_
      refine J_nil (K_seq ?_)
      refine C_block ?_
      refine C_loop2 (fun (i : Int) (n : Int) => ((eachL (addAll 50 l) known).length - i).toNat) (fun (i : Int) (n : Int) => [(0, .func (.yield l124) #[] #[]), (1, .pointer (some (⟨gE9, 0, none⟩ : Addr))), (5, .slice AE9 ((eachL (addAll 50 l) known).length) cE9), (6, .int .i64 ((eachL (addAll 50 l) known).length : Int)), (7, .int .i64 i)]) (fun (i : Int) (n : Int) w' => (0 ≤ i) ∧ (i ≤ (eachL (addAll 50 l) known).length) ∧ (n = i) ∧ St w w' [(52, lpE l124 B124 .ready none), (53, dfE d124), (50, blkL g122 ([.int .i64 n]) 3), (12, blkL g18 ([.slice (some ⟨g17, 0, none⟩) 0 0]) 43), (11, blkL g17 ([]) 55), (10, fz w15 (nw w11 w15)), (8, fz w9 (nw w8 w9)), (7, own 3 1 (.slice ow.A known.length ow.c) known.length ow.f), (5, blkL g4 ([.int .i64 50, .slice AF3 ((addAll 50 l).length) cF3]) 47), (3, logE FN16 gL3 50 (if whyR (addAll 50 l) 50 (firstC) = 0 then putC (addAll 50 l) (firstC) else (addAll 50 l))), (4, fz w3 GF3), (2, blkL g2 ([.bool false]) 4), (1, blkL g1 ([.int .i64 stop]) 3), (0, fz w (lt_ w))]) 0 0 ⟨(by first | omega | rfl), (by first | omega | rfl), (by first | omega | rfl), hS124⟩ ⟨rfl, rfl, rfl, rfl, rfl, trivial⟩ ?_
      rintro i n w125 ⟨h0i, h1i, hnin, hS125⟩
      have hEL : eachL (addAll 50 l) known = [] := eachL_no (by assumption)
      have hELl := congrArg List.length hEL; (try simp only [List.length_nil] at hELl)
      refine C_seq ?_
      refine C_region ?_
      refine J_q 8 rfl rfl rfl rfl (Q_lss rfl rfl rfl) ?_
      refine J_nil (K_seq ?_)
      refine C_seq ?_
      refine C_if rfl (fun h126 => ?_) (fun h126 => ?_)
      · refine C_skip (K_seq ?_)
        refine C_seq ?_
        refine C_block ?_
        refine C_seq ?_
        refine C_region ?_
        obtain ⟨ad127, es127, hA127, hr127, hc127⟩ := RdF.nth hRE9 i (by omega) (by omega)
        obtain ⟨A127, cap127, rfl, hd127, ho127⟩ := openCh hr127
        have hln127 := RdF.lens hd127
        have hsq127 := ho127.seq
        refine J_q 9 rfl rfl rfl rfl (Q_iaE hA127 rfl rfl rfl Try.underlying43 Try.sizeOf55 (by omega) (by omega)) ?_
        refine J_q 10 rfl rfl rfl rfl (Q_ldCK' (chL (nth (eachL (addAll 50 l) known) i) A127 cap127) (hc127 _ (hS125.get (k := 8) rfl)) rfl rfl Try.isAgg55 Try.sizeOf55 rfl rfl) ?_
        refine J_do 4 rfl rfl rfl rfl (D_alloc 54 hS125 rfl Try.zeroValue55 (fun g128 w128 hS128 => ?_))
        refine J_do0 rfl rfl rfl rfl (D_store' (k := 54) hS128 rfl rfl rfl rfl Try.sizeOf55 rfl rfl rfl (fun w129 hS129 => ?_))
        refine J_nil (K_seq ?_)
        refine C_seq ?_
        refine C_region ?_
        refine J_q 11 rfl rfl rfl rfl (Q_move rfl rfl) ?_
        refine J_q 12 rfl rfl rfl rfl (Q_ldBK' (k := 54) (chL (nth (eachL (addAll 50 l) known) i) A127 cap127) hS129 rfl rfl rfl Try.isAgg55 Try.sizeOf55 rfl rfl) ?_
        refine J_call 13 rfl rfl rfl rfl (T_call rfl rfl rfl Try.call67) (CCopyO_calls _ _ (nth (eachL (addAll 50 l) known) i) (hS129.rd 8 rfl hr127)) ?_
        rintro _ w130 ⟨A130, cap130, fl130, rfl, hk130, hw130, hR130, hf130, hok130⟩
        have hS130 := hS129.new hk130 56 (own 3 1 (.slice A130 (nth (eachL (addAll 50 l) known) i).deps.length cap130) (nth (eachL (addAll 50 l) known) i).deps.length fl130) hw130 hf130
        have hR130 := Reps.int (W' := w) hR130
        refine ⟨_, rfl, ?_⟩
        refine J_round 14 (k := 52) rfl rfl rfl rfl rfl rfl rfl hB124 hS130 rfl rfl rfl ?_
        refine C_sub (E' := [(5, .pointer (some (⟨g1, 0, none⟩ : Addr))), (6, .pointer (some (⟨g2, 0, none⟩ : Addr))), (12, .pointer (some (⟨g18, 0, none⟩ : Addr))), (13, .pointer (some (⟨g122, 0, none⟩ : Addr))), (52, .agg ([.int .i64 ((nth (eachL (addAll 50 l) known) i).at_.c), .int .i64 ((nth (eachL (addAll 50 l) known) i).at_.r), .int .i64 ((nth (eachL (addAll 50 l) known) i).seq), .slice A130 ((nth (eachL (addAll 50 l) known) i).deps.length) cap130, .int .i64 ((nth (eachL (addAll 50 l) known) i).kind), .int .i64 ((nth (eachL (addAll 50 l) known) i).node.c), .int .i64 ((nth (eachL (addAll 50 l) known) i).node.r), .int .i64 ((nth (eachL (addAll 50 l) known) i).par.c), .int .i64 ((nth (eachL (addAll 50 l) known) i).par.r), .int .i64 ((nth (eachL (addAll 50 l) known) i).aft.c), .int .i64 ((nth (eachL (addAll 50 l) known) i).aft.r), .string ((nth (eachL (addAll 50 l) known) i).name), .string ((nth (eachL (addAll 50 l) known) i).val)]).toArray)]) ⟨rfl, rfl, rfl, rfl, rfl, trivial⟩ ?_
        refine C_region ?_
        refine J_do 14 rfl rfl rfl rfl (D_alloc 57 hS130 rfl Try.zeroValue55 (fun g131 w131 hS131 => ?_))
        refine J_do0 rfl rfl rfl rfl (D_store' (k := 57) hS131 rfl rfl rfl rfl Try.sizeOf55 rfl rfl rfl (fun w132 hS132 => ?_))
        refine J_nil (K_begin hS132 52 rfl (fun w133 hS133 => ?_))
        refine C_block ?_
        refine C_seq ?_
        refine C_seq ?_
        refine C_region ?_
        refine J_q 53 rfl rfl rfl rfl (Q_ldB1' (k := 50) hS133 rfl rfl rfl Try.isAgg3 rfl) ?_
        refine J_q 54 rfl rfl rfl rfl (Q_ldB1' (k := 1) hS133 rfl rfl rfl Try.isAgg3 rfl) ?_
        refine J_q 55 rfl rfl rfl rfl (Q_eql rfl rfl rfl) ?_
        refine J_nil (K_seq ?_)
        refine C_if rfl (fun h134 => ?_) (fun h134 => ?_)
        · refine C_exit (X_then (X_miss rfl (K_rexit hS133 52 rfl (fun w135 hS135 => ?_))))
          have hS136 : St w w135 [(56, own 3 1 (.slice A130 (nth (eachL (addAll 50 l) known) i).deps.length cap130) ((nth (eachL (addAll 50 l) known) i).deps.length) fl130), (54, blkL g128 (chL (nth (eachL (addAll 50 l) known) i) A127 cap127) 55), (52, lpE l124 B124 .done (some (.exit 2))), (53, dfE d124), (50, blkL g122 ([.int .i64 n]) 3), (12, blkL g18 ([.slice (some ⟨g17, 0, none⟩) 0 0]) 43), (11, blkL g17 ([]) 55), (10, fz w15 (nw w11 w15)), (8, fz w9 (nw w8 w9)), (7, own 3 1 (.slice ow.A known.length ow.c) known.length ow.f), (5, blkL g4 ([.int .i64 50, .slice AF3 ((addAll 50 l).length) cF3]) 47), (3, logE FN16 gL3 50 (if whyR (addAll 50 l) 50 (firstC) = 0 then putC (addAll 50 l) (firstC) else (addAll 50 l))), (4, fz w3 GF3), (2, blkL g2 ([.bool false]) 4), (1, blkL g1 ([.int .i64 stop]) 3), (0, fz w (lt_ w))] := hS135.pick [56, 54, 52, 53, 50, 12, 11, 10, 8, 7, 5, 3, 4, 2, 1, 0] ⟨rfl, rfl, rfl, rfl, rfl, rfl, rfl, rfl, rfl, rfl, rfl, rfl, rfl, rfl, rfl, rfl, rfl, rfl, rfl, rfl, rfl, rfl, rfl, rfl, rfl, rfl, rfl, rfl, rfl, rfl, rfl, rfl, trivial⟩
          refine J_q 15 rfl rfl rfl rfl (Q_not rfl rfl) ?_
          refine J_nil (K_seq ?_)
          refine C_true rfl ?_
          refine C_ret (R_blk (R_then (R_then (R_blk (body_ret (res0 rfl) ?_)))))
          refine range_jump hS136 52 rfl (fun h => nomatch h) (fun w137 hS137 => ?_) _
          refine C_exit (X_hit (K_seq ?_))
          refine C_seq ?_
          refine C_region ?_
          refine J_do 16 rfl rfl rfl rfl (D_alloc 59 hS137 rfl Try.zeroValue3 (fun g138 w138 hS138 => ?_))
          refine J_do0 rfl rfl rfl rfl (D_store' (k := 59) hS138 rfl rfl rfl rfl Try.sizeOf3 rfl rfl rfl (fun w139 hS139 => ?_))
          refine J_nil (K_seq ?_)
          refine C_seq ?_
          refine C_seq ?_
          refine C_region ?_
          refine J_q 82 rfl rfl rfl rfl (Q_move rfl rfl) ?_
          refine J_nil (K_seq ?_)
          refine C_block ?_
          have hS141 : St w w139 [(59, blkL g138 ([.int .i64 0]) 3), (56, own 3 1 (.slice A130 (nth (eachL (addAll 50 l) known) i).deps.length cap130) ((nth (eachL (addAll 50 l) known) i).deps.length) fl130), (53, dfE d124), (50, blkL g122 ([.int .i64 n]) 3), (12, blkL g18 ([.slice (some ⟨g17, 0, none⟩) 0 0]) 43), (11, blkL g17 ([]) 55), (10, fz w15 (nw w11 w15)), (8, fz w9 (nw w8 w9)), (7, own 3 1 (.slice ow.A known.length ow.c) known.length ow.f), (5, blkL g4 ([.int .i64 50, .slice AF3 ((addAll 50 l).length) cF3]) 47), (3, logE FN16 gL3 50 (if whyR (addAll 50 l) 50 (firstC) = 0 then putC (addAll 50 l) (firstC) else (addAll 50 l))), (4, fz w3 GF3), (2, blkL g2 ([.bool false]) 4), (1, blkL g1 ([.int .i64 stop]) 3), (0, fz w (lt_ w))] := hS139.pick [59, 56, 53, 50, 12, 11, 10, 8, 7, 5, 3, 4, 2, 1, 0] ⟨rfl, rfl, rfl, rfl, rfl, rfl, rfl, rfl, rfl, rfl, rfl, rfl, rfl, rfl, rfl, rfl, rfl, rfl, rfl, rfl, rfl, rfl, rfl, rfl, rfl, rfl, rfl, rfl, rfl, rfl, trivial⟩
          refine C_range 61 62 hS141 rfl Try.call68 (fun l140 d140 B140 w140 hB140 hS140 => ?_)
          refine fn_calls' 17 (args := [_, _]) Try.func68 rfl rfl rfl ?_
          refine C_seq ?_
          refine C_region ?_
          refine J_q 5 rfl rfl rfl rfl (Q_ldC1' (hBE9 _ (hS140.get (k := 8) rfl)) rfl rfl Try.isAgg43 rfl) ?_
          refine J_q 6 rfl rfl rfl rfl (Q_len rfl rfl Try.underlying43) ?_
          refine J_q 7 rfl rfl rfl rfl (Q_move rfl rfl) ?_
          refine J_nil (K_seq ?_)
          refine C_block ?_
          refine C_loop2 (fun (i3 : Int) (k2 : Int) => ((eachL (addAll 50 l) known).length - i3).toNat) (fun (i3 : Int) (k2 : Int) => [(0, .func (.yield l140) #[] #[]), (1, .pointer (some (⟨gE9, 0, none⟩ : Addr))), (5, .slice AE9 ((eachL (addAll 50 l) known).length) cE9), (6, .int .i64 ((eachL (addAll 50 l) known).length : Int)), (7, .int .i64 i3)]) (fun (i3 : Int) (k2 : Int) w' => (0 ≤ i3) ∧ (i3 ≤ (eachL (addAll 50 l) known).length) ∧ (k2 = i3) ∧ St w w' [(61, lpE l140 B140 .ready none), (62, dfE d140), (59, blkL g138 ([.int .i64 k2]) 3), (56, own 3 1 (.slice A130 (nth (eachL (addAll 50 l) known) i).deps.length cap130) ((nth (eachL (addAll 50 l) known) i).deps.length) fl130), (53, dfE d124), (50, blkL g122 ([.int .i64 n]) 3), (12, blkL g18 ([.slice (some ⟨g17, 0, none⟩) 0 0]) 43), (11, blkL g17 ([]) 55), (10, fz w15 (nw w11 w15)), (8, fz w9 (nw w8 w9)), (7, own 3 1 (.slice ow.A known.length ow.c) known.length ow.f), (5, blkL g4 ([.int .i64 50, .slice AF3 ((addAll 50 l).length) cF3]) 47), (3, logE FN16 gL3 50 (if whyR (addAll 50 l) 50 (firstC) = 0 then putC (addAll 50 l) (firstC) else (addAll 50 l))), (4, fz w3 GF3), (2, blkL g2 ([.bool false]) 4), (1, blkL g1 ([.int .i64 stop]) 3), (0, fz w (lt_ w))]) 0 0 ⟨(by first | omega | rfl), (by first | omega | rfl), (by first | omega | rfl), hS140⟩ ⟨rfl, rfl, rfl, rfl, rfl, trivial⟩ ?_
          rintro i3 k2 w142 ⟨h0i3, h1i3, hnik2, hS142⟩
          have hEL : eachL (addAll 50 l) known = [] := eachL_no (by assumption)
          have hELl := congrArg List.length hEL; (try simp only [List.length_nil] at hELl)
          refine C_seq ?_
          refine C_region ?_
          refine J_q 8 rfl rfl rfl rfl (Q_lss rfl rfl rfl) ?_
          refine J_nil (K_seq ?_)
          refine C_seq ?_
          refine C_if rfl (fun h143 => ?_) (fun h143 => ?_)
          · refine C_skip (K_seq ?_)
            refine C_seq ?_
            refine C_block ?_
            refine C_seq ?_
            refine C_region ?_
            obtain ⟨ad144, es144, hA144, hr144, hc144⟩ := RdF.nth hRE9 i3 (by omega) (by omega)
            obtain ⟨A144, cap144, rfl, hd144, ho144⟩ := openCh hr144
            have hln144 := RdF.lens hd144
            have hsq144 := ho144.seq
            refine J_q 9 rfl rfl rfl rfl (Q_iaE hA144 rfl rfl rfl Try.underlying43 Try.sizeOf55 (by omega) (by omega)) ?_
            refine J_q 10 rfl rfl rfl rfl (Q_ldCK' (chL (nth (eachL (addAll 50 l) known) i3) A144 cap144) (hc144 _ (hS142.get (k := 8) rfl)) rfl rfl Try.isAgg55 Try.sizeOf55 rfl rfl) ?_
            refine J_do 4 rfl rfl rfl rfl (D_alloc 63 hS142 rfl Try.zeroValue55 (fun g145 w145 hS145 => ?_))
            refine J_do0 rfl rfl rfl rfl (D_store' (k := 63) hS145 rfl rfl rfl rfl Try.sizeOf55 rfl rfl rfl (fun w146 hS146 => ?_))
            refine J_nil (K_seq ?_)
            refine C_seq ?_
            refine C_region ?_
            refine J_q 11 rfl rfl rfl rfl (Q_move rfl rfl) ?_
            refine J_q 12 rfl rfl rfl rfl (Q_ldBK' (k := 63) (chL (nth (eachL (addAll 50 l) known) i3) A144 cap144) hS146 rfl rfl rfl Try.isAgg55 Try.sizeOf55 rfl rfl) ?_
            refine J_call 13 rfl rfl rfl rfl (T_call rfl rfl rfl Try.call67) (CCopyO_calls _ _ (nth (eachL (addAll 50 l) known) i3) (hS146.rd 8 rfl hr144)) ?_
            rintro _ w147 ⟨A147, cap147, fl147, rfl, hk147, hw147, hR147, hf147, hok147⟩
            have hS147 := hS146.new hk147 65 (own 3 1 (.slice A147 (nth (eachL (addAll 50 l) known) i3).deps.length cap147) (nth (eachL (addAll 50 l) known) i3).deps.length fl147) hw147 hf147
            have hR147 := Reps.int (W' := w) hR147
            refine ⟨_, rfl, ?_⟩
            refine J_round 14 (k := 61) rfl rfl rfl rfl rfl rfl rfl hB140 hS147 rfl rfl rfl ?_
            refine C_sub (E' := [(6, .pointer (some (⟨g2, 0, none⟩ : Addr))), (12, .pointer (some (⟨g18, 0, none⟩ : Addr))), (16, .pointer (some (⟨g138, 0, none⟩ : Addr))), (83, .agg ([.int .i64 ((nth (eachL (addAll 50 l) known) i3).at_.c), .int .i64 ((nth (eachL (addAll 50 l) known) i3).at_.r), .int .i64 ((nth (eachL (addAll 50 l) known) i3).seq), .slice A147 ((nth (eachL (addAll 50 l) known) i3).deps.length) cap147, .int .i64 ((nth (eachL (addAll 50 l) known) i3).kind), .int .i64 ((nth (eachL (addAll 50 l) known) i3).node.c), .int .i64 ((nth (eachL (addAll 50 l) known) i3).node.r), .int .i64 ((nth (eachL (addAll 50 l) known) i3).par.c), .int .i64 ((nth (eachL (addAll 50 l) known) i3).par.r), .int .i64 ((nth (eachL (addAll 50 l) known) i3).aft.c), .int .i64 ((nth (eachL (addAll 50 l) known) i3).aft.r), .string ((nth (eachL (addAll 50 l) known) i3).name), .string ((nth (eachL (addAll 50 l) known) i3).val)]).toArray)]) ⟨rfl, rfl, rfl, rfl, trivial⟩ ?_
            refine C_region ?_
            refine J_do 17 rfl rfl rfl rfl (D_alloc 66 hS147 rfl Try.zeroValue55 (fun g148 w148 hS148 => ?_))
            refine J_do0 rfl rfl rfl rfl (D_store' (k := 66) hS148 rfl rfl rfl rfl Try.sizeOf55 rfl rfl rfl (fun w149 hS149 => ?_))
            refine J_nil (K_begin hS149 61 rfl (fun w150 hS150 => ?_))
            refine C_block ?_
            refine C_seq ?_
            refine C_seq ?_
            refine C_draw (fun w' => St w w' [(66, blkL g148 ([.int .i64 ((nth (eachL (addAll 50 l) known) i3).at_.c), .int .i64 ((nth (eachL (addAll 50 l) known) i3).at_.r), .int .i64 ((nth (eachL (addAll 50 l) known) i3).seq), .slice A147 ((nth (eachL (addAll 50 l) known) i3).deps.length) cap147, .int .i64 ((nth (eachL (addAll 50 l) known) i3).kind), .int .i64 ((nth (eachL (addAll 50 l) known) i3).node.c), .int .i64 ((nth (eachL (addAll 50 l) known) i3).node.r), .int .i64 ((nth (eachL (addAll 50 l) known) i3).par.c), .int .i64 ((nth (eachL (addAll 50 l) known) i3).par.r), .int .i64 ((nth (eachL (addAll 50 l) known) i3).aft.c), .int .i64 ((nth (eachL (addAll 50 l) known) i3).aft.r), .string ((nth (eachL (addAll 50 l) known) i3).name), .string ((nth (eachL (addAll 50 l) known) i3).val)]) 55), (63, blkL g145 (chL (nth (eachL (addAll 50 l) known) i3) A144 cap144) 55), (61, lpE l140 B140 .busy none), (62, dfE d140), (59, blkL g138 ([.int .i64 k2]) 3), (53, dfE d124), (50, blkL g122 ([.int .i64 n]) 3), (12, blkL g18 ([.slice (some ⟨g17, 0, none⟩) 0 0]) 43), (11, blkL g17 ([]) 55), (10, fz w15 (nw w11 w15)), (8, fz w9 (nw w8 w9)), (5, blkL g4 ([.int .i64 50, .slice AF3 ((addAll 50 l).length) cF3]) 47), (4, fz w3 GF3), (2, blkL g2 ([.bool false]) 4), (1, blkL g1 ([.int .i64 stop]) 3), (0, fz w (lt_ w))]) 13 mixedOrders 13 rfl (fun w151 hk151 => ?_)
            have hS151 := hS150.kp0 hk151
            refine JA_q 0 84 rfl rfl rfl rfl (by kernel_rfl) (by kernel_rfl) (hS151.pick [66, 63, 61, 62, 59, 53, 50, 12, 11, 10, 8, 5, 4, 2, 1, 0] ⟨rfl, rfl, rfl, rfl, rfl, rfl, rfl, rfl, rfl, rfl, rfl, rfl, rfl, rfl, rfl, rfl, rfl, rfl, rfl, rfl, rfl, rfl, rfl, rfl, rfl, rfl, rfl, rfl, rfl, rfl, rfl, rfl, trivial⟩) (fun _ hI => Q_ldB1' (k := 59) hI rfl rfl rfl Try.isAgg3 rfl) ?_
            refine JA_q 1 85 rfl rfl rfl rfl (by kernel_rfl) (by kernel_rfl) (hS151.pick [66, 63, 61, 62, 59, 53, 50, 12, 11, 10, 8, 5, 4, 2, 1, 0] ⟨rfl, rfl, rfl, rfl, rfl, rfl, rfl, rfl, rfl, rfl, rfl, rfl, rfl, rfl, rfl, rfl, rfl, rfl, rfl, rfl, rfl, rfl, rfl, rfl, rfl, rfl, rfl, rfl, rfl, rfl, rfl, rfl, trivial⟩) (fun _ hI => Q_ldB1' (k := 12) hI rfl rfl rfl Try.isAgg43 rfl) ?_
            refine JA_p 2 86 13 rfl rfl rfl rfl (by kernel_rfl) (by kernel_rfl) (fun _ => Q_toI (i' := 0) (Q_len rfl rfl Try.underlying43) (by decide)) ?_
            refine JA_p 3 87 13 rfl rfl rfl rfl (by kernel_rfl) (by kernel_rfl) (fun _ => Q_geq rfl rfl rfl) ?_
            refine JA_p 4 88 13 rfl rfl rfl rfl (by kernel_rfl) (by kernel_rfl) (fun _ => Q_move rfl rfl) ?_
            refine JA_split 88 rfl (fun h152 => ?_) (fun h152 => ?_)
            · exfalso; omega
            · exfalso; omega
          · refine C_exit (X_then (X_then (X_hit (body_end (res0 rfl) ?_))))
            refine range_none hS142 61 rfl (fun h => nomatch h) (fun w153 hS153 => ?_) _
            refine id (N_blk (K_seq ?_))
            refine C_seq ?_
            refine C_region ?_
            refine J_q 99 rfl rfl rfl rfl (Q_ldB1' (k := 59) hS153 rfl rfl rfl Try.isAgg3 rfl) ?_
            refine J_q 100 rfl rfl rfl rfl (Q_ldB1' (k := 12) hS153 rfl rfl rfl Try.isAgg43 rfl) ?_
            refine J_q 101 rfl rfl rfl rfl (Q_toI (i' := 0) (Q_len rfl rfl Try.underlying43) (by decide)) ?_
            refine J_q 102 rfl rfl rfl rfl (Q_eql rfl rfl rfl) ?_
            refine J_q 103 rfl rfl rfl rfl (Q_move rfl rfl) ?_
            refine J_split 103 rfl (fun h154 => ?_) (fun h154 => ?_)
            · refine J_q 104 rfl rfl rfl rfl (Q_ldB1' (k := 50) hS153 rfl rfl rfl Try.isAgg3 rfl) ?_
              refine J_q 105 rfl rfl rfl rfl (Q_ldB1' (k := 12) hS153 rfl rfl rfl Try.isAgg43 rfl) ?_
              refine J_q 106 rfl rfl rfl rfl (Q_toI (i' := 0) (Q_len rfl rfl Try.underlying43) (by decide)) ?_
              refine J_q 107 rfl rfl rfl rfl (Q_eql rfl rfl rfl) ?_
              refine J_q 108 rfl rfl rfl rfl (Q_move rfl rfl) ?_
              refine J_split 108 rfl (fun h155 => ?_) (fun h155 => ?_)
              · refine J_no rfl rfl rfl ?_
                refine J_no rfl rfl rfl ?_
                refine J_no rfl rfl rfl ?_
                refine J_q 112 rfl rfl rfl rfl (Q_pickT rfl rfl rfl) ?_
                refine J_q 113 rfl rfl rfl rfl (Q_pickT rfl rfl rfl) ?_
                refine J_q 114 rfl rfl rfl rfl (Q_move rfl rfl) ?_
                refine J_call 115 rfl rfl rfl rfl (T_call rfl rfl rfl Try.call30) (awake_calls _) ?_
                rintro _ w156 ⟨rfl, hk156⟩
                have hS156 := hS153.kp0 hk156
                refine ⟨_, rfl, ?_⟩
                refine J_q 116 rfl rfl rfl rfl (Q_pickT rfl rfl rfl) ?_
                refine J_do0 rfl rfl rfl rfl (D_store' (k := 2) hS156 rfl rfl rfl rfl Try.sizeOf4 rfl rfl rfl (fun w157 hS157 => ?_))
                refine J_nil (K_seq ?_)
                refine C_ret (bodyM_ret (w0 := w) ?_)
                refine .cons 62 hS157 rfl (fun w158 hS158 => ?_)
                refine .cons 53 hS158 rfl (fun w159 hS159 => ?_)
                refine marks_end (resG (vs := [.bool true]) rfl ⟨rC1 (blk_cells (k := 2) hS159 rfl) rfl Try.isAgg4 rfl, trivial⟩) ?_
                exact ⟨rfl, hS159.kept (k := 0) rfl⟩
              · refine J_q 109 rfl rfl rfl rfl (Q_ldB1' (k := 50) hS153 rfl rfl rfl Try.isAgg3 rfl) ?_
                refine J_q 110 rfl rfl rfl rfl (Q_ldB1' (k := 1) hS153 rfl rfl rfl Try.isAgg3 rfl) ?_
                refine J_q 111 rfl rfl rfl rfl (Q_eql rfl rfl rfl) ?_
                refine J_q 112 rfl rfl rfl rfl (Q_pickF rfl rfl rfl) ?_
                refine J_q 113 rfl rfl rfl rfl (Q_pickT rfl rfl rfl) ?_
                refine J_q 114 rfl rfl rfl rfl (Q_move rfl rfl) ?_
                refine J_setT 114 rfl h134 ?_
                refine J_call 115 rfl rfl rfl rfl (T_call rfl rfl rfl Try.call30) (awake_calls _) ?_
                rintro _ w160 ⟨rfl, hk160⟩
                have hS160 := hS153.kp0 hk160
                refine ⟨_, rfl, ?_⟩
                refine J_q 116 rfl rfl rfl rfl (Q_pickT rfl rfl rfl) ?_
                refine J_do0 rfl rfl rfl rfl (D_store' (k := 2) hS160 rfl rfl rfl rfl Try.sizeOf4 rfl rfl rfl (fun w161 hS161 => ?_))
                refine J_nil (K_seq ?_)
                refine C_ret (bodyM_ret (w0 := w) ?_)
                refine .cons 62 hS161 rfl (fun w162 hS162 => ?_)
                refine .cons 53 hS162 rfl (fun w163 hS163 => ?_)
                refine marks_end (resG (vs := [.bool true]) rfl ⟨rC1 (blk_cells (k := 2) hS163 rfl) rfl Try.isAgg4 rfl, trivial⟩) ?_
                exact ⟨rfl, hS163.kept (k := 0) rfl⟩
            · exfalso; omega
        · refine C_skip (K_seq ?_)
          refine C_seq ?_
          refine C_seq ?_
          refine C_draw (fun w' => St w w' [(57, blkL g131 ([.int .i64 ((nth (eachL (addAll 50 l) known) i).at_.c), .int .i64 ((nth (eachL (addAll 50 l) known) i).at_.r), .int .i64 ((nth (eachL (addAll 50 l) known) i).seq), .slice A130 ((nth (eachL (addAll 50 l) known) i).deps.length) cap130, .int .i64 ((nth (eachL (addAll 50 l) known) i).kind), .int .i64 ((nth (eachL (addAll 50 l) known) i).node.c), .int .i64 ((nth (eachL (addAll 50 l) known) i).node.r), .int .i64 ((nth (eachL (addAll 50 l) known) i).par.c), .int .i64 ((nth (eachL (addAll 50 l) known) i).par.r), .int .i64 ((nth (eachL (addAll 50 l) known) i).aft.c), .int .i64 ((nth (eachL (addAll 50 l) known) i).aft.r), .string ((nth (eachL (addAll 50 l) known) i).name), .string ((nth (eachL (addAll 50 l) known) i).val)]) 55), (54, blkL g128 (chL (nth (eachL (addAll 50 l) known) i) A127 cap127) 55), (52, lpE l124 B124 .busy none), (53, dfE d124), (50, blkL g122 ([.int .i64 n]) 3), (12, blkL g18 ([.slice (some ⟨g17, 0, none⟩) 0 0]) 43), (11, blkL g17 ([]) 55), (10, fz w15 (nw w11 w15)), (8, fz w9 (nw w8 w9)), (5, blkL g4 ([.int .i64 50, .slice AF3 ((addAll 50 l).length) cF3]) 47), (4, fz w3 GF3), (2, blkL g2 ([.bool false]) 4), (1, blkL g1 ([.int .i64 stop]) 3), (0, fz w (lt_ w))]) 13 mixedOrders 13 rfl (fun w164 hk164 => ?_)
          have hS164 := hS133.kp0 hk164
          refine JA_q 0 56 rfl rfl rfl rfl (by kernel_rfl) (by kernel_rfl) (hS164.pick [57, 54, 52, 53, 50, 12, 11, 10, 8, 5, 4, 2, 1, 0] ⟨rfl, rfl, rfl, rfl, rfl, rfl, rfl, rfl, rfl, rfl, rfl, rfl, rfl, rfl, rfl, rfl, rfl, rfl, rfl, rfl, rfl, rfl, rfl, rfl, rfl, rfl, rfl, rfl, trivial⟩) (fun _ hI => Q_ldB1' (k := 50) hI rfl rfl rfl Try.isAgg3 rfl) ?_
          refine JA_q 1 57 rfl rfl rfl rfl (by kernel_rfl) (by kernel_rfl) (hS164.pick [57, 54, 52, 53, 50, 12, 11, 10, 8, 5, 4, 2, 1, 0] ⟨rfl, rfl, rfl, rfl, rfl, rfl, rfl, rfl, rfl, rfl, rfl, rfl, rfl, rfl, rfl, rfl, rfl, rfl, rfl, rfl, rfl, rfl, rfl, rfl, rfl, rfl, rfl, rfl, trivial⟩) (fun _ hI => Q_ldB1' (k := 12) hI rfl rfl rfl Try.isAgg43 rfl) ?_
          refine JA_p 2 58 13 rfl rfl rfl rfl (by kernel_rfl) (by kernel_rfl) (fun _ => Q_toI (i' := 0) (Q_len rfl rfl Try.underlying43) (by decide)) ?_
          refine JA_p 3 59 13 rfl rfl rfl rfl (by kernel_rfl) (by kernel_rfl) (fun _ => Q_geq rfl rfl rfl) ?_
          refine JA_p 4 60 13 rfl rfl rfl rfl (by kernel_rfl) (by kernel_rfl) (fun _ => Q_move rfl rfl) ?_
          refine JA_split 60 rfl (fun h165 => ?_) (fun h165 => ?_)
          · exfalso; omega
          · exfalso; omega
      · refine C_exit (X_then (X_then (X_hit (body_end (res0 rfl) ?_))))
        refine range_none hS125 52 rfl (fun h => nomatch h) (fun w166 hS166 => ?_) _
        refine id (N_blk (K_seq ?_))
        refine C_seq ?_
        refine C_region ?_
        refine J_do 16 rfl rfl rfl rfl (D_alloc 70 hS166 rfl Try.zeroValue3 (fun g167 w167 hS167 => ?_))
        refine J_do0 rfl rfl rfl rfl (D_store' (k := 70) hS167 rfl rfl rfl rfl Try.sizeOf3 rfl rfl rfl (fun w168 hS168 => ?_))
        refine J_nil (K_seq ?_)
        refine C_seq ?_
        refine C_seq ?_
        refine C_region ?_
        refine J_q 82 rfl rfl rfl rfl (Q_move rfl rfl) ?_
        refine J_nil (K_seq ?_)
        refine C_block ?_
        have hS170 : St w w168 [(70, blkL g167 ([.int .i64 0]) 3), (53, dfE d124), (50, blkL g122 ([.int .i64 n]) 3), (12, blkL g18 ([.slice (some ⟨g17, 0, none⟩) 0 0]) 43), (11, blkL g17 ([]) 55), (10, fz w15 (nw w11 w15)), (8, fz w9 (nw w8 w9)), (7, own 3 1 (.slice ow.A known.length ow.c) known.length ow.f), (5, blkL g4 ([.int .i64 50, .slice AF3 ((addAll 50 l).length) cF3]) 47), (3, logE FN16 gL3 50 (if whyR (addAll 50 l) 50 (firstC) = 0 then putC (addAll 50 l) (firstC) else (addAll 50 l))), (4, fz w3 GF3), (2, blkL g2 ([.bool false]) 4), (1, blkL g1 ([.int .i64 stop]) 3), (0, fz w (lt_ w))] := hS168.pick [70, 53, 50, 12, 11, 10, 8, 7, 5, 3, 4, 2, 1, 0] ⟨rfl, rfl, rfl, rfl, rfl, rfl, rfl, rfl, rfl, rfl, rfl, rfl, rfl, rfl, rfl, rfl, rfl, rfl, rfl, rfl, rfl, rfl, rfl, rfl, rfl, rfl, rfl, rfl, trivial⟩
        refine C_range 72 73 hS170 rfl Try.call68 (fun l169 d169 B169 w169 hB169 hS169 => ?_)
        refine fn_calls' 17 (args := [_, _]) Try.func68 rfl rfl rfl ?_
        refine C_seq ?_
        refine C_region ?_
        refine J_q 5 rfl rfl rfl rfl (Q_ldC1' (hBE9 _ (hS169.get (k := 8) rfl)) rfl rfl Try.isAgg43 rfl) ?_
        refine J_q 6 rfl rfl rfl rfl (Q_len rfl rfl Try.underlying43) ?_
        refine J_q 7 rfl rfl rfl rfl (Q_move rfl rfl) ?_
        refine J_nil (K_seq ?_)
        refine C_block ?_
        refine C_loop2 (fun (i3 : Int) (k2 : Int) => ((eachL (addAll 50 l) known).length - i3).toNat) (fun (i3 : Int) (k2 : Int) => [(0, .func (.yield l169) #[] #[]), (1, .pointer (some (⟨gE9, 0, none⟩ : Addr))), (5, .slice AE9 ((eachL (addAll 50 l) known).length) cE9), (6, .int .i64 ((eachL (addAll 50 l) known).length : Int)), (7, .int .i64 i3)]) (fun (i3 : Int) (k2 : Int) w' => (0 ≤ i3) ∧ (i3 ≤ (eachL (addAll 50 l) known).length) ∧ (k2 = i3) ∧ St w w' [(72, lpE l169 B169 .ready none), (73, dfE d169), (70, blkL g167 ([.int .i64 k2]) 3), (53, dfE d124), (50, blkL g122 ([.int .i64 n]) 3), (12, blkL g18 ([.slice (some ⟨g17, 0, none⟩) 0 0]) 43), (11, blkL g17 ([]) 55), (10, fz w15 (nw w11 w15)), (8, fz w9 (nw w8 w9)), (7, own 3 1 (.slice ow.A known.length ow.c) known.length ow.f), (5, blkL g4 ([.int .i64 50, .slice AF3 ((addAll 50 l).length) cF3]) 47), (3, logE FN16 gL3 50 (if whyR (addAll 50 l) 50 (firstC) = 0 then putC (addAll 50 l) (firstC) else (addAll 50 l))), (4, fz w3 GF3), (2, blkL g2 ([.bool false]) 4), (1, blkL g1 ([.int .i64 stop]) 3), (0, fz w (lt_ w))]) 0 0 ⟨(by first | omega | rfl), (by first | omega | rfl), (by first | omega | rfl), hS169⟩ ⟨rfl, rfl, rfl, rfl, rfl, trivial⟩ ?_
        rintro i3 k2 w171 ⟨h0i3, h1i3, hnik2, hS171⟩
        have hEL : eachL (addAll 50 l) known = [] := eachL_no (by assumption)
        have hELl := congrArg List.length hEL; (try simp only [List.length_nil] at hELl)
        refine C_seq ?_
        refine C_region ?_
        refine J_q 8 rfl rfl rfl rfl (Q_lss rfl rfl rfl) ?_
        refine J_nil (K_seq ?_)
        refine C_seq ?_
        refine C_if rfl (fun h172 => ?_) (fun h172 => ?_)
        · refine C_skip (K_seq ?_)
          refine C_seq ?_
          refine C_block ?_
          refine C_seq ?_
          refine C_region ?_
          obtain ⟨ad173, es173, hA173, hr173, hc173⟩ := RdF.nth hRE9 i3 (by omega) (by omega)
          obtain ⟨A173, cap173, rfl, hd173, ho173⟩ := openCh hr173
          have hln173 := RdF.lens hd173
          have hsq173 := ho173.seq
          refine J_q 9 rfl rfl rfl rfl (Q_iaE hA173 rfl rfl rfl Try.underlying43 Try.sizeOf55 (by omega) (by omega)) ?_
          refine J_q 10 rfl rfl rfl rfl (Q_ldCK' (chL (nth (eachL (addAll 50 l) known) i3) A173 cap173) (hc173 _ (hS171.get (k := 8) rfl)) rfl rfl Try.isAgg55 Try.sizeOf55 rfl rfl) ?_
          refine J_do 4 rfl rfl rfl rfl (D_alloc 74 hS171 rfl Try.zeroValue55 (fun g174 w174 hS174 => ?_))
          refine J_do0 rfl rfl rfl rfl (D_store' (k := 74) hS174 rfl rfl rfl rfl Try.sizeOf55 rfl rfl rfl (fun w175 hS175 => ?_))
          refine J_nil (K_seq ?_)
          refine C_seq ?_
          refine C_region ?_
          refine J_q 11 rfl rfl rfl rfl (Q_move rfl rfl) ?_
          refine J_q 12 rfl rfl rfl rfl (Q_ldBK' (k := 74) (chL (nth (eachL (addAll 50 l) known) i3) A173 cap173) hS175 rfl rfl rfl Try.isAgg55 Try.sizeOf55 rfl rfl) ?_
          refine J_call 13 rfl rfl rfl rfl (T_call rfl rfl rfl Try.call67) (CCopyO_calls _ _ (nth (eachL (addAll 50 l) known) i3) (hS175.rd 8 rfl hr173)) ?_
          rintro _ w176 ⟨A176, cap176, fl176, rfl, hk176, hw176, hR176, hf176, hok176⟩
          have hS176 := hS175.new hk176 76 (own 3 1 (.slice A176 (nth (eachL (addAll 50 l) known) i3).deps.length cap176) (nth (eachL (addAll 50 l) known) i3).deps.length fl176) hw176 hf176
          have hR176 := Reps.int (W' := w) hR176
          refine ⟨_, rfl, ?_⟩
          refine J_round 14 (k := 72) rfl rfl rfl rfl rfl rfl rfl hB169 hS176 rfl rfl rfl ?_
          refine C_sub (E' := [(6, .pointer (some (⟨g2, 0, none⟩ : Addr))), (12, .pointer (some (⟨g18, 0, none⟩ : Addr))), (16, .pointer (some (⟨g167, 0, none⟩ : Addr))), (83, .agg ([.int .i64 ((nth (eachL (addAll 50 l) known) i3).at_.c), .int .i64 ((nth (eachL (addAll 50 l) known) i3).at_.r), .int .i64 ((nth (eachL (addAll 50 l) known) i3).seq), .slice A176 ((nth (eachL (addAll 50 l) known) i3).deps.length) cap176, .int .i64 ((nth (eachL (addAll 50 l) known) i3).kind), .int .i64 ((nth (eachL (addAll 50 l) known) i3).node.c), .int .i64 ((nth (eachL (addAll 50 l) known) i3).node.r), .int .i64 ((nth (eachL (addAll 50 l) known) i3).par.c), .int .i64 ((nth (eachL (addAll 50 l) known) i3).par.r), .int .i64 ((nth (eachL (addAll 50 l) known) i3).aft.c), .int .i64 ((nth (eachL (addAll 50 l) known) i3).aft.r), .string ((nth (eachL (addAll 50 l) known) i3).name), .string ((nth (eachL (addAll 50 l) known) i3).val)]).toArray)]) ⟨rfl, rfl, rfl, rfl, trivial⟩ ?_
          refine C_region ?_
          refine J_do 17 rfl rfl rfl rfl (D_alloc 77 hS176 rfl Try.zeroValue55 (fun g177 w177 hS177 => ?_))
          refine J_do0 rfl rfl rfl rfl (D_store' (k := 77) hS177 rfl rfl rfl rfl Try.sizeOf55 rfl rfl rfl (fun w178 hS178 => ?_))
          refine J_nil (K_begin hS178 72 rfl (fun w179 hS179 => ?_))
          refine C_block ?_
          refine C_seq ?_
          refine C_seq ?_
          refine C_draw (fun w' => St w w' [(77, blkL g177 ([.int .i64 ((nth (eachL (addAll 50 l) known) i3).at_.c), .int .i64 ((nth (eachL (addAll 50 l) known) i3).at_.r), .int .i64 ((nth (eachL (addAll 50 l) known) i3).seq), .slice A176 ((nth (eachL (addAll 50 l) known) i3).deps.length) cap176, .int .i64 ((nth (eachL (addAll 50 l) known) i3).kind), .int .i64 ((nth (eachL (addAll 50 l) known) i3).node.c), .int .i64 ((nth (eachL (addAll 50 l) known) i3).node.r), .int .i64 ((nth (eachL (addAll 50 l) known) i3).par.c), .int .i64 ((nth (eachL (addAll 50 l) known) i3).par.r), .int .i64 ((nth (eachL (addAll 50 l) known) i3).aft.c), .int .i64 ((nth (eachL (addAll 50 l) known) i3).aft.r), .string ((nth (eachL (addAll 50 l) known) i3).name), .string ((nth (eachL (addAll 50 l) known) i3).val)]) 55), (74, blkL g174 (chL (nth (eachL (addAll 50 l) known) i3) A173 cap173) 55), (72, lpE l169 B169 .busy none), (73, dfE d169), (70, blkL g167 ([.int .i64 k2]) 3), (53, dfE d124), (50, blkL g122 ([.int .i64 n]) 3), (12, blkL g18 ([.slice (some ⟨g17, 0, none⟩) 0 0]) 43), (11, blkL g17 ([]) 55), (10, fz w15 (nw w11 w15)), (8, fz w9 (nw w8 w9)), (5, blkL g4 ([.int .i64 50, .slice AF3 ((addAll 50 l).length) cF3]) 47), (4, fz w3 GF3), (2, blkL g2 ([.bool false]) 4), (1, blkL g1 ([.int .i64 stop]) 3), (0, fz w (lt_ w))]) 13 mixedOrders 13 rfl (fun w180 hk180 => ?_)
          have hS180 := hS179.kp0 hk180
          refine JA_q 0 84 rfl rfl rfl rfl (by kernel_rfl) (by kernel_rfl) (hS180.pick [77, 74, 72, 73, 70, 53, 50, 12, 11, 10, 8, 5, 4, 2, 1, 0] ⟨rfl, rfl, rfl, rfl, rfl, rfl, rfl, rfl, rfl, rfl, rfl, rfl, rfl, rfl, rfl, rfl, rfl, rfl, rfl, rfl, rfl, rfl, rfl, rfl, rfl, rfl, rfl, rfl, rfl, rfl, rfl, rfl, trivial⟩) (fun _ hI => Q_ldB1' (k := 70) hI rfl rfl rfl Try.isAgg3 rfl) ?_
          refine JA_q 1 85 rfl rfl rfl rfl (by kernel_rfl) (by kernel_rfl) (hS180.pick [77, 74, 72, 73, 70, 53, 50, 12, 11, 10, 8, 5, 4, 2, 1, 0] ⟨rfl, rfl, rfl, rfl, rfl, rfl, rfl, rfl, rfl, rfl, rfl, rfl, rfl, rfl, rfl, rfl, rfl, rfl, rfl, rfl, rfl, rfl, rfl, rfl, rfl, rfl, rfl, rfl, rfl, rfl, rfl, rfl, trivial⟩) (fun _ hI => Q_ldB1' (k := 12) hI rfl rfl rfl Try.isAgg43 rfl) ?_
          refine JA_p 2 86 13 rfl rfl rfl rfl (by kernel_rfl) (by kernel_rfl) (fun _ => Q_toI (i' := 0) (Q_len rfl rfl Try.underlying43) (by decide)) ?_
          refine JA_p 3 87 13 rfl rfl rfl rfl (by kernel_rfl) (by kernel_rfl) (fun _ => Q_geq rfl rfl rfl) ?_
          refine JA_p 4 88 13 rfl rfl rfl rfl (by kernel_rfl) (by kernel_rfl) (fun _ => Q_move rfl rfl) ?_
          refine JA_split 88 rfl (fun h181 => ?_) (fun h181 => ?_)
          · exfalso; omega
          · exfalso; omega
        · refine C_exit (X_then (X_then (X_hit (body_end (res0 rfl) ?_))))
          refine range_none hS171 72 rfl (fun h => nomatch h) (fun w182 hS182 => ?_) _
          refine id (N_blk (K_seq ?_))
          refine C_seq ?_
          refine C_region ?_
          refine J_q 99 rfl rfl rfl rfl (Q_ldB1' (k := 70) hS182 rfl rfl rfl Try.isAgg3 rfl) ?_
          refine J_q 100 rfl rfl rfl rfl (Q_ldB1' (k := 12) hS182 rfl rfl rfl Try.isAgg43 rfl) ?_
          refine J_q 101 rfl rfl rfl rfl (Q_toI (i' := 0) (Q_len rfl rfl Try.underlying43) (by decide)) ?_
          refine J_q 102 rfl rfl rfl rfl (Q_eql rfl rfl rfl) ?_
          refine J_q 103 rfl rfl rfl rfl (Q_move rfl rfl) ?_
          refine J_split 103 rfl (fun h183 => ?_) (fun h183 => ?_)
          · refine J_q 104 rfl rfl rfl rfl (Q_ldB1' (k := 50) hS182 rfl rfl rfl Try.isAgg3 rfl) ?_
            refine J_q 105 rfl rfl rfl rfl (Q_ldB1' (k := 12) hS182 rfl rfl rfl Try.isAgg43 rfl) ?_
            refine J_q 106 rfl rfl rfl rfl (Q_toI (i' := 0) (Q_len rfl rfl Try.underlying43) (by decide)) ?_
            refine J_q 107 rfl rfl rfl rfl (Q_eql rfl rfl rfl) ?_
            refine J_q 108 rfl rfl rfl rfl (Q_move rfl rfl) ?_
            refine J_split 108 rfl (fun h184 => ?_) (fun h184 => ?_)
            · refine J_no rfl rfl rfl ?_
              refine J_no rfl rfl rfl ?_
              refine J_no rfl rfl rfl ?_
              refine J_q 112 rfl rfl rfl rfl (Q_pickT rfl rfl rfl) ?_
              refine J_q 113 rfl rfl rfl rfl (Q_pickT rfl rfl rfl) ?_
              refine J_q 114 rfl rfl rfl rfl (Q_move rfl rfl) ?_
              refine J_call 115 rfl rfl rfl rfl (T_call rfl rfl rfl Try.call30) (awake_calls _) ?_
              rintro _ w185 ⟨rfl, hk185⟩
              have hS185 := hS182.kp0 hk185
              refine ⟨_, rfl, ?_⟩
              refine J_q 116 rfl rfl rfl rfl (Q_pickT rfl rfl rfl) ?_
              refine J_do0 rfl rfl rfl rfl (D_store' (k := 2) hS185 rfl rfl rfl rfl Try.sizeOf4 rfl rfl rfl (fun w186 hS186 => ?_))
              refine J_nil (K_seq ?_)
              refine C_ret (bodyM_ret (w0 := w) ?_)
              refine .cons 73 hS186 rfl (fun w187 hS187 => ?_)
              refine .cons 53 hS187 rfl (fun w188 hS188 => ?_)
              refine marks_end (resG (vs := [.bool true]) rfl ⟨rC1 (blk_cells (k := 2) hS188 rfl) rfl Try.isAgg4 rfl, trivial⟩) ?_
              exact ⟨rfl, hS188.kept (k := 0) rfl⟩
            · refine J_q 109 rfl rfl rfl rfl (Q_ldB1' (k := 50) hS182 rfl rfl rfl Try.isAgg3 rfl) ?_
              refine J_q 110 rfl rfl rfl rfl (Q_ldB1' (k := 1) hS182 rfl rfl rfl Try.isAgg3 rfl) ?_
              refine J_q 111 rfl rfl rfl rfl (Q_eql rfl rfl rfl) ?_
              refine J_q 112 rfl rfl rfl rfl (Q_pickF rfl rfl rfl) ?_
              refine J_q 113 rfl rfl rfl rfl (Q_pickT rfl rfl rfl) ?_
              refine J_q 114 rfl rfl rfl rfl (Q_move rfl rfl) ?_
              refine J_split 114 rfl (fun h189 => ?_) (fun h189 => ?_)
              · refine J_call 115 rfl rfl rfl rfl (T_call rfl rfl rfl Try.call30) (awake_calls _) ?_
                rintro _ w190 ⟨rfl, hk190⟩
                have hS190 := hS182.kp0 hk190
                refine ⟨_, rfl, ?_⟩
                refine J_q 116 rfl rfl rfl rfl (Q_pickT rfl rfl rfl) ?_
                refine J_do0 rfl rfl rfl rfl (D_store' (k := 2) hS190 rfl rfl rfl rfl Try.sizeOf4 rfl rfl rfl (fun w191 hS191 => ?_))
                refine J_nil (K_seq ?_)
                refine C_ret (bodyM_ret (w0 := w) ?_)
                refine .cons 73 hS191 rfl (fun w192 hS192 => ?_)
                refine .cons 53 hS192 rfl (fun w193 hS193 => ?_)
                refine marks_end (resG (vs := [.bool true]) rfl ⟨rC1 (blk_cells (k := 2) hS193 rfl) rfl Try.isAgg4 rfl, trivial⟩) ?_
                exact ⟨rfl, hS193.kept (k := 0) rfl⟩
              · exfalso; omega
          · exfalso; omega
end Go.Proofs.Ytceeellnjckmiaa

/- What comes in, opened: from the reading of an argument to what its cells read as. -/
namespace Go.Proofs.Ytceeellnjckmiaa.opens
open Go Go.Sl Go.ChangeShapes Go.WideShapes Go.RowKit

theorem one_le {H : Type} (d : DataW H) : 1 ≤ Rows.uptoBulk d := by
  cases d with
  | lit l => cases l <;> simp [Rows.uptoBulk]
  | _ => simp [Rows.uptoBulk]
theorem part_le {H : Type} {d : DataW H} {l : List (DataW H)} (h : d ∈ l) : Rows.uptoBulk d ≤ Rows.uptoBulkAll l := by
  induction l with
  | nil => cases h
  | cons x r ih =>
    simp only [Rows.uptoBulkAll]
    cases List.mem_cons.1 h with
    | inl e => subst e; omega
    | inr e => have := ih e; omega
theorem length_le {H : Type} (l : List (DataW H)) : l.length ≤ Rows.uptoBulkAll l := by
  induction l with
  | nil => simp [Rows.uptoBulkAll]
  | cons x r ih => have := one_le x; simp only [Rows.uptoBulkAll, List.length_cons]; omega
theorem bulk_slice {H : Type} (a b : List (DataW H)) : Rows.uptoBulk (DataW.slice a b) = Rows.uptoBulkAll a + Rows.uptoBulkAll b + 1 := by simp [Rows.uptoBulk]
theorem bulk_agg {H : Type} (a : List (DataW H)) : Rows.uptoBulk (DataW.agg a) = Rows.uptoBulkAll a + 1 := by simp [Rows.uptoBulk]

/-- What reads at this type (and is small) reads as d says. -/
def Opens {α : Type} (t : TypeId) (d : Ty α) : Prop := ∀ (H : Type) (enc : TypeId × Value → H) (w : World) (sp : Nat → Bool) (hd : Bool) (fuel : Nat) (cs : List Value) (x : DataW H × List MemPlace),
  DataW.trod enc Try.prog w 0 sp hd fuel t cs = some x → Rows.uptoBulk x.1 ≤ 1048576 → ∃ a, d.rd w cs a

theorem cells_at {w : World} {ad : Addr} {n : Nat} {cs : List Value} (h : w.cells? 0 ad n = some cs) : CellsAt w ad cs := by
  intro j v hv
  unfold World.cells? at h
  rw [if_pos (Nat.zero_le _)] at h
  have hl := mapM_some_length h
  have hj : j < n := by have := (List.getElem?_eq_some_iff.1 hv).1; simp at hl; omega
  rw [mapM_some_get h j j (by simp [hj]), hv]

theorem wf_in {a : Int} (h : (Lit.int .i64 a).wf = true) : InR a := by
  simp [Lit.wf, IntKind.min, IntKind.max, IntKind.signed, IntKind.bits] at h
  constructor <;> omega

theorem opens_int : Opens 3 tI := by
  intro H enc w sp hd fuel cs x h _
  obtain ⟨n, rfl, _, hw⟩ := DataW.trod_int Try.underlying3 h
  exact ⟨n, rfl, wf_in hw⟩
theorem str_le {H : Type} {s : ByteArray} (h : Rows.uptoBulk (DataW.lit (H := H) (.string s.data.toList)) ≤ 1048576) : s.size ≤ 140737488355328 := by
  simp only [Rows.uptoBulk, Array.length_toList] at h
  show s.data.size ≤ _
  omega
theorem opens_str : Opens 9 tS := by
  intro H enc w sp hd fuel cs x h hb
  obtain ⟨n, rfl, rfl, hw⟩ := DataW.trod_string Try.underlying9 h
  exact ⟨n, rfl, str_le hb⟩
set_option maxRecDepth 100000 in
theorem opens_st : Opens 23 tSt := by
  intro H enc w sp hd fuel cs x h _
  obtain ⟨y0, y1, n, rfl, hl, h0, h1⟩ := trod_struct2 Try.underlying23 h
  obtain ⟨a0, e0, _, w0⟩ := DataW.trod_int Try.underlying3 h0
  obtain ⟨a1, e1, _, w1⟩ := DataW.trod_int Try.underlying3 h1
  rw [show Try.prog.cellsOf 23 = 2 by kernel_rfl] at hl
  rw [show Try.prog.cellsOf 3 = 1 by kernel_rfl] at e0 e1
  match cs, hl with
  | [c0, c1], _ => simp at e0 e1; subst e0 e1; exact ⟨⟨a0, a1⟩, rfl, wf_in w0, wf_in w1⟩
set_option maxRecDepth 100000 in
theorem opens_slice {α : Type} {t e : TypeId} {d : Ty α} (ht : Try.prog.underlying t = some (.slice e)) (hc : Try.prog.cellsOf e = d.sz) (ho : Opens e d) : Opens t (tSl d) := by
  intro H enc w sp hd fuel cs x h hb
  rcases Go.Deep.open_slice ht h with ⟨rfl, rfl⟩ | ⟨a, len, cap, m, n, D, Pl, hcs, h8, hlc, h9, hm, hx, hel⟩
  rotate_left
  subst hcs hx
  rotate_right
  · exact ⟨[], none, 0, rfl, Nat.le_refl _, Nat.zero_le _, fun i x hx => by simp at hx⟩
  · have hlm : len ≤ m := by rw [hm]; split <;> omega
    have hb1 := hb
    simp only [bulk_slice] at hb1
    have hll := length_le ((List.range len).map D)
    simp at hll
    have hE : ∀ i, i < len → ∃ y, ∃ cs', CellsAt w (a.add (i * d.sz)) cs' ∧ d.rd w cs' y := by
      intro i hi
      obtain ⟨cs', h1, h2⟩ := hel i (by omega)
      have hp := part_le (d := D i) (l := (List.range len).map D) (List.mem_map.2 ⟨i, by simpa using hi, rfl⟩)
      obtain ⟨y, hy⟩ := ho H enc w sp hd n cs' _ h2 (by show Rows.uptoBulk (D i) ≤ _; omega)
      exact ⟨y, cs', cells_at (by rw [← hc]; exact h1), hy⟩
    have hX : ∃ xs : List α, xs.length = len ∧ ∀ i x, xs[i]? = some x → ∃ cs', CellsAt w (a.add (i * d.sz)) cs' ∧ d.rd w cs' x := by
      clear hel hb hb1 hll hlm hm hlc h
      induction len with
      | zero => exact ⟨[], rfl, fun i x hx => by simp at hx⟩
      | succ k ih =>
        obtain ⟨xs, hl, hx⟩ := ih (fun i hi => hE i (by omega))
        obtain ⟨y, hy⟩ := hE k (by omega)
        refine ⟨xs ++ [y], by simp [hl], fun i x hi => ?_⟩
        by_cases hik : i < xs.length
        · rw [List.getElem?_append_left hik] at hi; exact hx i x hi
        · have h2 := (List.getElem?_eq_some_iff.1 hi).1
          simp at h2
          obtain rfl : i = k := by omega
          rw [List.getElem?_append_right (by omega), hl] at hi
          simp at hi; subst hi; exact hy
    obtain ⟨xs, rfl, hx⟩ := hX
    refine ⟨xs, some a, cap, rfl, hlc, by unfold maxL; omega, fun i x hi => ?_⟩
    obtain ⟨cs', h1, h2⟩ := hx i x hi
    exact ⟨a, cs', rfl, h1, h2⟩
theorem opens_ints : Opens 44 (tSl tI) := opens_slice Try.underlying44 (by kernel_rfl) opens_int
set_option maxRecDepth 100000 in
theorem opens_ch : Opens 55 tCh := by
  intro H enc w sp hd fuel cs x h hb
  obtain ⟨xs, n, _, rfl, hl, hlen, hf⟩ := DataW.trod_struct Try.underlying55 h
  match xs, hlen with
  | [y0, y1, y2, y3, y4, y5, y6, y7, y8], _ =>
    have g0 : DataW.trod enc Try.prog w 0 sp hd n 23 ((cs.drop 0).take (Try.prog.cellsOf 23)) = some y0 := hf 0 _ rfl
    have g1 : DataW.trod enc Try.prog w 0 sp hd n 3 ((cs.drop 2).take (Try.prog.cellsOf 3)) = some y1 := hf 1 _ rfl
    have g2 : DataW.trod enc Try.prog w 0 sp hd n 44 ((cs.drop 3).take (Try.prog.cellsOf 44)) = some y2 := hf 2 _ rfl
    have g3 : DataW.trod enc Try.prog w 0 sp hd n 3 ((cs.drop 4).take (Try.prog.cellsOf 3)) = some y3 := hf 3 _ rfl
    have g4 : DataW.trod enc Try.prog w 0 sp hd n 23 ((cs.drop 5).take (Try.prog.cellsOf 23)) = some y4 := hf 4 _ rfl
    have g5 : DataW.trod enc Try.prog w 0 sp hd n 23 ((cs.drop 7).take (Try.prog.cellsOf 23)) = some y5 := hf 5 _ rfl
    have g6 : DataW.trod enc Try.prog w 0 sp hd n 23 ((cs.drop 9).take (Try.prog.cellsOf 23)) = some y6 := hf 6 _ rfl
    have g7 : DataW.trod enc Try.prog w 0 sp hd n 9 ((cs.drop 11).take (Try.prog.cellsOf 9)) = some y7 := hf 7 _ rfl
    have g8 : DataW.trod enc Try.prog w 0 sp hd n 9 ((cs.drop 12).take (Try.prog.cellsOf 9)) = some y8 := hf 8 _ rfl
    clear hf
    have hb2 := part_le (d := y2.1) (l := [y0.1, y1.1, y2.1, y3.1, y4.1, y5.1, y6.1, y7.1, y8.1]) (by simp)
    have hb0 := part_le (d := y0.1) (l := [y0.1, y1.1, y2.1, y3.1, y4.1, y5.1, y6.1, y7.1, y8.1]) (by simp)
    have hb4 := part_le (d := y4.1) (l := [y0.1, y1.1, y2.1, y3.1, y4.1, y5.1, y6.1, y7.1, y8.1]) (by simp)
    have hb5 := part_le (d := y5.1) (l := [y0.1, y1.1, y2.1, y3.1, y4.1, y5.1, y6.1, y7.1, y8.1]) (by simp)
    have hb7 := part_le (d := y7.1) (l := [y0.1, y1.1, y2.1, y3.1, y4.1, y5.1, y6.1, y7.1, y8.1]) (by simp)
    have hb8 := part_le (d := y8.1) (l := [y0.1, y1.1, y2.1, y3.1, y4.1, y5.1, y6.1, y7.1, y8.1]) (by simp)
    have hb6 := part_le (d := y6.1) (l := [y0.1, y1.1, y2.1, y3.1, y4.1, y5.1, y6.1, y7.1, y8.1]) (by simp)
    have hbb : Rows.uptoBulkAll [y0.1, y1.1, y2.1, y3.1, y4.1, y5.1, y6.1, y7.1, y8.1] + 1 ≤ 1048576 := by rw [← bulk_agg]; exact hb
    obtain ⟨a0, e0, w0⟩ := opens_st H enc w sp hd n _ _ g0 (by omega)
    obtain ⟨a1, e1, _, w1⟩ := DataW.trod_int Try.underlying3 g1
    obtain ⟨a2, A2, c2, e2, d2, l2, r2⟩ := opens_ints H enc w sp hd n _ _ g2 (by omega)
    obtain ⟨a3, e3, _, w3⟩ := DataW.trod_int Try.underlying3 g3
    obtain ⟨a4, e4, w4⟩ := opens_st H enc w sp hd n _ _ g4 (by omega)
    obtain ⟨a5, e5, w5⟩ := opens_st H enc w sp hd n _ _ g5 (by omega)
    obtain ⟨a6, e6, w6⟩ := opens_st H enc w sp hd n _ _ g6 (by omega)
    obtain ⟨a7, e7, w7⟩ := opens_str H enc w sp hd n _ _ g7 (by omega)
    obtain ⟨a8, e8, w8⟩ := opens_str H enc w sp hd n _ _ g8 (by omega)
    rw [show Try.prog.cellsOf 55 = 13 by kernel_rfl] at hl
    rw [show Try.prog.cellsOf 23 = 2 by kernel_rfl] at e0 e4 e5 e6
    rw [show Try.prog.cellsOf 3 = 1 by kernel_rfl] at e1 e3
    rw [show Try.prog.cellsOf 44 = 1 by kernel_rfl] at e2
    rw [show Try.prog.cellsOf 9 = 1 by kernel_rfl] at e7 e8
    match cs, hl with
    | [c0, c1, c2', c3, c4, c5, c6, c7, c8, c9, c10, c11, c12], _ =>
      simp [stL] at e0 e1 e2 e3 e4 e5 e6 e7 e8
      obtain ⟨rfl, rfl⟩ := e0; obtain ⟨rfl, rfl⟩ := e4; obtain ⟨rfl, rfl⟩ := e5; obtain ⟨rfl, rfl⟩ := e6
      subst e1 e2 e3 e7 e8
      exact ⟨⟨a0, a1, a2, a3, a4, a5, a6, a7, a8⟩, A2, c2, rfl, ⟨A2, c2, rfl, d2, l2, r2⟩, ⟨w0, wf_in w1, wf_in w3, w4, w5, w6, w7, w8⟩⟩
theorem opens_chs : Opens 43 (tSl tCh) := opens_slice Try.underlying43 (by kernel_rfl) opens_ch
/-- .. of a value whose cells are one. -/
theorem one_cell {α : Type} {t : TypeId} {d : Ty α} (ho : Opens t d) {H : Type} {enc : TypeId × Value → H} {w : World} {sp : Nat → Bool} {hd : Bool} {v : Value} {y : DataW H} {p : List MemPlace} (h : DataW.Trod enc Try.prog w 0 sp hd t v y p) (hb : Rows.uptoBulk y ≤ 1048576) : ∃ a, d.rd w v.cells.toList a := by
  obtain ⟨fuel, hf⟩ := h
  exact ho H enc w sp hd fuel _ _ hf hb
set_option maxRecDepth 100000 in
theorem open_ask {H : Type} {enc : TypeId × Value → H} {w : World} {sp : Nat → Bool} {hd : Bool} {v : Value} {y : DataW H} {p : List MemPlace} (h : DataW.Trod enc Try.prog w 0 sp hd 62 v y p) : ∃ a b c d : Int, v.cells.toList = [.int .i64 a, .int .i64 b, .int .i64 c, .int .i64 d] ∧ InR a ∧ InR b := by
  obtain ⟨fuel, hf⟩ := h
  obtain ⟨xs, n, _, _, hl, hlen, hf⟩ := DataW.trod_struct Try.underlying62 hf
  match xs, hlen with
  | [y0, y1, y2], _ =>
    have g0 : DataW.trod enc Try.prog w 0 sp hd n 23 ((v.cells.toList.drop 0).take (Try.prog.cellsOf 23)) = some y0 := hf 0 _ rfl
    have g1 : DataW.trod enc Try.prog w 0 sp hd n 3 ((v.cells.toList.drop 2).take (Try.prog.cellsOf 3)) = some y1 := hf 1 _ rfl
    have g2 : DataW.trod enc Try.prog w 0 sp hd n 3 ((v.cells.toList.drop 3).take (Try.prog.cellsOf 3)) = some y2 := hf 2 _ rfl
    clear hf
    obtain ⟨_, _, m, _, hl0, h0, h1⟩ := trod_struct2 Try.underlying23 g0
    obtain ⟨a0, e0, _, w0⟩ := DataW.trod_int Try.underlying3 h0
    obtain ⟨a1, e1, _, w1⟩ := DataW.trod_int Try.underlying3 h1
    obtain ⟨a2, e2, _, w2⟩ := DataW.trod_int Try.underlying3 g1
    obtain ⟨a3, e3, _, w3⟩ := DataW.trod_int Try.underlying3 g2
    rw [show Try.prog.cellsOf 62 = 4 by kernel_rfl] at hl
    rw [show Try.prog.cellsOf 3 = 1 by kernel_rfl] at e0 e1 e2 e3
    rw [show Try.prog.cellsOf 23 = 2 by kernel_rfl] at e0 e1
    generalize v.cells.toList = cs at *
    match cs, hl with
    | [c0, c1, c2, c3], _ =>
      simp at e0 e1 e2 e3
      subst e0 e1 e2 e3
      exact ⟨a0, a1, a2, a3, rfl, wf_in w0, wf_in w1⟩
end Go.Proofs.Ytceeellnjckmiaa.opens

/- The row of OplogGoes. -/
namespace Go.Proofs.Ytceeellnjckmiaa.oplogGoes
open Go Go.Sl Go.ChangeShapes Go.WideShapes Go.ChangeAt Go.RowKit
open Go.ChangeMaps (open_string shut_string)
set_option maxRecDepth 100000
theorem own : ownKnob Try.prog.godebug = none := by kernel_rfl
theorem laidOut : laidOutB Try.prog = true := by kernel_rfl
theorem lifted (os : Os) (started : os.Started) (H : Type) (enc : TypeId × Value → H) (F : Stop.Interp) :
    ReturnsInHanded {} Try.checked os 4 .any ((Rows.OpenSpec.upto Rows.oplogGoesSpec).pre6 enc Try.prog Try.f4 Rows.oplogGoesUptoRow.domain false) (((Rows.OpenSpec.upto Rows.oplogGoesSpec).at F).post enc Try.prog Try.f4 false true false false) := by
  refine returnsInHanded_of_cond (C := Try.checked) (s := (Rows.OpenSpec.upto Rows.oplogGoesSpec)) (k := Rows.uptoSmall) rfl own started (by kernel_rfl) Try.func4
    (OpenSpec.witness (enc := enc) (C := Try.checked) (s := (Rows.OpenSpec.upto Rows.oplogGoesSpec)) (k := Rows.uptoSmall) rfl false ⟨#[], #[.slice none 0 0, .slice none 0 0, .int .i64 0], []⟩ 8 (by kernel_rfl) (by kernel_rfl) (by kernel_rfl)
      (x := ([.nil, .nil, .lit (.int .i64 0)], [], [])) (by kernel_rfl) rfl (by kernel_rfl)) ?_
  intro W base args ds gs before hval0 hW _ hk _
  have hval : ∀ (j : Nat) t v, Try.f4.params[j]? = some t → args[j]? = some v → Value.okWide Try.prog W .any base t v := hval0
  have hW' := hW
  obtain ⟨p, q, hA0, hV, rfl, hfz, hnd⟩ := hW
  have hA : DataW.TrodAll enc Try.prog W 0 (fun _ => true) true Try.f4.params.toList args.toList ds p := hA0
  rw [Try.params4] at hA hval
  obtain ⟨v0, vs0, d0, ds0, p0, q0, hargs, rfl, rfl, h0, r0⟩ := trodAll_cons hA
  obtain ⟨v1, vs1, d1, ds1, p1, q1, rfl, rfl, rfl, h1, r1⟩ := trodAll_cons r0
  obtain ⟨v2, vs2, d2, ds2, p2, q2, rfl, rfl, rfl, h2, r2⟩ := trodAll_cons r1
  obtain ⟨rfl, rfl, rfl⟩ := trodAll_nil r2
  obtain rfl : args = #[v0, v1, v2] := by cases args; simp_all
  obtain ⟨rfl, rfl⟩ := trodVars_none hV
  have hb : Rows.uptoBulkAll [d0, d1, d2] ≤ 1048576 := of_decide_eq_true hk
  have lt0 : ∀ x ∈ p0, x.block < W.heap.size := by obtain ⟨m, hm⟩ := h0; exact DataW.trod_lt m _ _ _ hm
  have hb0 := opens.part_le (d := d0) (l := [d0, d1, d2]) (by simp)
  obtain ⟨x0, hx0⟩ := opens.one_cell opens.opens_chs h0 (Nat.le_trans hb0 hb)
  obtain ⟨a0, len0, cap0, rfl⟩ := okWide_slice Try.underlying43 (hval 0 43 v0 rfl rfl)
  have hy0 : (tSl tCh).rd W [.slice a0 len0 cap0] x0 := by simpa [Value.cells] using hx0
  have lt1 : ∀ x ∈ p1, x.block < W.heap.size := by obtain ⟨m, hm⟩ := h1; exact DataW.trod_lt m _ _ _ hm
  have hb1 := opens.part_le (d := d1) (l := [d0, d1, d2]) (by simp)
  obtain ⟨x1, hx1⟩ := opens.one_cell opens.opens_ints h1 (Nat.le_trans hb1 hb)
  obtain ⟨a1, len1, cap1, rfl⟩ := okWide_slice Try.underlying44 (hval 1 44 v1 rfl rfl)
  have hy1 : (tSl tI).rd W [.slice a1 len1 cap1] x1 := by simpa [Value.cells] using hx1
  have lt2 : ∀ x ∈ p2, x.block < W.heap.size := by obtain ⟨m, hm⟩ := h2; exact DataW.trod_lt m _ _ _ hm
  have hb2 := opens.part_le (d := d2) (l := [d0, d1, d2]) (by simp)
  obtain ⟨x2, hx2⟩ := opens.one_cell opens.opens_int h2 (Nat.le_trans hb2 hb)
  obtain ⟨n2, rfl⟩ := okWide_int Try.underlying3 (hval 2 3 v2 rfl rfl)
  obtain ⟨hx2a, hx2b⟩ := hx2
  simp [Value.cells] at hx2a
  subst hx2a
  clear hA0 hval0
  refine (OplogGoes_calls W _ x0 hy0 _ x1 hy1 n2).mono fun e W' ⟨he, hk⟩ => ?_
  subst he
  have bel := hk.below
  exact ⟨_, rfl, _, _, _, [], _, [], hW', trodAll_mk1 (shut_bool Try.underlying4 _), (trodAll_cons_mk (Below.trod laidOut (by kernel_rfl) (of_decide_eq_true (by kernel_rfl)) h0 bel lt0) (trodAll_cons_mk (Below.trod laidOut (by kernel_rfl) (of_decide_eq_true (by kernel_rfl)) h1 bel lt1) (trodAll_cons_mk (Below.trod laidOut (by kernel_rfl) (of_decide_eq_true (by kernel_rfl)) h2 bel lt2) trodAll_mk0))), rfl, bel.frame _, fun h => by cases h⟩
theorem over : Rows.oplogGoesUptoRow.holds Try.pinned (Rows.OpenSpec.upto Rows.oplogGoesSpec) :=
  OpenClaim.holds_of_cond 4 Try.f4 rfl rfl rfl rfl rfl rfl rfl ⟨rfl, rfl, rfl, rfl, rfl⟩ rfl rfl rfl rfl rfl (by kernel_rfl) Try.func4 (by kernel_rfl)
    (of_decide_eq_true (by kernel_rfl)) (by unfold Func.isWrapper; first | (rw [if_pos (by decide +kernel)]; kernel_rfl) | (rw [if_neg (by decide +kernel)]; exact ⟨rfl, rfl⟩))
    (fun os started H enc _ F => lifted os started H enc F)
end Go.Proofs.Ytceeellnjckmiaa.oplogGoes
namespace Go.Proofs.Ytceeellnjckmiaa
theorem oplogGoes_holds : Rows.OplogGoesUptoSaid := oplogGoes.over
end Go.Proofs.Ytceeellnjckmiaa

