/- The texts Le, Sl29, Sl30, Lf, Lg, Sl28, WAdds, merged. Proved: what their theorems say, with no condition but those written. -/
import Derived.Test.YtceeellnjckmiaaRows
import Derived.JoinedCond
import Derived.Deep.Slices
import Derived.WalkKit
import Derived.ProofKit
import Derived.OpenShut
import Derived.ShutString
import Derived.ChangeOld
import Derived.Below
import Derived.Carry
import Derived.Test.YtceeellnjckmiaaBase7
/- Printed by a program of mine (gen.py). -/
set_option linter.unusedVariables false
set_option linter.unusedSimpArgs false
set_option maxRecDepth 100000
namespace Go.Proofs.Ytceeellnjckmiaa
open Go Go.Sl
theorem RCopyO_calls (w : World) (l_c : List Value) (c : Change) (h_c : tCh.rd w l_c c) :
    Calls Try.prog 45 #[.agg l_c.toArray] w fun e w' => ∃ A cap fl, e = .returned (.agg (chL c A cap).toArray) ∧ Kp no w w' ∧ w'.ownsRow 0 3 1 (.slice A c.deps.length cap) c.deps.length fl ∧ Reps tI w no c.deps fl ∧ (∀ b, (Value.slice A c.deps.length cap).ownBlock = some b → nw w w' b) ∧ ChOk c := by
  have hS0 := St.start w
  have hF_c := RdF.of_rd h_c
  obtain ⟨A_c, cap_c, rfl, hd_c, ho_c⟩ := openCh hF_c
  have hln_c := RdF.lens hd_c
  have hsq_c := ho_c.seq
  refine fn_calls' 9 (args := [_]) Try.func45 rfl rfl rfl ?_
  refine C_seq ?_
  refine C_region ?_
  refine J_do 1 rfl rfl rfl rfl (D_box 1 hS0 rfl rfl (fun g1 w1 hS1 => ?_))
  refine J_do 2 rfl rfl rfl rfl (D_alloc 2 hS1 rfl Try.zeroValue55 (fun g2 w2 hS2 => ?_))
  refine J_nil (K_seq ?_)
  refine C_seq ?_
  refine C_region ?_
  refine J_do 3 rfl rfl rfl rfl (D_bs (e := 3) (ps := []) 3 ([]) hS2 rfl rfl (fun _ => by kernel_rfl) (fun g3 w3 hS3 => ?_))
  refine J_q 4 rfl rfl rfl rfl (Q_fa0 rfl rfl fo55_2) ?_
  refine J_q 5 rfl rfl rfl rfl (Q_ldB1 (k := 1) hS3 rfl rfl rfl Try.isAgg44 rfl) ?_
  have hS4 := hS3.lit0 (sz := 1) 3 rfl
  refine J_do 6 rfl rfl rfl rfl (D_appSL ([]) c.deps app44 hS4 3 rfl 0 rfl rfl rfl rfl hd_c (by first | omega | (simp only [List.length_nil, List.length_append, List.length_cons]; omega)) (by first | omega | (simp only [List.length_nil, List.length_append, List.length_cons]; omega)) (fun A5 cap5 gl5 w5 hR5 hc5 hS5 => ?_))
  have hR5 := Reps.int (W' := w) hR5
  refine J_q 7 rfl rfl rfl rfl (Q_fa0 rfl rfl fo55_2) ?_
  refine J_do0 rfl rfl rfl rfl (D_store (k := 1) hS5 rfl rfl rfl rfl Try.sizeOf44 rfl rfl rfl (fun w6 hS6 => ?_))
  refine J_nil (K_seq ?_)
  refine C_seq ?_
  refine C_region ?_
  refine J_q 8 rfl rfl rfl rfl (Q_ldBK' (k := 1) ([.int .i64 c.at_.c, .int .i64 c.at_.r, .int .i64 c.seq, .slice A5 (([] ++ c.deps).length) cap5, .int .i64 c.kind, .int .i64 c.node.c, .int .i64 c.node.r, .int .i64 c.par.c, .int .i64 c.par.r, .int .i64 c.aft.c, .int .i64 c.aft.r, .string c.name, .string c.val]) hS6 rfl rfl rfl Try.isAgg55 Try.sizeOf55 rfl rfl) ?_
  refine J_do0 rfl rfl rfl rfl (D_store' (k := 2) hS6 rfl rfl rfl rfl Try.sizeOf55 rfl rfl rfl (fun w7 hS7 => ?_))
  refine J_nil (K_seq ?_)
  refine C_ret (body_ret (resG (vs := [.agg ([.int .i64 c.at_.c, .int .i64 c.at_.r, .int .i64 c.seq, .slice A5 (([] ++ c.deps).length) cap5, .int .i64 c.kind, .int .i64 c.node.c, .int .i64 c.node.r, .int .i64 c.par.c, .int .i64 c.par.r, .int .i64 c.aft.c, .int .i64 c.aft.r, .string c.name, .string c.val]).toArray]) rfl ⟨rCK ([.int .i64 c.at_.c, .int .i64 c.at_.r, .int .i64 c.seq, .slice A5 (([] ++ c.deps).length) cap5, .int .i64 c.kind, .int .i64 c.node.c, .int .i64 c.node.r, .int .i64 c.par.c, .int .i64 c.par.r, .int .i64 c.aft.c, .int .i64 c.aft.r, .string c.name, .string c.val]) (blk_cells (k := 2) hS7 rfl) rfl Try.isAgg55 Try.sizeOf55 rfl rfl, trivial⟩) ?_)
  exact ⟨_, _, _, rfl, hS7.kept (k := 0) rfl, hS7.get (k := 3) rfl, (Reps.append (Reps.nil _ w _) hR5), fun b hb => hS7.fresh (k := 3) rfl rfl rfl b hb, ho_c⟩

theorem CCopyO_calls (w : World) (l_c : List Value) (c : Change) (h_c : tCh.rd w l_c c) :
    Calls Try.prog 67 #[.agg l_c.toArray] w fun e w' => ∃ A cap fl, e = .returned (.agg (chL c A cap).toArray) ∧ Kp no w w' ∧ w'.ownsRow 0 3 1 (.slice A c.deps.length cap) c.deps.length fl ∧ Reps tI w no c.deps fl ∧ (∀ b, (Value.slice A c.deps.length cap).ownBlock = some b → nw w w' b) ∧ ChOk c := by
  have hS0 := St.start w
  have hF_c := RdF.of_rd h_c
  obtain ⟨A_c, cap_c, rfl, hd_c, ho_c⟩ := openCh hF_c
  have hln_c := RdF.lens hd_c
  have hsq_c := ho_c.seq
  refine fn_calls' 9 (args := [_]) Try.func67 rfl rfl rfl ?_
  refine C_seq ?_
  refine C_region ?_
  refine J_do 1 rfl rfl rfl rfl (D_box 1 hS0 rfl rfl (fun g1 w1 hS1 => ?_))
  refine J_do 2 rfl rfl rfl rfl (D_alloc 2 hS1 rfl Try.zeroValue55 (fun g2 w2 hS2 => ?_))
  refine J_nil (K_seq ?_)
  refine C_seq ?_
  refine C_region ?_
  refine J_do 3 rfl rfl rfl rfl (D_bs (e := 3) (ps := []) 3 ([]) hS2 rfl rfl (fun _ => by kernel_rfl) (fun g3 w3 hS3 => ?_))
  refine J_q 4 rfl rfl rfl rfl (Q_fa0 rfl rfl fo55_2) ?_
  refine J_q 5 rfl rfl rfl rfl (Q_ldB1 (k := 1) hS3 rfl rfl rfl Try.isAgg44 rfl) ?_
  have hS4 := hS3.lit0 (sz := 1) 3 rfl
  refine J_do 6 rfl rfl rfl rfl (D_appSL ([]) c.deps app44 hS4 3 rfl 0 rfl rfl rfl rfl hd_c (by first | omega | (simp only [List.length_nil, List.length_append, List.length_cons]; omega)) (by first | omega | (simp only [List.length_nil, List.length_append, List.length_cons]; omega)) (fun A5 cap5 gl5 w5 hR5 hc5 hS5 => ?_))
  have hR5 := Reps.int (W' := w) hR5
  refine J_q 7 rfl rfl rfl rfl (Q_fa0 rfl rfl fo55_2) ?_
  refine J_do0 rfl rfl rfl rfl (D_store (k := 1) hS5 rfl rfl rfl rfl Try.sizeOf44 rfl rfl rfl (fun w6 hS6 => ?_))
  refine J_nil (K_seq ?_)
  refine C_seq ?_
  refine C_region ?_
  refine J_q 8 rfl rfl rfl rfl (Q_ldBK' (k := 1) ([.int .i64 c.at_.c, .int .i64 c.at_.r, .int .i64 c.seq, .slice A5 (([] ++ c.deps).length) cap5, .int .i64 c.kind, .int .i64 c.node.c, .int .i64 c.node.r, .int .i64 c.par.c, .int .i64 c.par.r, .int .i64 c.aft.c, .int .i64 c.aft.r, .string c.name, .string c.val]) hS6 rfl rfl rfl Try.isAgg55 Try.sizeOf55 rfl rfl) ?_
  refine J_do0 rfl rfl rfl rfl (D_store' (k := 2) hS6 rfl rfl rfl rfl Try.sizeOf55 rfl rfl rfl (fun w7 hS7 => ?_))
  refine J_nil (K_seq ?_)
  refine C_ret (body_ret (resG (vs := [.agg ([.int .i64 c.at_.c, .int .i64 c.at_.r, .int .i64 c.seq, .slice A5 (([] ++ c.deps).length) cap5, .int .i64 c.kind, .int .i64 c.node.c, .int .i64 c.node.r, .int .i64 c.par.c, .int .i64 c.par.r, .int .i64 c.aft.c, .int .i64 c.aft.r, .string c.name, .string c.val]).toArray]) rfl ⟨rCK ([.int .i64 c.at_.c, .int .i64 c.at_.r, .int .i64 c.seq, .slice A5 (([] ++ c.deps).length) cap5, .int .i64 c.kind, .int .i64 c.node.c, .int .i64 c.node.r, .int .i64 c.par.c, .int .i64 c.par.r, .int .i64 c.aft.c, .int .i64 c.aft.r, .string c.name, .string c.val]) (blk_cells (k := 2) hS7 rfl) rfl Try.isAgg55 Try.sizeOf55 rfl rfl, trivial⟩) ?_)
  exact ⟨_, _, _, rfl, hS7.kept (k := 0) rfl, hS7.get (k := 3) rfl, (Reps.append (Reps.nil _ w _) hR5), fun b hb => hS7.fresh (k := 3) rfl rfl rfl b hb, ho_c⟩
end Go.Proofs.Ytceeellnjckmiaa

/- Booleans that differ; what a log's Find and Own hold against the reference's. -/
namespace Go.Sl
open Go Go.RowKit
section
variable {P : Program} {o : Oper} {E : Env} {w : World} {x y : Operand} {t e : TypeId} {b c : Bool}
theorem Q_neqB' (ht : P.underlying t = some .bool) (ho : o.op = .binOp .neq t x y e) (hx : evalE E x = some (.bool b)) (hy : evalE E y = some (.bool c)) : Qt P o E w (.bool (!(b == c))) := fun nt D a ha => by
  have hg : ∀ w : World, (Op.equal t (.bool b) (.bool c)).run P w = .ok (b == c) w := fun w => by
    have hq : ∀ n, (Op.equalIn (n + 1) t (.bool b) (.bool c)).run P w = .ok (b == c) w := fun n => by simp [Op.equalIn, underlying, ht]
    exact hq 9999
  unfold execOp; rw [ho]; simp [ha.eval hx, ha.eval hy, eqGuard, binOp, hg]
end
theorem zero_rd (w : World) : tCh.rd w [.int .i64 0, .int .i64 0, .int .i64 0, .slice none 0 0, .int .i64 0, .int .i64 0, .int .i64 0, .int .i64 0, .int .i64 0, .int .i64 0, .int .i64 0, .string nostr, .string nostr] zeroCh := ⟨none, 0, rfl, rdNil _ _, zeroCh_ok⟩
section
variable {l : List Change} {r q : Int}
theorem Good.own_no (hg : Good l) (h : ¬ (r < 0 ∨ 64 ≤ r)) (h2 : ownAt l r q < 0) : ownE l r q = 4 ∧ ownC l r q = zeroCh := by
  have h3 := hg.own (r := r) (q := q)
  have h4 : ownE l r q = 4 := ownE_4 h (by omega)
  exact ⟨h4, ownC_no (by omega)⟩
theorem Good.own_yes (hg : Good l) (h : ¬ (r < 0 ∨ 64 ≤ r)) (h2 : ¬ ownAt l r q < 0) : ownE l r q = 0 ∧ ownC l r q = nth l (ownAt l r q) := by
  have h3 := (hg.own (r := r) (q := q)).1 (by omega)
  have h4 : ownE l r q = 0 := ownE_0 h (by omega)
  refine ⟨h4, ?_⟩
  rw [ownC_0 h4, ← hg.own_at h3.1 h3.2]
  obtain ⟨ho1, ho2, ho3⟩ := ownAt_at (l := l) (r := r) (q := q) (by omega)
  have hm : nth l (ownAt l r q) ∈ l := nth_mem (by omega) ho1
  have hf : 0 ≤ findAt l (nth l (ownAt l r q)).at_ := findAt_pos.2 ⟨_, hm, rfl⟩
  rw [findC_yes hf]
  exact at_uniq hg.rise (find_mem hf) hm (findAt_at hf).2
theorem own_out (h : r < 0 ∨ 64 ≤ r) : ownE l r q = 1 ∧ ownC l r q = zeroCh := ⟨ownE_1 h, ownC_no (by rw [ownE_1 h]; decide)⟩
end
end Go.Sl

/- Two loud operations of a region of open order that may come up in either order. -/
namespace Go.Sl
open Go Go.RowKit
section
variable {ro : Option Nat} {P : Program} {nt : Nat} {D : List Deferred} {ops : Array Oper} {I : World → Prop} {Q : Exit → Act → World → Prop} {E : Env} {w : World} {nA fuel : Nat} {listed : Array Bool} {o : Oper}
/-- Operation i comes up. -/
def JA1 (ro : Option Nat) (P : Program) (nt : Nat) (D : List Deferred) (ops : Array Oper) (I : World → Prop) (nA : Nat) (Q : Exit → Act → World → Prop) (fuel : Nat) (listed : Array Bool) (i : Nat) (E : Env) (w : World) : Prop :=
  ∀ a, Ag nt D E a → wpOpIn (Fw ro) 0 P ops QF i (fun a' w' => (Nat.blt i nA = true → I w → I w') ∧ wpJ ro P ops I (fun j => Nat.blt j nA) (Q .normal) fuel (listed.setIfInBounds i true) a' w') a w
theorem JA_two (i j : Nat) (hr : Region.ready .any ops listed = [i, j]) (h1 : JA1 ro P nt D ops I nA Q fuel listed i E w) (h2 : JA1 ro P nt D ops I nA Q fuel listed j E w) : JA ro P nt D ops I nA Q (fuel + 1) listed E w := fun a ha => by
  refine ⟨fun h => (by rw [hr] at h; cases h), fun k hk => ?_⟩
  rw [hr] at hk
  simp only [List.mem_cons, List.not_mem_nil, or_false] at hk
  rcases hk with rfl | rfl
  · exact h1 a ha
  · exact h2 a ha
theorem JA1_do (i : Nat) (d : Nat) (ho : ops[i]? = some o) (hf : fine ops o nt = true) (hw : wantsE ops o E = some true) (hd : o.dst = some d) (hr : 0 = 0)
    (hq : Does P o E w fun v w' => (Nat.blt i nA = true → I w') ∧ JA ro P nt D ops I nA Q fuel (listed.setIfInBounds i true) ((d, v) :: E) w') : JA1 ro P nt D ops I nA Q fuel listed i E w := fun a ha => by
  obtain ⟨nx, v, w', hrun, hnx, hI, hK⟩ := hq nt D a ha
  have ha' : Ag nt D ((d, v) :: E) (a.put o.dst v) := by
    have h := ha.after v hf
    unfold Sl.after at h
    rw [hd] at h ⊢
    exact h
  have h3 := hK _ ha'
  unfold wpOpIn
  simp only [ho, wanted_of ha hw (guardLt_of (fine_guard hf)), if_true, Oper.wpIn, fine_semAt hf, hrun]
  rcases hnx with rfl | ⟨rfl, rfl⟩
  · exact ⟨fun _ _ => trivial, fun h _ => hI h, h3⟩
  · exact ⟨fun _ _ => trivial, fun h _ => hI h, h3⟩
theorem JA1_call (i : Nat) (d : Nat) {f : FuncId} {args : Array Value} {R : Ending → World → Prop} (ho : ops[i]? = some o) (hf : fine ops o nt = true) (hw : wantsE ops o E = some true) (hd : o.dst = some d) (hr : 0 = 0)
    (hq : CallsTo P o E w f args) (hc : Calls P f args w R)
    (hk : ∀ e w', R e w' → ∃ v, e = .returned v ∧ (Nat.blt i nA = true → I w') ∧ JA ro P nt D ops I nA Q fuel (listed.setIfInBounds i true) ((d, v) :: E) w') : JA1 ro P nt D ops I nA Q fuel listed i E w := fun a ha => by
  have h2 := hq nt D a ha
  unfold wpOpIn
  simp only [ho, wanted_of ha hw (guardLt_of (fine_guard hf)), if_true, Oper.wpIn, fine_semAt hf, h2, Oper.uponIn]
  refine ⟨fun _ _ => trivial, fun h => by simp [Fw] at h, ?_⟩
  refine (callsIn_fw_any ro hc).mono ?_
  rintro e w' hR
  obtain ⟨v, rfl, hI, hJ⟩ := hk e w' hR
  have ha' : Ag nt D ((d, v) :: E) (a.put o.dst v) := by
    have h := ha.after v hf
    unfold Sl.after at h
    rw [hd] at h ⊢
    exact h
  exact ⟨fun h _ => hI h, hJ _ ha'⟩
end
end Go.Sl

/- Printed by a program of mine (gen.py). -/
set_option maxRecDepth 100000
namespace Go.Proofs.Ytceeellnjckmiaa
open Go Go.Sl
theorem OplogAddsB_calls (w : World) (room : Int) (v_l : Value) (l : List Change) (h_l : (tSl tCh).rd w [v_l] l) (hr : room < 1 ∨ 4096 < room) :
    Calls Try.prog 8 #[.int .i64 room, v_l] w fun e w' => e = .returned (.bool true) ∧ Kp no w w' := by
  have hS0 := St.start w
  have hF_l := RdF.of_rd h_l
  obtain ⟨A_l, cap_l, rfl, hc_l, hm_l⟩ := hF_l.slice
  refine fn_calls' 83 (args := [_, _]) Try.func8 rfl rfl rfl ?_
  refine C_seq ?_
  refine C_region ?_
  refine J_q 4 rfl rfl rfl rfl (Q_assign rfl rfl) ?_
  refine J_nil (K_seq ?_)
  refine C_seq ?_
  refine C_region ?_
  refine J_q 14 rfl rfl rfl rfl (Q_move rfl rfl) ?_
  refine J_call 15 rfl rfl rfl rfl (T_call rfl rfl rfl Try.call35) (LNewBad_calls _ room (by omega)) ?_
  rintro _ w1 ⟨rfl, hk1⟩
  have hS1 := hS0.kp0 hk1
  refine ⟨_, rfl, ?_⟩
  refine J_q 13 rfl rfl rfl rfl (Q_move rfl rfl) ?_
  refine J_q 16 rfl rfl rfl rfl (Q_extract rfl rfl rfl) ?_
  refine J_q 17 rfl rfl rfl rfl (Q_extract rfl rfl rfl) ?_
  refine J_q 5 rfl rfl rfl rfl (Q_assign rfl rfl) ?_
  refine J_q 6 rfl rfl rfl rfl (Q_assign rfl rfl) ?_
  refine J_nil (K_seq ?_)
  refine C_seq ?_
  refine C_seq ?_
  refine C_region ?_
  refine J_q 18 rfl rfl rfl rfl (Q_move rfl rfl) ?_
  refine J_q 19 rfl rfl rfl rfl (Q_lss rfl rfl rfl) ?_
  refine J_q 20 rfl rfl rfl rfl (Q_move rfl rfl) ?_
  refine J_split 20 rfl (fun h2 => ?_) (fun h2 => ?_)
  · refine J_no rfl rfl rfl ?_
    refine J_no rfl rfl rfl ?_
    refine J_q 23 rfl rfl rfl rfl (Q_pickT rfl rfl rfl) ?_
    refine J_nil (K_seq ?_)
    refine C_true rfl ?_
    refine C_seq ?_
    refine C_region ?_
    refine J_q 24 rfl rfl rfl rfl (Q_move rfl rfl) ?_
    refine J_q 25 rfl rfl rfl rfl (Q_eqNilT rfl rfl rfl Try.underlying45) ?_
    refine J_q 26 rfl rfl rfl rfl (Q_move rfl rfl) ?_
    refine J_q 27 rfl rfl rfl rfl (Q_move rfl rfl) ?_
    refine J_q 28 rfl rfl rfl rfl (Q_toB (c' := true) (Q_eql rfl rfl rfl) (by decide)) ?_
    refine J_q 29 rfl rfl rfl rfl (Q_pickT rfl rfl rfl) ?_
    refine J_q 30 rfl rfl rfl rfl (Q_move rfl rfl) ?_
    refine J_call 31 rfl rfl rfl rfl (T_call rfl rfl rfl Try.call30) (awake_calls _) ?_
    rintro _ w3 ⟨rfl, hk3⟩
    have hS3 := hS1.kp0 hk3
    refine ⟨_, rfl, ?_⟩
    refine J_q 32 rfl rfl rfl rfl (Q_pickT rfl rfl rfl) ?_
    refine J_q 4 rfl rfl rfl rfl (Q_assign rfl rfl) ?_
    refine J_nil (K_seq ?_)
    refine C_ret (R_then (body_ret (res1 rfl rfl) ?_))
    exact ⟨rfl, hS3.kept (k := 0) rfl⟩
  · refine J_q 21 rfl rfl rfl rfl (Q_move rfl rfl) ?_
    refine J_q 22 rfl rfl rfl rfl (Q_gtr rfl rfl rfl) ?_
    refine J_q 23 rfl rfl rfl rfl (Q_pickF rfl rfl rfl) ?_
    refine J_nil (K_seq ?_)
    refine C_if rfl (fun h4 => ?_) (fun h4 => ?_)
    · refine C_seq ?_
      refine C_region ?_
      refine J_q 24 rfl rfl rfl rfl (Q_move rfl rfl) ?_
      refine J_q 25 rfl rfl rfl rfl (Q_eqNilT rfl rfl rfl Try.underlying45) ?_
      refine J_q 26 rfl rfl rfl rfl (Q_move rfl rfl) ?_
      refine J_q 27 rfl rfl rfl rfl (Q_move rfl rfl) ?_
      refine J_q 28 rfl rfl rfl rfl (Q_toB (c' := true) (Q_eql rfl rfl rfl) (by decide)) ?_
      refine J_q 29 rfl rfl rfl rfl (Q_pickT rfl rfl rfl) ?_
      refine J_q 30 rfl rfl rfl rfl (Q_move rfl rfl) ?_
      refine J_call 31 rfl rfl rfl rfl (T_call rfl rfl rfl Try.call30) (awake_calls _) ?_
      rintro _ w5 ⟨rfl, hk5⟩
      have hS5 := hS1.kp0 hk5
      refine ⟨_, rfl, ?_⟩
      refine J_q 32 rfl rfl rfl rfl (Q_pickT rfl rfl rfl) ?_
      refine J_q 4 rfl rfl rfl rfl (Q_assign rfl rfl) ?_
      refine J_nil (K_seq ?_)
      refine C_ret (R_then (body_ret (res1 rfl rfl) ?_))
      exact ⟨rfl, hS5.kept (k := 0) rfl⟩
    · exfalso; omega

theorem OplogAddsG_calls (w : World) (room : Int) (v_l : Value) (l : List Change) (h_l : (tSl tCh).rd w [v_l] l) (hr : 1 ≤ room ∧ room ≤ 4096) :
    Calls Try.prog 8 #[.int .i64 room, v_l] w fun e w' => e = .returned (.bool true) ∧ Kp no w w' := by
  have hS0 := St.start w
  have hF_l := RdF.of_rd h_l
  obtain ⟨A_l, cap_l, rfl, hc_l, hm_l⟩ := hF_l.slice
  refine fn_calls' 83 (args := [_, _]) Try.func8 rfl rfl rfl ?_
  refine C_seq ?_
  refine C_region ?_
  refine J_q 4 rfl rfl rfl rfl (Q_assign rfl rfl) ?_
  refine J_nil (K_seq ?_)
  refine C_seq ?_
  refine C_region ?_
  refine J_q 14 rfl rfl rfl rfl (Q_move rfl rfl) ?_
  refine J_call 15 rfl rfl rfl rfl (T_call rfl rfl rfl Try.call35) (LNew_calls _ room (by omega)) ?_
  rintro _ w1 ⟨gL1, FL1, rfl, hk1, hFL1, hLL1⟩
  have hS1 := hS0.new hk1 1 (logE FL1 gL1 room []) hLL1 hFL1
  refine ⟨_, rfl, ?_⟩
  refine J_q 13 rfl rfl rfl rfl (Q_move rfl rfl) ?_
  refine J_q 16 rfl rfl rfl rfl (Q_extract rfl rfl rfl) ?_
  refine J_q 17 rfl rfl rfl rfl (Q_extract rfl rfl rfl) ?_
  refine J_q 5 rfl rfl rfl rfl (Q_assign rfl rfl) ?_
  refine J_q 6 rfl rfl rfl rfl (Q_assign rfl rfl) ?_
  refine J_nil (K_seq ?_)
  refine C_seq ?_
  refine C_seq ?_
  refine C_region ?_
  refine J_q 18 rfl rfl rfl rfl (Q_move rfl rfl) ?_
  refine J_q 19 rfl rfl rfl rfl (Q_lss rfl rfl rfl) ?_
  refine J_q 20 rfl rfl rfl rfl (Q_move rfl rfl) ?_
  refine J_split 20 rfl (fun h2 => ?_) (fun h2 => ?_)
  · exfalso; omega
  · refine J_q 21 rfl rfl rfl rfl (Q_move rfl rfl) ?_
    refine J_q 22 rfl rfl rfl rfl (Q_gtr rfl rfl rfl) ?_
    refine J_q 23 rfl rfl rfl rfl (Q_pickF rfl rfl rfl) ?_
    refine J_nil (K_seq ?_)
    refine C_if rfl (fun h3 => ?_) (fun h3 => ?_)
    · exfalso; omega
    · refine C_skip (K_seq ?_)
      refine C_seq ?_
      refine C_seq ?_
      refine C_region ?_
      refine J_q 33 rfl rfl rfl rfl (Q_move rfl rfl) ?_
      refine J_q 34 rfl rfl rfl rfl (Q_eqNilF rfl rfl rfl Try.underlying45) ?_
      refine J_q 35 rfl rfl rfl rfl (Q_move rfl rfl) ?_
      refine J_q 36 rfl rfl rfl rfl (Q_move rfl rfl) ?_
      refine J_q 37 rfl rfl rfl rfl (Q_toB (c' := false) (Q_neq rfl rfl rfl) (by decide)) ?_
      refine J_q 38 rfl rfl rfl rfl (Q_pickF rfl rfl rfl) ?_
      refine J_nil (K_seq ?_)
      refine C_false rfl ?_
      refine C_skip (K_seq ?_)
      refine C_seq ?_
      refine C_region ?_
      refine J_q 39 rfl rfl rfl rfl (Q_move rfl rfl) ?_
      refine J_q 40 rfl rfl rfl rfl (Q_bld (v := .agg ([.int .i64 room, .slice none 0 0]).toArray) (ps := [(0, .tmp 39)]) rfl rfl (fun _ => by kernel_rfl)) ?_
      refine J_do 7 rfl rfl rfl rfl (D_alloc 2 hS1 rfl Try.zeroValue47 (fun g4 w4 hS4 => ?_))
      refine J_do0 rfl rfl rfl rfl (D_store' (k := 2) hS4 rfl rfl rfl rfl Try.sizeOf47 rfl rfl rfl (fun w5 hS5 => ?_))
      refine J_nil (K_seq ?_)
      refine C_seq ?_
      refine C_seq ?_
      refine C_region ?_
      refine J_q 8 rfl rfl rfl rfl (Q_assign rfl rfl) ?_
      refine J_nil (K_seq ?_)
      refine C_block ?_
      have hS6 := hS5.none 4
      refine C_loop3 (fun (i : Int) (lv : LgV) (yl : Rg Change) => (l.length - i).toNat) (fun (i : Int) (lv : LgV) (yl : Rg Change) => [(0, .int .i64 room), (1, .slice A_l l.length cap_l), (14, .int .i64 room), (15, .tuple #[.pointer (some (⟨gL1, 0, none⟩ : Addr)), .int .i64 0]), (13, .tuple #[.pointer (some (⟨gL1, 0, none⟩ : Addr)), .int .i64 0]), (16, .pointer (some (⟨gL1, 0, none⟩ : Addr))), (17, .int .i64 0), (5, .pointer (some (⟨gL1, 0, none⟩ : Addr))), (6, .int .i64 0), (18, .int .i64 room), (19, .bool (decide (room < 1))), (20, .bool false), (21, .int .i64 room), (22, .bool (decide (4096 < room))), (23, .bool (decide (4096 < room))), (33, .pointer (some (⟨gL1, 0, none⟩ : Addr))), (34, .bool false), (35, .bool false), (36, .int .i64 0), (37, .bool false), (38, .bool false), (39, .int .i64 room), (40, .agg ([.int .i64 room, .slice none 0 0]).toArray), (7, .pointer (some (⟨g4, 0, none⟩ : Addr))), (8, .int .i64 i)]) (fun (i : Int) (lv : LgV) (yl : Rg Change) w' => (0 ≤ i) ∧ (i ≤ l.length) ∧ (lv.l = addAll room (tk l i)) ∧ (yl.l = addAll room (tk l i)) ∧ (RdF (tSl tCh) yl.W yl.F [.slice yl.A yl.l.length yl.c] yl.l) ∧ St w w' [(4, fz yl.W yl.F), (2, blkL g4 ([.int .i64 room, .slice yl.A yl.l.length yl.c]) 47), (1, logE lv.F gL1 room lv.l), (0, fz w (lt_ w))]) 0 (⟨FL1, []⟩) (⟨none, 0, [], w5, no⟩) ⟨(by first | omega | (exact addAll_zero.symm)), (by first | omega | (exact addAll_zero.symm)), (by first | omega | (exact addAll_zero.symm)), (by first | omega | (exact addAll_zero.symm)), (fun u _ => rdNil tCh u), hS6⟩ ⟨rfl, rfl, rfl, rfl, rfl, rfl, rfl, rfl, rfl, rfl, rfl, rfl, rfl, rfl, rfl, rfl, rfl, rfl, rfl, rfl, rfl, rfl, rfl, rfl, rfl, trivial⟩ ?_
      rintro i lv yl w7 ⟨h0, h1, hn1, hn2, hG_yl, hS7⟩
      have hyl : yl.l = lv.l := hn2.trans hn1.symm
      have hyl2 := congrArg List.length hyl
      have hlf := LogAt.f (hS7.get (k := 1) rfl)
      refine C_seq ?_
      refine C_seq ?_
      refine C_region ?_
      refine J_q 41 rfl rfl rfl rfl (Q_move rfl rfl) ?_
      refine J_q 42 rfl rfl rfl rfl (Q_move rfl rfl) ?_
      refine J_q 43 rfl rfl rfl rfl (Q_len rfl rfl Try.underlying43) ?_
      refine J_q 44 rfl rfl rfl rfl (Q_lss rfl rfl rfl) ?_
      refine J_nil (K_seq ?_)
      refine C_if rfl (fun h8 => ?_) (fun h8 => ?_)
      · refine C_skip (K_seq ?_)
        refine C_seq ?_
        refine C_block ?_
        refine C_seq ?_
        refine C_region ?_
        refine J_q 47 rfl rfl rfl rfl (Q_move rfl rfl) ?_
        refine J_q 48 rfl rfl rfl rfl (Q_move rfl rfl) ?_
        obtain ⟨ad9, es9, hA9, hr9, hc9⟩ := RdF.nth hF_l i (by omega) (by omega)
        obtain ⟨A9, cap9, rfl, hd9, ho9⟩ := openCh hr9
        have hln9 := RdF.lens hd9
        have hsq9 := ho9.seq
        refine J_q 49 rfl rfl rfl rfl (Q_iaE hA9 rfl rfl rfl Try.underlying43 Try.sizeOf55 (by omega) (by omega)) ?_
        refine J_q 50 rfl rfl rfl rfl (Q_ldCK' (chL (nth l i) A9 cap9) (hc9 _ (hS7.get (k := 0) rfl)) rfl rfl Try.isAgg55 Try.sizeOf55 rfl rfl) ?_
        refine J_call 51 rfl rfl rfl rfl (T_call rfl rfl rfl Try.call45) (RCopyO_calls _ _ (nth l i) (hS7.rd 0 rfl hr9)) ?_
        rintro _ w10 ⟨A10, cap10, fl10, rfl, hk10, hw10, hR10, hf10, hok10⟩
        have hS10 := hS7.new hk10 5 (own 3 1 (.slice A10 (nth l i).deps.length cap10) (nth l i).deps.length fl10) hw10 hf10
        have hR10 := Reps.int (W' := w) hR10
        refine ⟨_, rfl, ?_⟩
        refine J_do 9 rfl rfl rfl rfl (D_alloc 6 hS10 rfl Try.zeroValue55 (fun g11 w11 hS11 => ?_))
        refine J_do0 rfl rfl rfl rfl (D_store' (k := 6) hS11 rfl rfl rfl rfl Try.sizeOf55 rfl rfl rfl (fun w12 hS12 => ?_))
        refine J_nil (K_seq ?_)
        refine C_seq ?_
        refine C_draw (fun w' => St w w' [(6, blkL g11 ([.int .i64 ((nth l i).at_.c), .int .i64 ((nth l i).at_.r), .int .i64 ((nth l i).seq), .slice A10 ((nth l i).deps.length) cap10, .int .i64 ((nth l i).kind), .int .i64 ((nth l i).node.c), .int .i64 ((nth l i).node.r), .int .i64 ((nth l i).par.c), .int .i64 ((nth l i).par.r), .int .i64 ((nth l i).aft.c), .int .i64 ((nth l i).aft.r), .string ((nth l i).name), .string ((nth l i).val)]) 55), (4, fz yl.W yl.F), (2, blkL g4 ([.int .i64 room, .slice yl.A yl.l.length yl.c]) 47), (0, fz w (lt_ w))]) 10 mixedOrders 12 rfl (fun w13 hk13 => ?_)
        have hS13 := hS12.kp0 hk13
        refine JA_q 0 53 rfl rfl rfl rfl (by kernel_rfl) (by kernel_rfl) (hS13.pick [6, 4, 2, 0] ⟨rfl, rfl, rfl, rfl, rfl, rfl, rfl, rfl, trivial⟩) (fun _ hI => Q_ldBK' (k := 2) ([.int .i64 room, .slice yl.A yl.l.length yl.c]) hI rfl rfl rfl Try.isAgg47 Try.sizeOf47 rfl rfl) ?_
        refine JA_p 1 54 12 rfl rfl rfl rfl (by kernel_rfl) (by kernel_rfl) (fun _ => Q_move rfl rfl) ?_
        refine JA_p 2 55 12 rfl rfl rfl rfl (by kernel_rfl) (by kernel_rfl) (fun _ => Q_move rfl rfl) ?_
        refine JA_p 3 56 12 rfl rfl rfl rfl (by kernel_rfl) (by kernel_rfl) (fun _ => Q_iaE hA9 rfl rfl rfl Try.underlying43 Try.sizeOf55 (by omega) (by omega)) ?_
        refine JA_q 4 57 rfl rfl rfl rfl (by kernel_rfl) (by kernel_rfl) (hS13.pick [6, 4, 2, 0] ⟨rfl, rfl, rfl, rfl, rfl, rfl, rfl, rfl, trivial⟩) (fun _ hI => Q_ldCK' (chL (nth l i) A9 cap9) (hc9 _ (hI.get (k := 0) rfl)) rfl rfl Try.isAgg55 Try.sizeOf55 rfl rfl) ?_
        refine JA_two 5 9 (by kernel_rfl) ?_ ?_
        · refine JA1_call 5 58 rfl rfl rfl rfl rfl (T_call rfl rfl rfl Try.call46) (RAdd_calls _ room yl.F (hS13.fpLt (k := 4) rfl) _ yl.l (hS13.rdF 4 rfl hG_yl) _ (nth l i) (hS13.rd 0 rfl hr9) (by omega)) ?_
          rintro _ w14 ⟨vy14, rfl, hk14, hry14⟩
          have hJ14 : ∀ b, (yl.F) b → w14.heap[b]? = (yl.W).heap[b]? := fun b hb => (hk14.blk b (hS13.fpLt (k := 4) rfl b hb) id).trans (hS13.get (k := 4) rfl b hb)
          have hS14 := hS13.join hk14 4 rfl
          obtain ⟨Ay14, cy14, rfl, hcy14, hmy14⟩ := hry14.slice
          refine ⟨_, rfl, (fun _ => ((hS13.kp0 hk14).pick [6, 4, 2, 0] ⟨rfl, rfl, rfl, rfl, rfl, rfl, rfl, rfl, trivial⟩)), ?_⟩
          refine JA_p 6 52 12 rfl rfl rfl rfl (by kernel_rfl) (by kernel_rfl) (fun _ => Q_move rfl rfl) ?_
          refine JA_p 7 59 12 rfl rfl rfl rfl (by kernel_rfl) (by kernel_rfl) (fun _ => Q_extract rfl rfl rfl) ?_
          refine JA_p 8 60 12 rfl rfl rfl rfl (by kernel_rfl) (by kernel_rfl) (fun _ => Q_extract rfl rfl rfl) ?_
          refine JA_do 9 10 rfl rfl rfl rfl (by kernel_rfl) (D_alloc 8 hS14 rfl Try.zeroValue47 (fun g15 w15 hS15 => ⟨(fun _ => ((hS15.shrink 4 rfl (fun b hb => .inl hb) hJ14).pick [6, 4, 2, 0] ⟨rfl, rfl, rfl, rfl, rfl, rfl, rfl, rfl, trivial⟩)), ?_⟩))
          refine JA_do0 10 rfl rfl rfl rfl (by kernel_rfl) (D_store' (k := 8) hS15 rfl rfl rfl rfl Try.sizeOf47 rfl rfl rfl (fun w16 hS16 => ⟨(fun h => nomatch h), ?_⟩))
          refine JA_p 11 11 12 rfl rfl rfl rfl (by kernel_rfl) (by kernel_rfl) (fun _ => Q_assign rfl rfl) ?_
          refine JA_end (by kernel_rfl) (K_seq ?_)
          refine C_seq ?_
          refine C_region ?_
          refine J_q 61 rfl rfl rfl rfl (Q_ldBK' (k := 8) ([.int .i64 room, .slice Ay14 ((if whyR yl.l room (nth l i) = 0 then putC yl.l (nth l i) else yl.l).length) cy14]) hS16 rfl rfl rfl Try.isAgg47 Try.sizeOf47 rfl rfl) ?_
          refine J_do0 rfl rfl rfl rfl (D_store' (k := 2) hS16 rfl rfl rfl rfl Try.sizeOf47 rfl rfl rfl (fun w17 hS17 => ?_))
          refine J_nil (K_seq ?_)
          refine C_seq ?_
          refine C_seq ?_
          refine C_region ?_
          refine J_q 62 rfl rfl rfl rfl (Q_move rfl rfl) ?_
          refine J_q 63 rfl rfl rfl rfl (Q_ldBK' (k := 6) ([.int .i64 ((nth l i).at_.c), .int .i64 ((nth l i).at_.r), .int .i64 ((nth l i).seq), .slice A10 ((nth l i).deps.length) cap10, .int .i64 ((nth l i).kind), .int .i64 ((nth l i).node.c), .int .i64 ((nth l i).node.r), .int .i64 ((nth l i).par.c), .int .i64 ((nth l i).par.r), .int .i64 ((nth l i).aft.c), .int .i64 ((nth l i).aft.r), .string ((nth l i).name), .string ((nth l i).val)]) hS17 rfl rfl rfl Try.isAgg55 Try.sizeOf55 rfl rfl) ?_
          have hmk18 := mkCh (own_rd0 (d := tI) hS17 5 rfl rfl hR10 (by omega)) hok10
          refine J_call 64 rfl rfl rfl rfl (T_call rfl rfl rfl Try.call25) (LAdd_calls _ lv.F gL1 room lv.l (hS17.get (k := 1) rfl) _ (nth l i) _ hmk18 (fun b hb => ⟨hS17.fpLt (k := 5) rfl b hb, fun h => hS17.disj (k := 5) (j := 1) rfl rfl rfl b hb h⟩)) ?_
          rintro _ w18 ⟨rfl, hk18, FN18, hFN18, hLN18⟩
          have hS18 := hS17.upd (k := 1) (e' := logE FN18 gL1 room (if whyR lv.l room (nth l i) = 0 then putC lv.l (nth l i) else lv.l)) rfl hk18 hLN18 hFN18
          refine ⟨_, rfl, ?_⟩
          refine J_q 65 rfl rfl rfl rfl (Q_move rfl rfl) ?_
          refine J_q 66 rfl rfl rfl rfl (Q_neqN rfl rfl rfl) ?_
          refine J_nil (K_seq ?_)
          refine C_ifN rfl (fun h19 => ?_) (fun h19 => ?_)
          · exact absurd (congrArg (fun z => whyR z room (nth l i)) hyl.symm) (by assumption)
          · refine C_skip (K_seq ?_)
            refine C_seq ?_
            refine C_seq ?_
            refine C_region ?_
            refine J_q 12 rfl rfl rfl rfl (Q_assign rfl rfl) ?_
            refine J_nil (K_seq ?_)
            refine C_block ?_
            refine C_loop2 (fun (k : Int) (ow : Row Int) => ((nth l i).deps.length - k).toNat) (fun (k : Int) (ow : Row Int) => [(0, .int .i64 room), (1, .slice A_l l.length cap_l), (14, .int .i64 room), (15, .tuple #[.pointer (some (⟨gL1, 0, none⟩ : Addr)), .int .i64 0]), (13, .tuple #[.pointer (some (⟨gL1, 0, none⟩ : Addr)), .int .i64 0]), (16, .pointer (some (⟨gL1, 0, none⟩ : Addr))), (17, .int .i64 0), (5, .pointer (some (⟨gL1, 0, none⟩ : Addr))), (6, .int .i64 0), (18, .int .i64 room), (19, .bool (decide (room < 1))), (20, .bool false), (21, .int .i64 room), (22, .bool (decide (4096 < room))), (23, .bool (decide (4096 < room))), (33, .pointer (some (⟨gL1, 0, none⟩ : Addr))), (34, .bool false), (35, .bool false), (36, .int .i64 0), (37, .bool false), (38, .bool false), (39, .int .i64 room), (40, .agg ([.int .i64 room, .slice none 0 0]).toArray), (7, .pointer (some (⟨g4, 0, none⟩ : Addr))), (8, .int .i64 i), (41, .int .i64 i), (42, .slice A_l l.length cap_l), (43, .int .i64 (l.length : Int)), (44, .bool (decide (i < (l.length : Int)))), (47, .slice A_l l.length cap_l), (48, .int .i64 i), (49, .pointer (some (ad9.add (i.toNat * 13)))), (50, .agg (chL (nth l i) A9 cap9).toArray), (51, .agg ([.int .i64 ((nth l i).at_.c), .int .i64 ((nth l i).at_.r), .int .i64 ((nth l i).seq), .slice A10 ((nth l i).deps.length) cap10, .int .i64 ((nth l i).kind), .int .i64 ((nth l i).node.c), .int .i64 ((nth l i).node.r), .int .i64 ((nth l i).par.c), .int .i64 ((nth l i).par.r), .int .i64 ((nth l i).aft.c), .int .i64 ((nth l i).aft.r), .string ((nth l i).name), .string ((nth l i).val)]).toArray), (9, .pointer (some (⟨g11, 0, none⟩ : Addr))), (53, .agg ([.int .i64 room, .slice yl.A yl.l.length yl.c]).toArray), (54, .slice A_l l.length cap_l), (55, .int .i64 i), (56, .pointer (some (ad9.add (i.toNat * 13)))), (57, .agg (chL (nth l i) A9 cap9).toArray), (58, .tuple #[.agg ([.int .i64 room, .slice Ay14 ((if whyR yl.l room (nth l i) = 0 then putC yl.l (nth l i) else yl.l).length) cy14]).toArray, .int .i64 (whyR yl.l room (nth l i))]), (52, .tuple #[.agg ([.int .i64 room, .slice Ay14 ((if whyR yl.l room (nth l i) = 0 then putC yl.l (nth l i) else yl.l).length) cy14]).toArray, .int .i64 (whyR yl.l room (nth l i))]), (59, .agg ([.int .i64 room, .slice Ay14 ((if whyR yl.l room (nth l i) = 0 then putC yl.l (nth l i) else yl.l).length) cy14]).toArray), (60, .int .i64 (whyR yl.l room (nth l i))), (10, .pointer (some (⟨g15, 0, none⟩ : Addr))), (11, .int .i64 (whyR yl.l room (nth l i))), (61, .agg ([.int .i64 room, .slice Ay14 ((if whyR yl.l room (nth l i) = 0 then putC yl.l (nth l i) else yl.l).length) cy14]).toArray), (62, .pointer (some (⟨gL1, 0, none⟩ : Addr))), (63, .agg ([.int .i64 ((nth l i).at_.c), .int .i64 ((nth l i).at_.r), .int .i64 ((nth l i).seq), .slice A10 ((nth l i).deps.length) cap10, .int .i64 ((nth l i).kind), .int .i64 ((nth l i).node.c), .int .i64 ((nth l i).node.r), .int .i64 ((nth l i).par.c), .int .i64 ((nth l i).par.r), .int .i64 ((nth l i).aft.c), .int .i64 ((nth l i).aft.r), .string ((nth l i).name), .string ((nth l i).val)]).toArray), (64, .int .i64 (whyR lv.l room (nth l i))), (65, .int .i64 (whyR yl.l room (nth l i))), (66, .bool (!decide ((whyR lv.l room (nth l i)) = (whyR yl.l room (nth l i))))), (12, .int .i64 k)]) (fun (k : Int) (ow : Row Int) w' => (0 ≤ k) ∧ (k ≤ (nth l i).deps.length) ∧ (ow.l.length = (nth l i).deps.length) ∧ (Reps tI w no ow.l ow.f) ∧ St w w' [(8, blkL g15 ([.int .i64 room, .slice Ay14 ((if whyR yl.l room (nth l i) = 0 then putC yl.l (nth l i) else yl.l).length) cy14]) 47), (6, blkL g11 ([.int .i64 ((nth l i).at_.c), .int .i64 ((nth l i).at_.r), .int .i64 ((nth l i).seq), .slice ow.A ((nth l i).deps.length) ow.c, .int .i64 ((nth l i).kind), .int .i64 ((nth l i).node.c), .int .i64 ((nth l i).node.r), .int .i64 ((nth l i).par.c), .int .i64 ((nth l i).par.r), .int .i64 ((nth l i).aft.c), .int .i64 ((nth l i).aft.r), .string ((nth l i).name), .string ((nth l i).val)]) 55), (5, own 3 1 (.slice ow.A ((nth l i).deps.length) ow.c) ((nth l i).deps.length) ow.f), (4, fz w14 (or_ yl.F (nw w13 w14))), (2, blkL g4 ([.int .i64 room, .slice Ay14 ((if whyR yl.l room (nth l i) = 0 then putC yl.l (nth l i) else yl.l).length) cy14]) 47), (1, logE FN18 gL1 room (if whyR lv.l room (nth l i) = 0 then putC lv.l (nth l i) else lv.l)), (0, fz w (lt_ w))]) 0 (⟨A10, cap10, fl10, (nth l i).deps⟩) ⟨(by first | omega | rfl), (by first | omega | rfl), (by first | omega | rfl), hR10, hS18⟩ ⟨rfl, rfl, rfl, rfl, rfl, rfl, rfl, rfl, rfl, rfl, rfl, rfl, rfl, rfl, rfl, rfl, rfl, rfl, rfl, rfl, rfl, rfl, rfl, rfl, rfl, rfl, rfl, rfl, rfl, rfl, rfl, rfl, rfl, rfl, rfl, rfl, rfl, rfl, rfl, rfl, rfl, rfl, rfl, rfl, rfl, rfl, rfl, rfl, rfl, rfl, rfl, rfl, rfl, trivial⟩ ?_
            rintro k ow w20 ⟨h2, h3, hlw, hR_ow, hS20⟩
            refine C_seq ?_
            refine C_seq ?_
            refine C_region ?_
            refine J_q 67 rfl rfl rfl rfl (Q_move rfl rfl) ?_
            refine J_q 68 rfl rfl rfl rfl (Q_fa0 rfl rfl fo55_2) ?_
            refine J_q 69 rfl rfl rfl rfl (Q_ldB1 (k := 6) hS20 rfl rfl rfl Try.isAgg44 rfl) ?_
            refine J_q 70 rfl rfl rfl rfl (Q_len rfl rfl Try.underlying44) ?_
            refine J_q 71 rfl rfl rfl rfl (Q_lss rfl rfl rfl) ?_
            refine J_nil (K_seq ?_)
            refine C_if rfl (fun h21 => ?_) (fun h21 => ?_)
            · refine C_skip (K_seq ?_)
              refine C_seq ?_
              refine C_block ?_
              refine C_region ?_
              refine J_q 74 rfl rfl rfl rfl (Q_fa0 rfl rfl fo55_2) ?_
              refine J_q 75 rfl rfl rfl rfl (Q_ldB1 (k := 6) hS20 rfl rfl rfl Try.isAgg44 rfl) ?_
              refine J_q 76 rfl rfl rfl rfl (Q_move rfl rfl) ?_
              obtain ⟨ga22, hA22⟩ := own_addr (hS20.get (k := 5) rfl) (by omega)
              refine J_q 77 rfl rfl rfl rfl (Q_iaE hA22 rfl rfl rfl Try.underlying44 Try.sizeOf3 (by omega) (by omega)) ?_
              refine J_do0 rfl rfl rfl rfl (D_setI (k := 5) ow.l k (-7) hlw hS20 rfl hR_ow hA22 (by omega) (by omega) rfl rfl rfl Try.sizeOf3 (fun w23 hS23 => ?_))
              refine J_nil (N_blk (K_seq ?_))
              refine C_region ?_
              refine J_q 72 rfl rfl rfl rfl (Q_move rfl rfl) ?_
              refine J_q 73 rfl rfl rfl rfl (Q_add rfl rfl rfl (by omega) (by omega)) ?_
              refine J_q 12 rfl rfl rfl rfl (Q_assign rfl rfl) ?_
              exact J_nil (K_round2 (x0 := k) (x1 := ow) (k + 1) ⟨ow.A, ow.c, (ow.f.set (k).toNat (.int .i64 (-7))), (ow.l.set (k).toNat (-7))⟩ ⟨(by first | omega | (simp only [List.length_set]; omega)), (by first | omega | (simp only [List.length_set]; omega)), (by first | omega | (simp only [List.length_set]; omega)), (Reps.setI hR_ow (by omega) (by omega)), hS23⟩ (by omega) ⟨rfl, rfl, rfl, rfl, rfl, rfl, rfl, rfl, rfl, rfl, rfl, rfl, rfl, rfl, rfl, rfl, rfl, rfl, rfl, rfl, rfl, rfl, rfl, rfl, rfl, rfl, rfl, rfl, rfl, rfl, rfl, rfl, rfl, rfl, rfl, rfl, rfl, rfl, rfl, rfl, rfl, rfl, rfl, rfl, rfl, rfl, rfl, rfl, rfl, rfl, rfl, rfl, rfl, trivial⟩)
            · refine C_exit (X_then (X_then (X_hit (K_seq ?_))))
              refine C_seq ?_
              refine C_region ?_
              refine J_q 78 rfl rfl rfl rfl (Q_move rfl rfl) ?_
              refine J_q 79 rfl rfl rfl rfl (Q_ldBK' (k := 2) ([.int .i64 room, .slice Ay14 ((if whyR yl.l room (nth l i) = 0 then putC yl.l (nth l i) else yl.l).length) cy14]) hS20 rfl rfl rfl Try.isAgg47 Try.sizeOf47 rfl rfl) ?_
              obtain ⟨pL24, hLR24⟩ := LogAt.logR (hS20.get (k := 1) rfl)
              refine J_call 80 rfl rfl rfl rfl (T_call rfl rfl rfl Try.call47) (Ltold_calls _ _ _ _ _ (hLR24.mono (hS20.fpLt (k := 1) rfl)) _ (by first | exact (hS20.rd 4 rfl hry14) | (have hq9 := (hS20.rd 4 rfl hry14); rw [hyl] at hq9; exact hq9) | (rw [← hyl]; exact (hS20.rd 4 rfl hry14)))) ?_
              rintro _ w25 ⟨rfl, hk25⟩
              have hS25 := hS20.kp0 hk25
              refine ⟨_, rfl, ?_⟩
              refine J_q 81 rfl rfl rfl rfl (Q_not rfl rfl) ?_
              refine J_nil (K_seq ?_)
              refine C_false rfl ?_
              refine C_skip (N_blk (K_seq ?_))
              refine C_region ?_
              refine J_q 45 rfl rfl rfl rfl (Q_move rfl rfl) ?_
              refine J_q 46 rfl rfl rfl rfl (Q_add rfl rfl rfl (by omega) (by omega)) ?_
              refine J_q 8 rfl rfl rfl rfl (Q_assign rfl rfl) ?_
              exact J_nil (K_round3 (x0 := i) (x1 := lv) (x2 := yl) (i + 1) ⟨FN18, (if whyR lv.l room (nth l i) = 0 then putC lv.l (nth l i) else lv.l)⟩ ⟨Ay14, cy14, (if whyR yl.l room (nth l i) = 0 then putC yl.l (nth l i) else yl.l), w14, or_ yl.F (nw w13 w14)⟩ ⟨(by first | omega | (rw [addAll_snoc h0 (by omega), ← hn1]; done) | (rw [addAll_snoc h0 (by omega), ← hn2]; done)), (by first | omega | (rw [addAll_snoc h0 (by omega), ← hn1]; done) | (rw [addAll_snoc h0 (by omega), ← hn2]; done)), (by first | omega | (rw [addAll_snoc h0 (by omega), ← hn1]; done) | (rw [addAll_snoc h0 (by omega), ← hn2]; done)), (by first | omega | (rw [addAll_snoc h0 (by omega), ← hn1]; done) | (rw [addAll_snoc h0 (by omega), ← hn2]; done)), hry14, (hS25.pick [4, 2, 1, 0] ⟨rfl, rfl, rfl, rfl, rfl, rfl, rfl, rfl, trivial⟩)⟩ (by omega) ⟨rfl, rfl, rfl, rfl, rfl, rfl, rfl, rfl, rfl, rfl, rfl, rfl, rfl, rfl, rfl, rfl, rfl, rfl, rfl, rfl, rfl, rfl, rfl, rfl, rfl, trivial⟩)
        · refine JA1_do 9 10 rfl rfl rfl rfl rfl (D_alloc 12 hS13 rfl Try.zeroValue47 (fun g26 w26 hS26 => ⟨(fun _ => (hS26.pick [6, 4, 2, 0] ⟨rfl, rfl, rfl, rfl, rfl, rfl, rfl, rfl, trivial⟩)), ?_⟩))
          refine JA_call 5 58 rfl rfl rfl rfl (by kernel_rfl) (T_call rfl rfl rfl Try.call46) (RAdd_calls _ room yl.F (hS26.fpLt (k := 4) rfl) _ yl.l (hS26.rdF 4 rfl hG_yl) _ (nth l i) (hS26.rd 0 rfl hr9) (by omega)) ?_
          rintro _ w27 ⟨vy27, rfl, hk27, hry27⟩
          have hJ27 : ∀ b, (yl.F) b → w27.heap[b]? = (yl.W).heap[b]? := fun b hb => (hk27.blk b (hS26.fpLt (k := 4) rfl b hb) id).trans (hS26.get (k := 4) rfl b hb)
          have hS27 := hS26.join hk27 4 rfl
          obtain ⟨Ay27, cy27, rfl, hcy27, hmy27⟩ := hry27.slice
          refine ⟨_, rfl, (fun _ => ((hS26.kp0 hk27).pick [6, 4, 2, 0] ⟨rfl, rfl, rfl, rfl, rfl, rfl, rfl, rfl, trivial⟩)), ?_⟩
          refine JA_p 6 52 12 rfl rfl rfl rfl (by kernel_rfl) (by kernel_rfl) (fun _ => Q_move rfl rfl) ?_
          refine JA_p 7 59 12 rfl rfl rfl rfl (by kernel_rfl) (by kernel_rfl) (fun _ => Q_extract rfl rfl rfl) ?_
          refine JA_p 8 60 12 rfl rfl rfl rfl (by kernel_rfl) (by kernel_rfl) (fun _ => Q_extract rfl rfl rfl) ?_
          refine JA_do0 10 rfl rfl rfl rfl (by kernel_rfl) (D_store' (k := 12) hS27 rfl rfl rfl rfl Try.sizeOf47 rfl rfl rfl (fun w28 hS28 => ⟨(fun h => nomatch h), ?_⟩))
          refine JA_p 11 11 12 rfl rfl rfl rfl (by kernel_rfl) (by kernel_rfl) (fun _ => Q_assign rfl rfl) ?_
          refine JA_end (by kernel_rfl) (K_seq ?_)
          refine C_seq ?_
          refine C_region ?_
          refine J_q 61 rfl rfl rfl rfl (Q_ldBK' (k := 12) ([.int .i64 room, .slice Ay27 ((if whyR yl.l room (nth l i) = 0 then putC yl.l (nth l i) else yl.l).length) cy27]) hS28 rfl rfl rfl Try.isAgg47 Try.sizeOf47 rfl rfl) ?_
          refine J_do0 rfl rfl rfl rfl (D_store' (k := 2) hS28 rfl rfl rfl rfl Try.sizeOf47 rfl rfl rfl (fun w29 hS29 => ?_))
          refine J_nil (K_seq ?_)
          refine C_seq ?_
          refine C_seq ?_
          refine C_region ?_
          refine J_q 62 rfl rfl rfl rfl (Q_move rfl rfl) ?_
          refine J_q 63 rfl rfl rfl rfl (Q_ldBK' (k := 6) ([.int .i64 ((nth l i).at_.c), .int .i64 ((nth l i).at_.r), .int .i64 ((nth l i).seq), .slice A10 ((nth l i).deps.length) cap10, .int .i64 ((nth l i).kind), .int .i64 ((nth l i).node.c), .int .i64 ((nth l i).node.r), .int .i64 ((nth l i).par.c), .int .i64 ((nth l i).par.r), .int .i64 ((nth l i).aft.c), .int .i64 ((nth l i).aft.r), .string ((nth l i).name), .string ((nth l i).val)]) hS29 rfl rfl rfl Try.isAgg55 Try.sizeOf55 rfl rfl) ?_
          have hmk30 := mkCh (own_rd0 (d := tI) hS29 5 rfl rfl hR10 (by omega)) hok10
          refine J_call 64 rfl rfl rfl rfl (T_call rfl rfl rfl Try.call25) (LAdd_calls _ lv.F gL1 room lv.l (hS29.get (k := 1) rfl) _ (nth l i) _ hmk30 (fun b hb => ⟨hS29.fpLt (k := 5) rfl b hb, fun h => hS29.disj (k := 5) (j := 1) rfl rfl rfl b hb h⟩)) ?_
          rintro _ w30 ⟨rfl, hk30, FN30, hFN30, hLN30⟩
          have hS30 := hS29.upd (k := 1) (e' := logE FN30 gL1 room (if whyR lv.l room (nth l i) = 0 then putC lv.l (nth l i) else lv.l)) rfl hk30 hLN30 hFN30
          refine ⟨_, rfl, ?_⟩
          refine J_q 65 rfl rfl rfl rfl (Q_move rfl rfl) ?_
          refine J_q 66 rfl rfl rfl rfl (Q_neqN rfl rfl rfl) ?_
          refine J_nil (K_seq ?_)
          refine C_ifN rfl (fun h31 => ?_) (fun h31 => ?_)
          · exact absurd (congrArg (fun z => whyR z room (nth l i)) hyl.symm) (by assumption)
          · refine C_skip (K_seq ?_)
            refine C_seq ?_
            refine C_seq ?_
            refine C_region ?_
            refine J_q 12 rfl rfl rfl rfl (Q_assign rfl rfl) ?_
            refine J_nil (K_seq ?_)
            refine C_block ?_
            refine C_loop2 (fun (k : Int) (ow : Row Int) => ((nth l i).deps.length - k).toNat) (fun (k : Int) (ow : Row Int) => [(0, .int .i64 room), (1, .slice A_l l.length cap_l), (14, .int .i64 room), (15, .tuple #[.pointer (some (⟨gL1, 0, none⟩ : Addr)), .int .i64 0]), (13, .tuple #[.pointer (some (⟨gL1, 0, none⟩ : Addr)), .int .i64 0]), (16, .pointer (some (⟨gL1, 0, none⟩ : Addr))), (17, .int .i64 0), (5, .pointer (some (⟨gL1, 0, none⟩ : Addr))), (6, .int .i64 0), (18, .int .i64 room), (19, .bool (decide (room < 1))), (20, .bool false), (21, .int .i64 room), (22, .bool (decide (4096 < room))), (23, .bool (decide (4096 < room))), (33, .pointer (some (⟨gL1, 0, none⟩ : Addr))), (34, .bool false), (35, .bool false), (36, .int .i64 0), (37, .bool false), (38, .bool false), (39, .int .i64 room), (40, .agg ([.int .i64 room, .slice none 0 0]).toArray), (7, .pointer (some (⟨g4, 0, none⟩ : Addr))), (8, .int .i64 i), (41, .int .i64 i), (42, .slice A_l l.length cap_l), (43, .int .i64 (l.length : Int)), (44, .bool (decide (i < (l.length : Int)))), (47, .slice A_l l.length cap_l), (48, .int .i64 i), (49, .pointer (some (ad9.add (i.toNat * 13)))), (50, .agg (chL (nth l i) A9 cap9).toArray), (51, .agg ([.int .i64 ((nth l i).at_.c), .int .i64 ((nth l i).at_.r), .int .i64 ((nth l i).seq), .slice A10 ((nth l i).deps.length) cap10, .int .i64 ((nth l i).kind), .int .i64 ((nth l i).node.c), .int .i64 ((nth l i).node.r), .int .i64 ((nth l i).par.c), .int .i64 ((nth l i).par.r), .int .i64 ((nth l i).aft.c), .int .i64 ((nth l i).aft.r), .string ((nth l i).name), .string ((nth l i).val)]).toArray), (9, .pointer (some (⟨g11, 0, none⟩ : Addr))), (53, .agg ([.int .i64 room, .slice yl.A yl.l.length yl.c]).toArray), (54, .slice A_l l.length cap_l), (55, .int .i64 i), (56, .pointer (some (ad9.add (i.toNat * 13)))), (57, .agg (chL (nth l i) A9 cap9).toArray), (10, .pointer (some (⟨g26, 0, none⟩ : Addr))), (58, .tuple #[.agg ([.int .i64 room, .slice Ay27 ((if whyR yl.l room (nth l i) = 0 then putC yl.l (nth l i) else yl.l).length) cy27]).toArray, .int .i64 (whyR yl.l room (nth l i))]), (52, .tuple #[.agg ([.int .i64 room, .slice Ay27 ((if whyR yl.l room (nth l i) = 0 then putC yl.l (nth l i) else yl.l).length) cy27]).toArray, .int .i64 (whyR yl.l room (nth l i))]), (59, .agg ([.int .i64 room, .slice Ay27 ((if whyR yl.l room (nth l i) = 0 then putC yl.l (nth l i) else yl.l).length) cy27]).toArray), (60, .int .i64 (whyR yl.l room (nth l i))), (11, .int .i64 (whyR yl.l room (nth l i))), (61, .agg ([.int .i64 room, .slice Ay27 ((if whyR yl.l room (nth l i) = 0 then putC yl.l (nth l i) else yl.l).length) cy27]).toArray), (62, .pointer (some (⟨gL1, 0, none⟩ : Addr))), (63, .agg ([.int .i64 ((nth l i).at_.c), .int .i64 ((nth l i).at_.r), .int .i64 ((nth l i).seq), .slice A10 ((nth l i).deps.length) cap10, .int .i64 ((nth l i).kind), .int .i64 ((nth l i).node.c), .int .i64 ((nth l i).node.r), .int .i64 ((nth l i).par.c), .int .i64 ((nth l i).par.r), .int .i64 ((nth l i).aft.c), .int .i64 ((nth l i).aft.r), .string ((nth l i).name), .string ((nth l i).val)]).toArray), (64, .int .i64 (whyR lv.l room (nth l i))), (65, .int .i64 (whyR yl.l room (nth l i))), (66, .bool (!decide ((whyR lv.l room (nth l i)) = (whyR yl.l room (nth l i))))), (12, .int .i64 k)]) (fun (k : Int) (ow : Row Int) w' => (0 ≤ k) ∧ (k ≤ (nth l i).deps.length) ∧ (ow.l.length = (nth l i).deps.length) ∧ (Reps tI w no ow.l ow.f) ∧ St w w' [(12, blkL g26 ([.int .i64 room, .slice Ay27 ((if whyR yl.l room (nth l i) = 0 then putC yl.l (nth l i) else yl.l).length) cy27]) 47), (6, blkL g11 ([.int .i64 ((nth l i).at_.c), .int .i64 ((nth l i).at_.r), .int .i64 ((nth l i).seq), .slice ow.A ((nth l i).deps.length) ow.c, .int .i64 ((nth l i).kind), .int .i64 ((nth l i).node.c), .int .i64 ((nth l i).node.r), .int .i64 ((nth l i).par.c), .int .i64 ((nth l i).par.r), .int .i64 ((nth l i).aft.c), .int .i64 ((nth l i).aft.r), .string ((nth l i).name), .string ((nth l i).val)]) 55), (5, own 3 1 (.slice ow.A ((nth l i).deps.length) ow.c) ((nth l i).deps.length) ow.f), (4, fz w27 (or_ yl.F (nw w26 w27))), (2, blkL g4 ([.int .i64 room, .slice Ay27 ((if whyR yl.l room (nth l i) = 0 then putC yl.l (nth l i) else yl.l).length) cy27]) 47), (1, logE FN30 gL1 room (if whyR lv.l room (nth l i) = 0 then putC lv.l (nth l i) else lv.l)), (0, fz w (lt_ w))]) 0 (⟨A10, cap10, fl10, (nth l i).deps⟩) ⟨(by first | omega | rfl), (by first | omega | rfl), (by first | omega | rfl), hR10, hS30⟩ ⟨rfl, rfl, rfl, rfl, rfl, rfl, rfl, rfl, rfl, rfl, rfl, rfl, rfl, rfl, rfl, rfl, rfl, rfl, rfl, rfl, rfl, rfl, rfl, rfl, rfl, rfl, rfl, rfl, rfl, rfl, rfl, rfl, rfl, rfl, rfl, rfl, rfl, rfl, rfl, rfl, rfl, rfl, rfl, rfl, rfl, rfl, rfl, rfl, rfl, rfl, rfl, rfl, rfl, trivial⟩ ?_
            rintro k ow w32 ⟨h2, h3, hlw, hR_ow, hS32⟩
            refine C_seq ?_
            refine C_seq ?_
            refine C_region ?_
            refine J_q 67 rfl rfl rfl rfl (Q_move rfl rfl) ?_
            refine J_q 68 rfl rfl rfl rfl (Q_fa0 rfl rfl fo55_2) ?_
            refine J_q 69 rfl rfl rfl rfl (Q_ldB1 (k := 6) hS32 rfl rfl rfl Try.isAgg44 rfl) ?_
            refine J_q 70 rfl rfl rfl rfl (Q_len rfl rfl Try.underlying44) ?_
            refine J_q 71 rfl rfl rfl rfl (Q_lss rfl rfl rfl) ?_
            refine J_nil (K_seq ?_)
            refine C_if rfl (fun h33 => ?_) (fun h33 => ?_)
            · refine C_skip (K_seq ?_)
              refine C_seq ?_
              refine C_block ?_
              refine C_region ?_
              refine J_q 74 rfl rfl rfl rfl (Q_fa0 rfl rfl fo55_2) ?_
              refine J_q 75 rfl rfl rfl rfl (Q_ldB1 (k := 6) hS32 rfl rfl rfl Try.isAgg44 rfl) ?_
              refine J_q 76 rfl rfl rfl rfl (Q_move rfl rfl) ?_
              obtain ⟨ga34, hA34⟩ := own_addr (hS32.get (k := 5) rfl) (by omega)
              refine J_q 77 rfl rfl rfl rfl (Q_iaE hA34 rfl rfl rfl Try.underlying44 Try.sizeOf3 (by omega) (by omega)) ?_
              refine J_do0 rfl rfl rfl rfl (D_setI (k := 5) ow.l k (-7) hlw hS32 rfl hR_ow hA34 (by omega) (by omega) rfl rfl rfl Try.sizeOf3 (fun w35 hS35 => ?_))
              refine J_nil (N_blk (K_seq ?_))
              refine C_region ?_
              refine J_q 72 rfl rfl rfl rfl (Q_move rfl rfl) ?_
              refine J_q 73 rfl rfl rfl rfl (Q_add rfl rfl rfl (by omega) (by omega)) ?_
              refine J_q 12 rfl rfl rfl rfl (Q_assign rfl rfl) ?_
              exact J_nil (K_round2 (x0 := k) (x1 := ow) (k + 1) ⟨ow.A, ow.c, (ow.f.set (k).toNat (.int .i64 (-7))), (ow.l.set (k).toNat (-7))⟩ ⟨(by first | omega | (simp only [List.length_set]; omega)), (by first | omega | (simp only [List.length_set]; omega)), (by first | omega | (simp only [List.length_set]; omega)), (Reps.setI hR_ow (by omega) (by omega)), hS35⟩ (by omega) ⟨rfl, rfl, rfl, rfl, rfl, rfl, rfl, rfl, rfl, rfl, rfl, rfl, rfl, rfl, rfl, rfl, rfl, rfl, rfl, rfl, rfl, rfl, rfl, rfl, rfl, rfl, rfl, rfl, rfl, rfl, rfl, rfl, rfl, rfl, rfl, rfl, rfl, rfl, rfl, rfl, rfl, rfl, rfl, rfl, rfl, rfl, rfl, rfl, rfl, rfl, rfl, rfl, rfl, trivial⟩)
            · refine C_exit (X_then (X_then (X_hit (K_seq ?_))))
              refine C_seq ?_
              refine C_region ?_
              refine J_q 78 rfl rfl rfl rfl (Q_move rfl rfl) ?_
              refine J_q 79 rfl rfl rfl rfl (Q_ldBK' (k := 2) ([.int .i64 room, .slice Ay27 ((if whyR yl.l room (nth l i) = 0 then putC yl.l (nth l i) else yl.l).length) cy27]) hS32 rfl rfl rfl Try.isAgg47 Try.sizeOf47 rfl rfl) ?_
              obtain ⟨pL36, hLR36⟩ := LogAt.logR (hS32.get (k := 1) rfl)
              refine J_call 80 rfl rfl rfl rfl (T_call rfl rfl rfl Try.call47) (Ltold_calls _ _ _ _ _ (hLR36.mono (hS32.fpLt (k := 1) rfl)) _ (by first | exact (hS32.rd 4 rfl hry27) | (have hq9 := (hS32.rd 4 rfl hry27); rw [hyl] at hq9; exact hq9) | (rw [← hyl]; exact (hS32.rd 4 rfl hry27)))) ?_
              rintro _ w37 ⟨rfl, hk37⟩
              have hS37 := hS32.kp0 hk37
              refine ⟨_, rfl, ?_⟩
              refine J_q 81 rfl rfl rfl rfl (Q_not rfl rfl) ?_
              refine J_nil (K_seq ?_)
              refine C_false rfl ?_
              refine C_skip (N_blk (K_seq ?_))
              refine C_region ?_
              refine J_q 45 rfl rfl rfl rfl (Q_move rfl rfl) ?_
              refine J_q 46 rfl rfl rfl rfl (Q_add rfl rfl rfl (by omega) (by omega)) ?_
              refine J_q 8 rfl rfl rfl rfl (Q_assign rfl rfl) ?_
              exact J_nil (K_round3 (x0 := i) (x1 := lv) (x2 := yl) (i + 1) ⟨FN30, (if whyR lv.l room (nth l i) = 0 then putC lv.l (nth l i) else lv.l)⟩ ⟨Ay27, cy27, (if whyR yl.l room (nth l i) = 0 then putC yl.l (nth l i) else yl.l), w27, or_ yl.F (nw w26 w27)⟩ ⟨(by first | omega | (rw [addAll_snoc h0 (by omega), ← hn1]; done) | (rw [addAll_snoc h0 (by omega), ← hn2]; done)), (by first | omega | (rw [addAll_snoc h0 (by omega), ← hn1]; done) | (rw [addAll_snoc h0 (by omega), ← hn2]; done)), (by first | omega | (rw [addAll_snoc h0 (by omega), ← hn1]; done) | (rw [addAll_snoc h0 (by omega), ← hn2]; done)), (by first | omega | (rw [addAll_snoc h0 (by omega), ← hn1]; done) | (rw [addAll_snoc h0 (by omega), ← hn2]; done)), hry27, (hS37.pick [4, 2, 1, 0] ⟨rfl, rfl, rfl, rfl, rfl, rfl, rfl, rfl, trivial⟩)⟩ (by omega) ⟨rfl, rfl, rfl, rfl, rfl, rfl, rfl, rfl, rfl, rfl, rfl, rfl, rfl, rfl, rfl, rfl, rfl, rfl, rfl, rfl, rfl, rfl, rfl, rfl, rfl, trivial⟩)
      · refine C_exit (X_then (X_then (X_hit (K_seq ?_))))
        refine C_seq ?_
        refine C_region ?_
        refine J_call 82 rfl rfl rfl rfl (T_call rfl rfl rfl Try.call30) (awake_calls _) ?_
        rintro _ w38 ⟨rfl, hk38⟩
        have hS38 := hS7.kp0 hk38
        refine ⟨_, rfl, ?_⟩
        refine J_q 4 rfl rfl rfl rfl (Q_assign rfl rfl) ?_
        refine J_nil (K_seq ?_)
        refine C_ret (body_ret (res1 rfl rfl) ?_)
        exact ⟨rfl, hS38.kept (k := 0) rfl⟩
end Go.Proofs.Ytceeellnjckmiaa

/- OplogAdds at any room. -/
namespace Go.Proofs.Ytceeellnjckmiaa
open Go Go.Sl
theorem OplogAdds_calls (w : World) (room : Int) (v_l : Value) (l : List Change) (h_l : (tSl tCh).rd w [v_l] l) (hR : InR room) :
    Calls Try.prog 8 #[.int .i64 room, v_l] w fun e w' => e = .returned (.bool true) ∧ Kp no w w' := by
  by_cases h : 1 ≤ room ∧ room ≤ 4096
  · exact OplogAddsG_calls w room v_l l h_l h
  · exact OplogAddsB_calls w room v_l l h_l (by omega)
end Go.Proofs.Ytceeellnjckmiaa

/- What comes in, opened: from the reading of an argument to what its cells read as. -/
namespace Go.Proofs.Ytceeellnjckmiaa.opens
open Go Go.Sl Go.ChangeShapes Go.WideShapes Go.RowKit

theorem one_le {H : Type} (d : DataW H) : 1 ≤ Rows.uptoBulk d := by
  cases d with
  | lit l => cases l <;> simp [Rows.uptoBulk]
  | _ => simp [Rows.uptoBulk]
theorem part_le {H : Type} {d : DataW H} {l : List (DataW H)} (h : d ∈ l) : Rows.uptoBulk d ≤ Rows.uptoBulkAll l := by
  induction l with
  | nil => cases h
  | cons x r ih =>
    simp only [Rows.uptoBulkAll]
    cases List.mem_cons.1 h with
    | inl e => subst e; omega
    | inr e => have := ih e; omega
theorem length_le {H : Type} (l : List (DataW H)) : l.length ≤ Rows.uptoBulkAll l := by
  induction l with
  | nil => simp [Rows.uptoBulkAll]
  | cons x r ih => have := one_le x; simp only [Rows.uptoBulkAll, List.length_cons]; omega
theorem bulk_slice {H : Type} (a b : List (DataW H)) : Rows.uptoBulk (DataW.slice a b) = Rows.uptoBulkAll a + Rows.uptoBulkAll b + 1 := by simp [Rows.uptoBulk]
theorem bulk_agg {H : Type} (a : List (DataW H)) : Rows.uptoBulk (DataW.agg a) = Rows.uptoBulkAll a + 1 := by simp [Rows.uptoBulk]

/-- What reads at this type (and is small) reads as d says. -/
def Opens {α : Type} (t : TypeId) (d : Ty α) : Prop := ∀ (H : Type) (enc : TypeId × Value → H) (w : World) (sp : Nat → Bool) (hd : Bool) (fuel : Nat) (cs : List Value) (x : DataW H × List MemPlace),
  DataW.trod enc Try.prog w 0 sp hd fuel t cs = some x → Rows.uptoBulk x.1 ≤ 1048576 → ∃ a, d.rd w cs a

theorem cells_at {w : World} {ad : Addr} {n : Nat} {cs : List Value} (h : w.cells? 0 ad n = some cs) : CellsAt w ad cs := by
  intro j v hv
  unfold World.cells? at h
  rw [if_pos (Nat.zero_le _)] at h
  have hl := mapM_some_length h
  have hj : j < n := by have := (List.getElem?_eq_some_iff.1 hv).1; simp at hl; omega
  rw [mapM_some_get h j j (by simp [hj]), hv]

theorem wf_in {a : Int} (h : (Lit.int .i64 a).wf = true) : InR a := by
  simp [Lit.wf, IntKind.min, IntKind.max, IntKind.signed, IntKind.bits] at h
  constructor <;> omega

theorem opens_int : Opens 3 tI := by
  intro H enc w sp hd fuel cs x h _
  obtain ⟨n, rfl, _, hw⟩ := DataW.trod_int Try.underlying3 h
  exact ⟨n, rfl, wf_in hw⟩
theorem str_le {H : Type} {s : ByteArray} (h : Rows.uptoBulk (DataW.lit (H := H) (.string s.data.toList)) ≤ 1048576) : s.size ≤ 140737488355328 := by
  simp only [Rows.uptoBulk, Array.length_toList] at h
  show s.data.size ≤ _
  omega
theorem opens_str : Opens 9 tS := by
  intro H enc w sp hd fuel cs x h hb
  obtain ⟨n, rfl, rfl, hw⟩ := DataW.trod_string Try.underlying9 h
  exact ⟨n, rfl, str_le hb⟩
set_option maxRecDepth 100000 in
theorem opens_st : Opens 23 tSt := by
  intro H enc w sp hd fuel cs x h _
  obtain ⟨y0, y1, n, rfl, hl, h0, h1⟩ := trod_struct2 Try.underlying23 h
  obtain ⟨a0, e0, _, w0⟩ := DataW.trod_int Try.underlying3 h0
  obtain ⟨a1, e1, _, w1⟩ := DataW.trod_int Try.underlying3 h1
  rw [show Try.prog.cellsOf 23 = 2 by kernel_rfl] at hl
  rw [show Try.prog.cellsOf 3 = 1 by kernel_rfl] at e0 e1
  match cs, hl with
  | [c0, c1], _ => simp at e0 e1; subst e0 e1; exact ⟨⟨a0, a1⟩, rfl, wf_in w0, wf_in w1⟩
set_option maxRecDepth 100000 in
theorem opens_slice {α : Type} {t e : TypeId} {d : Ty α} (ht : Try.prog.underlying t = some (.slice e)) (hc : Try.prog.cellsOf e = d.sz) (ho : Opens e d) : Opens t (tSl d) := by
  intro H enc w sp hd fuel cs x h hb
  rcases Go.Deep.open_slice ht h with ⟨rfl, rfl⟩ | ⟨a, len, cap, m, n, D, Pl, hcs, h8, hlc, h9, hm, hx, hel⟩
  rotate_left
  subst hcs hx
  rotate_right
  · exact ⟨[], none, 0, rfl, Nat.le_refl _, Nat.zero_le _, fun i x hx => by simp at hx⟩
  · have hlm : len ≤ m := by rw [hm]; split <;> omega
    have hb1 := hb
    simp only [bulk_slice] at hb1
    have hll := length_le ((List.range len).map D)
    simp at hll
    have hE : ∀ i, i < len → ∃ y, ∃ cs', CellsAt w (a.add (i * d.sz)) cs' ∧ d.rd w cs' y := by
      intro i hi
      obtain ⟨cs', h1, h2⟩ := hel i (by omega)
      have hp := part_le (d := D i) (l := (List.range len).map D) (List.mem_map.2 ⟨i, by simpa using hi, rfl⟩)
      obtain ⟨y, hy⟩ := ho H enc w sp hd n cs' _ h2 (by show Rows.uptoBulk (D i) ≤ _; omega)
      exact ⟨y, cs', cells_at (by rw [← hc]; exact h1), hy⟩
    have hX : ∃ xs : List α, xs.length = len ∧ ∀ i x, xs[i]? = some x → ∃ cs', CellsAt w (a.add (i * d.sz)) cs' ∧ d.rd w cs' x := by
      clear hel hb hb1 hll hlm hm hlc h
      induction len with
      | zero => exact ⟨[], rfl, fun i x hx => by simp at hx⟩
      | succ k ih =>
        obtain ⟨xs, hl, hx⟩ := ih (fun i hi => hE i (by omega))
        obtain ⟨y, hy⟩ := hE k (by omega)
        refine ⟨xs ++ [y], by simp [hl], fun i x hi => ?_⟩
        by_cases hik : i < xs.length
        · rw [List.getElem?_append_left hik] at hi; exact hx i x hi
        · have h2 := (List.getElem?_eq_some_iff.1 hi).1
          simp at h2
          obtain rfl : i = k := by omega
          rw [List.getElem?_append_right (by omega), hl] at hi
          simp at hi; subst hi; exact hy
    obtain ⟨xs, rfl, hx⟩ := hX
    refine ⟨xs, some a, cap, rfl, hlc, by unfold maxL; omega, fun i x hi => ?_⟩
    obtain ⟨cs', h1, h2⟩ := hx i x hi
    exact ⟨a, cs', rfl, h1, h2⟩
theorem opens_ints : Opens 44 (tSl tI) := opens_slice Try.underlying44 (by kernel_rfl) opens_int
set_option maxRecDepth 100000 in
theorem opens_ch : Opens 55 tCh := by
  intro H enc w sp hd fuel cs x h hb
  obtain ⟨xs, n, _, rfl, hl, hlen, hf⟩ := DataW.trod_struct Try.underlying55 h
  match xs, hlen with
  | [y0, y1, y2, y3, y4, y5, y6, y7, y8], _ =>
    have g0 : DataW.trod enc Try.prog w 0 sp hd n 23 ((cs.drop 0).take (Try.prog.cellsOf 23)) = some y0 := hf 0 _ rfl
    have g1 : DataW.trod enc Try.prog w 0 sp hd n 3 ((cs.drop 2).take (Try.prog.cellsOf 3)) = some y1 := hf 1 _ rfl
    have g2 : DataW.trod enc Try.prog w 0 sp hd n 44 ((cs.drop 3).take (Try.prog.cellsOf 44)) = some y2 := hf 2 _ rfl
    have g3 : DataW.trod enc Try.prog w 0 sp hd n 3 ((cs.drop 4).take (Try.prog.cellsOf 3)) = some y3 := hf 3 _ rfl
    have g4 : DataW.trod enc Try.prog w 0 sp hd n 23 ((cs.drop 5).take (Try.prog.cellsOf 23)) = some y4 := hf 4 _ rfl
    have g5 : DataW.trod enc Try.prog w 0 sp hd n 23 ((cs.drop 7).take (Try.prog.cellsOf 23)) = some y5 := hf 5 _ rfl
    have g6 : DataW.trod enc Try.prog w 0 sp hd n 23 ((cs.drop 9).take (Try.prog.cellsOf 23)) = some y6 := hf 6 _ rfl
    have g7 : DataW.trod enc Try.prog w 0 sp hd n 9 ((cs.drop 11).take (Try.prog.cellsOf 9)) = some y7 := hf 7 _ rfl
    have g8 : DataW.trod enc Try.prog w 0 sp hd n 9 ((cs.drop 12).take (Try.prog.cellsOf 9)) = some y8 := hf 8 _ rfl
    clear hf
    have hb2 := part_le (d := y2.1) (l := [y0.1, y1.1, y2.1, y3.1, y4.1, y5.1, y6.1, y7.1, y8.1]) (by simp)
    have hb0 := part_le (d := y0.1) (l := [y0.1, y1.1, y2.1, y3.1, y4.1, y5.1, y6.1, y7.1, y8.1]) (by simp)
    have hb4 := part_le (d := y4.1) (l := [y0.1, y1.1, y2.1, y3.1, y4.1, y5.1, y6.1, y7.1, y8.1]) (by simp)
    have hb5 := part_le (d := y5.1) (l := [y0.1, y1.1, y2.1, y3.1, y4.1, y5.1, y6.1, y7.1, y8.1]) (by simp)
    have hb7 := part_le (d := y7.1) (l := [y0.1, y1.1, y2.1, y3.1, y4.1, y5.1, y6.1, y7.1, y8.1]) (by simp)
    have hb8 := part_le (d := y8.1) (l := [y0.1, y1.1, y2.1, y3.1, y4.1, y5.1, y6.1, y7.1, y8.1]) (by simp)
    have hb6 := part_le (d := y6.1) (l := [y0.1, y1.1, y2.1, y3.1, y4.1, y5.1, y6.1, y7.1, y8.1]) (by simp)
    have hbb : Rows.uptoBulkAll [y0.1, y1.1, y2.1, y3.1, y4.1, y5.1, y6.1, y7.1, y8.1] + 1 ≤ 1048576 := by rw [← bulk_agg]; exact hb
    obtain ⟨a0, e0, w0⟩ := opens_st H enc w sp hd n _ _ g0 (by omega)
    obtain ⟨a1, e1, _, w1⟩ := DataW.trod_int Try.underlying3 g1
    obtain ⟨a2, A2, c2, e2, d2, l2, r2⟩ := opens_ints H enc w sp hd n _ _ g2 (by omega)
    obtain ⟨a3, e3, _, w3⟩ := DataW.trod_int Try.underlying3 g3
    obtain ⟨a4, e4, w4⟩ := opens_st H enc w sp hd n _ _ g4 (by omega)
    obtain ⟨a5, e5, w5⟩ := opens_st H enc w sp hd n _ _ g5 (by omega)
    obtain ⟨a6, e6, w6⟩ := opens_st H enc w sp hd n _ _ g6 (by omega)
    obtain ⟨a7, e7, w7⟩ := opens_str H enc w sp hd n _ _ g7 (by omega)
    obtain ⟨a8, e8, w8⟩ := opens_str H enc w sp hd n _ _ g8 (by omega)
    rw [show Try.prog.cellsOf 55 = 13 by kernel_rfl] at hl
    rw [show Try.prog.cellsOf 23 = 2 by kernel_rfl] at e0 e4 e5 e6
    rw [show Try.prog.cellsOf 3 = 1 by kernel_rfl] at e1 e3
    rw [show Try.prog.cellsOf 44 = 1 by kernel_rfl] at e2
    rw [show Try.prog.cellsOf 9 = 1 by kernel_rfl] at e7 e8
    match cs, hl with
    | [c0, c1, c2', c3, c4, c5, c6, c7, c8, c9, c10, c11, c12], _ =>
      simp [stL] at e0 e1 e2 e3 e4 e5 e6 e7 e8
      obtain ⟨rfl, rfl⟩ := e0; obtain ⟨rfl, rfl⟩ := e4; obtain ⟨rfl, rfl⟩ := e5; obtain ⟨rfl, rfl⟩ := e6
      subst e1 e2 e3 e7 e8
      exact ⟨⟨a0, a1, a2, a3, a4, a5, a6, a7, a8⟩, A2, c2, rfl, ⟨A2, c2, rfl, d2, l2, r2⟩, ⟨w0, wf_in w1, wf_in w3, w4, w5, w6, w7, w8⟩⟩
theorem opens_chs : Opens 43 (tSl tCh) := opens_slice Try.underlying43 (by kernel_rfl) opens_ch
/-- .. of a value whose cells are one. -/
theorem one_cell {α : Type} {t : TypeId} {d : Ty α} (ho : Opens t d) {H : Type} {enc : TypeId × Value → H} {w : World} {sp : Nat → Bool} {hd : Bool} {v : Value} {y : DataW H} {p : List MemPlace} (h : DataW.Trod enc Try.prog w 0 sp hd t v y p) (hb : Rows.uptoBulk y ≤ 1048576) : ∃ a, d.rd w v.cells.toList a := by
  obtain ⟨fuel, hf⟩ := h
  exact ho H enc w sp hd fuel _ _ hf hb
set_option maxRecDepth 100000 in
theorem open_ask {H : Type} {enc : TypeId × Value → H} {w : World} {sp : Nat → Bool} {hd : Bool} {v : Value} {y : DataW H} {p : List MemPlace} (h : DataW.Trod enc Try.prog w 0 sp hd 62 v y p) : ∃ a b c d : Int, v.cells.toList = [.int .i64 a, .int .i64 b, .int .i64 c, .int .i64 d] ∧ InR a ∧ InR b := by
  obtain ⟨fuel, hf⟩ := h
  obtain ⟨xs, n, _, _, hl, hlen, hf⟩ := DataW.trod_struct Try.underlying62 hf
  match xs, hlen with
  | [y0, y1, y2], _ =>
    have g0 : DataW.trod enc Try.prog w 0 sp hd n 23 ((v.cells.toList.drop 0).take (Try.prog.cellsOf 23)) = some y0 := hf 0 _ rfl
    have g1 : DataW.trod enc Try.prog w 0 sp hd n 3 ((v.cells.toList.drop 2).take (Try.prog.cellsOf 3)) = some y1 := hf 1 _ rfl
    have g2 : DataW.trod enc Try.prog w 0 sp hd n 3 ((v.cells.toList.drop 3).take (Try.prog.cellsOf 3)) = some y2 := hf 2 _ rfl
    clear hf
    obtain ⟨_, _, m, _, hl0, h0, h1⟩ := trod_struct2 Try.underlying23 g0
    obtain ⟨a0, e0, _, w0⟩ := DataW.trod_int Try.underlying3 h0
    obtain ⟨a1, e1, _, w1⟩ := DataW.trod_int Try.underlying3 h1
    obtain ⟨a2, e2, _, w2⟩ := DataW.trod_int Try.underlying3 g1
    obtain ⟨a3, e3, _, w3⟩ := DataW.trod_int Try.underlying3 g2
    rw [show Try.prog.cellsOf 62 = 4 by kernel_rfl] at hl
    rw [show Try.prog.cellsOf 3 = 1 by kernel_rfl] at e0 e1 e2 e3
    rw [show Try.prog.cellsOf 23 = 2 by kernel_rfl] at e0 e1
    generalize v.cells.toList = cs at *
    match cs, hl with
    | [c0, c1, c2, c3], _ =>
      simp at e0 e1 e2 e3
      subst e0 e1 e2 e3
      exact ⟨a0, a1, a2, a3, rfl, wf_in w0, wf_in w1⟩
end Go.Proofs.Ytceeellnjckmiaa.opens

/- The row of OplogAdds. -/
namespace Go.Proofs.Ytceeellnjckmiaa.oplogAdds
open Go Go.Sl Go.ChangeShapes Go.WideShapes Go.ChangeAt Go.RowKit
open Go.ChangeMaps (open_string shut_string)
set_option maxRecDepth 100000
theorem own : ownKnob Try.prog.godebug = none := by kernel_rfl
theorem laidOut : laidOutB Try.prog = true := by kernel_rfl
theorem lifted (os : Os) (started : os.Started) (H : Type) (enc : TypeId × Value → H) (F : Stop.Interp) :
    ReturnsInHanded {} Try.checked os 8 .any ((Rows.OpenSpec.upto Rows.oplogAddsSpec).pre6 enc Try.prog Try.f8 Rows.oplogAddsUptoRow.domain false) (((Rows.OpenSpec.upto Rows.oplogAddsSpec).at F).post enc Try.prog Try.f8 false true false false) := by
  refine returnsInHanded_of_cond (C := Try.checked) (s := (Rows.OpenSpec.upto Rows.oplogAddsSpec)) (k := Rows.uptoSmall) rfl own started (by kernel_rfl) Try.func8
    (OpenSpec.witness (enc := enc) (C := Try.checked) (s := (Rows.OpenSpec.upto Rows.oplogAddsSpec)) (k := Rows.uptoSmall) rfl false ⟨#[], #[.int .i64 0, .slice none 0 0], []⟩ 8 (by kernel_rfl) (by kernel_rfl) (by kernel_rfl)
      (x := ([.lit (.int .i64 0), .nil], [], [])) (by kernel_rfl) rfl (by kernel_rfl)) ?_
  intro W base args ds gs before hval0 hW _ hk _
  have hval : ∀ (j : Nat) t v, Try.f8.params[j]? = some t → args[j]? = some v → Value.okWide Try.prog W .any base t v := hval0
  have hW' := hW
  obtain ⟨p, q, hA0, hV, rfl, hfz, hnd⟩ := hW
  have hA : DataW.TrodAll enc Try.prog W 0 (fun _ => true) true Try.f8.params.toList args.toList ds p := hA0
  rw [Try.params8] at hA hval
  obtain ⟨v0, vs0, d0, ds0, p0, q0, hargs, rfl, rfl, h0, r0⟩ := trodAll_cons hA
  obtain ⟨v1, vs1, d1, ds1, p1, q1, rfl, rfl, rfl, h1, r1⟩ := trodAll_cons r0
  obtain ⟨rfl, rfl, rfl⟩ := trodAll_nil r1
  obtain rfl : args = #[v0, v1] := by cases args; simp_all
  obtain ⟨rfl, rfl⟩ := trodVars_none hV
  have hb : Rows.uptoBulkAll [d0, d1] ≤ 1048576 := of_decide_eq_true hk
  have lt0 : ∀ x ∈ p0, x.block < W.heap.size := by obtain ⟨m, hm⟩ := h0; exact DataW.trod_lt m _ _ _ hm
  have hb0 := opens.part_le (d := d0) (l := [d0, d1]) (by simp)
  obtain ⟨x0, hx0⟩ := opens.one_cell opens.opens_int h0 (Nat.le_trans hb0 hb)
  obtain ⟨n0, rfl⟩ := okWide_int Try.underlying3 (hval 0 3 v0 rfl rfl)
  obtain ⟨hx0a, hx0b⟩ := hx0
  simp [Value.cells] at hx0a
  subst hx0a
  have lt1 : ∀ x ∈ p1, x.block < W.heap.size := by obtain ⟨m, hm⟩ := h1; exact DataW.trod_lt m _ _ _ hm
  have hb1 := opens.part_le (d := d1) (l := [d0, d1]) (by simp)
  obtain ⟨x1, hx1⟩ := opens.one_cell opens.opens_chs h1 (Nat.le_trans hb1 hb)
  obtain ⟨a1, len1, cap1, rfl⟩ := okWide_slice Try.underlying43 (hval 1 43 v1 rfl rfl)
  have hy1 : (tSl tCh).rd W [.slice a1 len1 cap1] x1 := by simpa [Value.cells] using hx1
  clear hA0 hval0
  refine (OplogAdds_calls W n0 _ x1 hy1 hx0b).mono fun e W' ⟨he, hk⟩ => ?_
  subst he
  have bel := hk.below
  exact ⟨_, rfl, _, _, _, [], _, [], hW', trodAll_mk1 (shut_bool Try.underlying4 _), (trodAll_cons_mk (Below.trod laidOut (by kernel_rfl) (of_decide_eq_true (by kernel_rfl)) h0 bel lt0) (trodAll_cons_mk (Below.trod laidOut (by kernel_rfl) (of_decide_eq_true (by kernel_rfl)) h1 bel lt1) trodAll_mk0)), rfl, bel.frame _, fun h => by cases h⟩
theorem over : Rows.oplogAddsUptoRow.holds Try.pinned (Rows.OpenSpec.upto Rows.oplogAddsSpec) :=
  OpenClaim.holds_of_cond 8 Try.f8 rfl rfl rfl rfl rfl rfl rfl ⟨rfl, rfl, rfl, rfl, rfl⟩ rfl rfl rfl rfl rfl (by kernel_rfl) Try.func8 (by kernel_rfl)
    (of_decide_eq_true (by kernel_rfl)) (by unfold Func.isWrapper; first | (rw [if_pos (by decide +kernel)]; kernel_rfl) | (rw [if_neg (by decide +kernel)]; exact ⟨rfl, rfl⟩))
    (fun os started H enc _ F => lifted os started H enc F)
end Go.Proofs.Ytceeellnjckmiaa.oplogAdds
namespace Go.Proofs.Ytceeellnjckmiaa
theorem oplogAdds_holds : Rows.OplogAddsUptoSaid := oplogAdds.over
end Go.Proofs.Ytceeellnjckmiaa

