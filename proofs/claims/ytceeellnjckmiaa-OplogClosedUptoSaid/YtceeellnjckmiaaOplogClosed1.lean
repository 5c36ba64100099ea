/- The texts Le, Sl29, Sl30, Pl10, Lh, Li, Sl28, WClosed, merged. Proved: what their theorems say, with no condition but those written. -/
import Derived.Test.YtceeellnjckmiaaRows
import Derived.JoinedCond
import Derived.Deep.Slices
import Derived.WalkKit
import Derived.ProofKit
import Derived.OpenShut
import Derived.ShutString
import Derived.ChangeOld
import Derived.Below
import Derived.Carry
import Derived.Test.YtceeellnjckmiaaBase7
/- Printed by a program of mine (gen.py). -/
set_option linter.unusedVariables false
set_option linter.unusedSimpArgs false
set_option maxRecDepth 100000
namespace Go.Proofs.Ytceeellnjckmiaa
open Go Go.Sl
theorem RCopyO_calls (w : World) (l_c : List Value) (c : Change) (h_c : tCh.rd w l_c c) :
    Calls Try.prog 45 #[.agg l_c.toArray] w fun e w' => ∃ A cap fl, e = .returned (.agg (chL c A cap).toArray) ∧ Kp no w w' ∧ w'.ownsRow 0 3 1 (.slice A c.deps.length cap) c.deps.length fl ∧ Reps tI w no c.deps fl ∧ (∀ b, (Value.slice A c.deps.length cap).ownBlock = some b → nw w w' b) ∧ ChOk c := by
  have hS0 := St.start w
  have hF_c := RdF.of_rd h_c
  obtain ⟨A_c, cap_c, rfl, hd_c, ho_c⟩ := openCh hF_c
  have hln_c := RdF.lens hd_c
  have hsq_c := ho_c.seq
  refine fn_calls' 9 (args := [_]) Try.func45 rfl rfl rfl ?_
  refine C_seq ?_
  refine C_region ?_
  refine J_do 1 rfl rfl rfl rfl (D_box 1 hS0 rfl rfl (fun g1 w1 hS1 => ?_))
  refine J_do 2 rfl rfl rfl rfl (D_alloc 2 hS1 rfl Try.zeroValue55 (fun g2 w2 hS2 => ?_))
  refine J_nil (K_seq ?_)
  refine C_seq ?_
  refine C_region ?_
  refine J_do 3 rfl rfl rfl rfl (D_bs (e := 3) (ps := []) 3 ([]) hS2 rfl rfl (fun _ => by kernel_rfl) (fun g3 w3 hS3 => ?_))
  refine J_q 4 rfl rfl rfl rfl (Q_fa0 rfl rfl fo55_2) ?_
  refine J_q 5 rfl rfl rfl rfl (Q_ldB1 (k := 1) hS3 rfl rfl rfl Try.isAgg44 rfl) ?_
  have hS4 := hS3.lit0 (sz := 1) 3 rfl
  refine J_do 6 rfl rfl rfl rfl (D_appSL ([]) c.deps app44 hS4 3 rfl 0 rfl rfl rfl rfl hd_c (by first | omega | (simp only [List.length_nil, List.length_append, List.length_cons]; omega)) (by first | omega | (simp only [List.length_nil, List.length_append, List.length_cons]; omega)) (fun A5 cap5 gl5 w5 hR5 hc5 hS5 => ?_))
  have hR5 := Reps.int (W' := w) hR5
  refine J_q 7 rfl rfl rfl rfl (Q_fa0 rfl rfl fo55_2) ?_
  refine J_do0 rfl rfl rfl rfl (D_store (k := 1) hS5 rfl rfl rfl rfl Try.sizeOf44 rfl rfl rfl (fun w6 hS6 => ?_))
  refine J_nil (K_seq ?_)
  refine C_seq ?_
  refine C_region ?_
  refine J_q 8 rfl rfl rfl rfl (Q_ldBK' (k := 1) ([.int .i64 c.at_.c, .int .i64 c.at_.r, .int .i64 c.seq, .slice A5 (([] ++ c.deps).length) cap5, .int .i64 c.kind, .int .i64 c.node.c, .int .i64 c.node.r, .int .i64 c.par.c, .int .i64 c.par.r, .int .i64 c.aft.c, .int .i64 c.aft.r, .string c.name, .string c.val]) hS6 rfl rfl rfl Try.isAgg55 Try.sizeOf55 rfl rfl) ?_
  refine J_do0 rfl rfl rfl rfl (D_store' (k := 2) hS6 rfl rfl rfl rfl Try.sizeOf55 rfl rfl rfl (fun w7 hS7 => ?_))
  refine J_nil (K_seq ?_)
  refine C_ret (body_ret (resG (vs := [.agg ([.int .i64 c.at_.c, .int .i64 c.at_.r, .int .i64 c.seq, .slice A5 (([] ++ c.deps).length) cap5, .int .i64 c.kind, .int .i64 c.node.c, .int .i64 c.node.r, .int .i64 c.par.c, .int .i64 c.par.r, .int .i64 c.aft.c, .int .i64 c.aft.r, .string c.name, .string c.val]).toArray]) rfl ⟨rCK ([.int .i64 c.at_.c, .int .i64 c.at_.r, .int .i64 c.seq, .slice A5 (([] ++ c.deps).length) cap5, .int .i64 c.kind, .int .i64 c.node.c, .int .i64 c.node.r, .int .i64 c.par.c, .int .i64 c.par.r, .int .i64 c.aft.c, .int .i64 c.aft.r, .string c.name, .string c.val]) (blk_cells (k := 2) hS7 rfl) rfl Try.isAgg55 Try.sizeOf55 rfl rfl, trivial⟩) ?_)
  exact ⟨_, _, _, rfl, hS7.kept (k := 0) rfl, hS7.get (k := 3) rfl, (Reps.append (Reps.nil _ w _) hR5), fun b hb => hS7.fresh (k := 3) rfl rfl rfl b hb, ho_c⟩

theorem CCopyO_calls (w : World) (l_c : List Value) (c : Change) (h_c : tCh.rd w l_c c) :
    Calls Try.prog 67 #[.agg l_c.toArray] w fun e w' => ∃ A cap fl, e = .returned (.agg (chL c A cap).toArray) ∧ Kp no w w' ∧ w'.ownsRow 0 3 1 (.slice A c.deps.length cap) c.deps.length fl ∧ Reps tI w no c.deps fl ∧ (∀ b, (Value.slice A c.deps.length cap).ownBlock = some b → nw w w' b) ∧ ChOk c := by
  have hS0 := St.start w
  have hF_c := RdF.of_rd h_c
  obtain ⟨A_c, cap_c, rfl, hd_c, ho_c⟩ := openCh hF_c
  have hln_c := RdF.lens hd_c
  have hsq_c := ho_c.seq
  refine fn_calls' 9 (args := [_]) Try.func67 rfl rfl rfl ?_
  refine C_seq ?_
  refine C_region ?_
  refine J_do 1 rfl rfl rfl rfl (D_box 1 hS0 rfl rfl (fun g1 w1 hS1 => ?_))
  refine J_do 2 rfl rfl rfl rfl (D_alloc 2 hS1 rfl Try.zeroValue55 (fun g2 w2 hS2 => ?_))
  refine J_nil (K_seq ?_)
  refine C_seq ?_
  refine C_region ?_
  refine J_do 3 rfl rfl rfl rfl (D_bs (e := 3) (ps := []) 3 ([]) hS2 rfl rfl (fun _ => by kernel_rfl) (fun g3 w3 hS3 => ?_))
  refine J_q 4 rfl rfl rfl rfl (Q_fa0 rfl rfl fo55_2) ?_
  refine J_q 5 rfl rfl rfl rfl (Q_ldB1 (k := 1) hS3 rfl rfl rfl Try.isAgg44 rfl) ?_
  have hS4 := hS3.lit0 (sz := 1) 3 rfl
  refine J_do 6 rfl rfl rfl rfl (D_appSL ([]) c.deps app44 hS4 3 rfl 0 rfl rfl rfl rfl hd_c (by first | omega | (simp only [List.length_nil, List.length_append, List.length_cons]; omega)) (by first | omega | (simp only [List.length_nil, List.length_append, List.length_cons]; omega)) (fun A5 cap5 gl5 w5 hR5 hc5 hS5 => ?_))
  have hR5 := Reps.int (W' := w) hR5
  refine J_q 7 rfl rfl rfl rfl (Q_fa0 rfl rfl fo55_2) ?_
  refine J_do0 rfl rfl rfl rfl (D_store (k := 1) hS5 rfl rfl rfl rfl Try.sizeOf44 rfl rfl rfl (fun w6 hS6 => ?_))
  refine J_nil (K_seq ?_)
  refine C_seq ?_
  refine C_region ?_
  refine J_q 8 rfl rfl rfl rfl (Q_ldBK' (k := 1) ([.int .i64 c.at_.c, .int .i64 c.at_.r, .int .i64 c.seq, .slice A5 (([] ++ c.deps).length) cap5, .int .i64 c.kind, .int .i64 c.node.c, .int .i64 c.node.r, .int .i64 c.par.c, .int .i64 c.par.r, .int .i64 c.aft.c, .int .i64 c.aft.r, .string c.name, .string c.val]) hS6 rfl rfl rfl Try.isAgg55 Try.sizeOf55 rfl rfl) ?_
  refine J_do0 rfl rfl rfl rfl (D_store' (k := 2) hS6 rfl rfl rfl rfl Try.sizeOf55 rfl rfl rfl (fun w7 hS7 => ?_))
  refine J_nil (K_seq ?_)
  refine C_ret (body_ret (resG (vs := [.agg ([.int .i64 c.at_.c, .int .i64 c.at_.r, .int .i64 c.seq, .slice A5 (([] ++ c.deps).length) cap5, .int .i64 c.kind, .int .i64 c.node.c, .int .i64 c.node.r, .int .i64 c.par.c, .int .i64 c.par.r, .int .i64 c.aft.c, .int .i64 c.aft.r, .string c.name, .string c.val]).toArray]) rfl ⟨rCK ([.int .i64 c.at_.c, .int .i64 c.at_.r, .int .i64 c.seq, .slice A5 (([] ++ c.deps).length) cap5, .int .i64 c.kind, .int .i64 c.node.c, .int .i64 c.node.r, .int .i64 c.par.c, .int .i64 c.par.r, .int .i64 c.aft.c, .int .i64 c.aft.r, .string c.name, .string c.val]) (blk_cells (k := 2) hS7 rfl) rfl Try.isAgg55 Try.sizeOf55 rfl rfl, trivial⟩) ?_)
  exact ⟨_, _, _, rfl, hS7.kept (k := 0) rfl, hS7.get (k := 3) rfl, (Reps.append (Reps.nil _ w _) hR5), fun b hb => hS7.fresh (k := 3) rfl rfl rfl b hb, ho_c⟩
end Go.Proofs.Ytceeellnjckmiaa

/- Booleans that differ; what a log's Find and Own hold against the reference's. -/
namespace Go.Sl
open Go Go.RowKit
section
variable {P : Program} {o : Oper} {E : Env} {w : World} {x y : Operand} {t e : TypeId} {b c : Bool}
theorem Q_neqB' (ht : P.underlying t = some .bool) (ho : o.op = .binOp .neq t x y e) (hx : evalE E x = some (.bool b)) (hy : evalE E y = some (.bool c)) : Qt P o E w (.bool (!(b == c))) := fun nt D a ha => by
  have hg : ∀ w : World, (Op.equal t (.bool b) (.bool c)).run P w = .ok (b == c) w := fun w => by
    have hq : ∀ n, (Op.equalIn (n + 1) t (.bool b) (.bool c)).run P w = .ok (b == c) w := fun n => by simp [Op.equalIn, underlying, ht]
    exact hq 9999
  unfold execOp; rw [ho]; simp [ha.eval hx, ha.eval hy, eqGuard, binOp, hg]
end
theorem zero_rd (w : World) : tCh.rd w [.int .i64 0, .int .i64 0, .int .i64 0, .slice none 0 0, .int .i64 0, .int .i64 0, .int .i64 0, .int .i64 0, .int .i64 0, .int .i64 0, .int .i64 0, .string nostr, .string nostr] zeroCh := ⟨none, 0, rfl, rdNil _ _, zeroCh_ok⟩
section
variable {l : List Change} {r q : Int}
theorem Good.own_no (hg : Good l) (h : ¬ (r < 0 ∨ 64 ≤ r)) (h2 : ownAt l r q < 0) : ownE l r q = 4 ∧ ownC l r q = zeroCh := by
  have h3 := hg.own (r := r) (q := q)
  have h4 : ownE l r q = 4 := ownE_4 h (by omega)
  exact ⟨h4, ownC_no (by omega)⟩
theorem Good.own_yes (hg : Good l) (h : ¬ (r < 0 ∨ 64 ≤ r)) (h2 : ¬ ownAt l r q < 0) : ownE l r q = 0 ∧ ownC l r q = nth l (ownAt l r q) := by
  have h3 := (hg.own (r := r) (q := q)).1 (by omega)
  have h4 : ownE l r q = 0 := ownE_0 h (by omega)
  refine ⟨h4, ?_⟩
  rw [ownC_0 h4, ← hg.own_at h3.1 h3.2]
  obtain ⟨ho1, ho2, ho3⟩ := ownAt_at (l := l) (r := r) (q := q) (by omega)
  have hm : nth l (ownAt l r q) ∈ l := nth_mem (by omega) ho1
  have hf : 0 ≤ findAt l (nth l (ownAt l r q)).at_ := findAt_pos.2 ⟨_, hm, rfl⟩
  rw [findC_yes hf]
  exact at_uniq hg.rise (find_mem hf) hm (findAt_at hf).2
theorem own_out (h : r < 0 ∨ 64 ≤ r) : ownE l r q = 1 ∧ ownC l r q = zeroCh := ⟨ownE_1 h, ownC_no (by rw [ownE_1 h]; decide)⟩
end
end Go.Sl

/- Two loud operations of a region of open order that may come up in either order. -/
namespace Go.Sl
open Go Go.RowKit
section
variable {ro : Option Nat} {P : Program} {nt : Nat} {D : List Deferred} {ops : Array Oper} {I : World → Prop} {Q : Exit → Act → World → Prop} {E : Env} {w : World} {nA fuel : Nat} {listed : Array Bool} {o : Oper}
/-- Operation i comes up. -/
def JA1 (ro : Option Nat) (P : Program) (nt : Nat) (D : List Deferred) (ops : Array Oper) (I : World → Prop) (nA : Nat) (Q : Exit → Act → World → Prop) (fuel : Nat) (listed : Array Bool) (i : Nat) (E : Env) (w : World) : Prop :=
  ∀ a, Ag nt D E a → wpOpIn (Fw ro) 0 P ops QF i (fun a' w' => (Nat.blt i nA = true → I w → I w') ∧ wpJ ro P ops I (fun j => Nat.blt j nA) (Q .normal) fuel (listed.setIfInBounds i true) a' w') a w
theorem JA_two (i j : Nat) (hr : Region.ready .any ops listed = [i, j]) (h1 : JA1 ro P nt D ops I nA Q fuel listed i E w) (h2 : JA1 ro P nt D ops I nA Q fuel listed j E w) : JA ro P nt D ops I nA Q (fuel + 1) listed E w := fun a ha => by
  refine ⟨fun h => (by rw [hr] at h; cases h), fun k hk => ?_⟩
  rw [hr] at hk
  simp only [List.mem_cons, List.not_mem_nil, or_false] at hk
  rcases hk with rfl | rfl
  · exact h1 a ha
  · exact h2 a ha
theorem JA1_do (i : Nat) (d : Nat) (ho : ops[i]? = some o) (hf : fine ops o nt = true) (hw : wantsE ops o E = some true) (hd : o.dst = some d) (hr : 0 = 0)
    (hq : Does P o E w fun v w' => (Nat.blt i nA = true → I w') ∧ JA ro P nt D ops I nA Q fuel (listed.setIfInBounds i true) ((d, v) :: E) w') : JA1 ro P nt D ops I nA Q fuel listed i E w := fun a ha => by
  obtain ⟨nx, v, w', hrun, hnx, hI, hK⟩ := hq nt D a ha
  have ha' : Ag nt D ((d, v) :: E) (a.put o.dst v) := by
    have h := ha.after v hf
    unfold Sl.after at h
    rw [hd] at h ⊢
    exact h
  have h3 := hK _ ha'
  unfold wpOpIn
  simp only [ho, wanted_of ha hw (guardLt_of (fine_guard hf)), if_true, Oper.wpIn, fine_semAt hf, hrun]
  rcases hnx with rfl | ⟨rfl, rfl⟩
  · exact ⟨fun _ _ => trivial, fun h _ => hI h, h3⟩
  · exact ⟨fun _ _ => trivial, fun h _ => hI h, h3⟩
theorem JA1_call (i : Nat) (d : Nat) {f : FuncId} {args : Array Value} {R : Ending → World → Prop} (ho : ops[i]? = some o) (hf : fine ops o nt = true) (hw : wantsE ops o E = some true) (hd : o.dst = some d) (hr : 0 = 0)
    (hq : CallsTo P o E w f args) (hc : Calls P f args w R)
    (hk : ∀ e w', R e w' → ∃ v, e = .returned v ∧ (Nat.blt i nA = true → I w') ∧ JA ro P nt D ops I nA Q fuel (listed.setIfInBounds i true) ((d, v) :: E) w') : JA1 ro P nt D ops I nA Q fuel listed i E w := fun a ha => by
  have h2 := hq nt D a ha
  unfold wpOpIn
  simp only [ho, wanted_of ha hw (guardLt_of (fine_guard hf)), if_true, Oper.wpIn, fine_semAt hf, h2, Oper.uponIn]
  refine ⟨fun _ _ => trivial, fun h => by simp [Fw] at h, ?_⟩
  refine (callsIn_fw_any ro hc).mono ?_
  rintro e w' hR
  obtain ⟨v, rfl, hI, hJ⟩ := hk e w' hR
  have ha' : Ag nt D ((d, v) :: E) (a.put o.dst v) := by
    have h := ha.after v hf
    unfold Sl.after at h
    rw [hd] at h ⊢
    exact h
  exact ⟨fun h _ => hI h, hJ _ ha'⟩
end
end Go.Sl

/- With each change of a log there are all on which it hangs, ahead of it. -/
namespace Go.Sl
open Go Go.RowKit
section
variable {l a b x : List Change} {c y : Change} {room : Int} {r : Int}
theorem mine_append (a b : List Change) (r : Int) : mine (a ++ b) r = mine a r ++ mine b r := by simp [mine]
theorem Good.pre (h : Good (a ++ b)) : Good a := by
  refine ⟨?_, fun c hc => h.ok c (List.mem_append_left _ hc), fun r j hj => ?_⟩
  · have := rising_iff.1 h.rise
    rw [List.pairwise_append] at this
    exact rising_iff.2 this.1
  · have := h.seqs r j (by rw [mine_append, List.length_append]; omega)
    rw [← this]
    congr 1
    simp only [mine_append]
    rw [List.getElem_append_left]
def Closed (x : List Change) : Prop := ∀ a c b, x = a ++ c :: b → under c.deps (clockR a) ∧ at2 (clockR a) c.at_.r = c.seq - 1 ∧ ∀ s ∈ names5 c, 0 ≤ findAt a s
theorem Closed.nil : Closed [] := fun a c b h => by simp at h
/-- What lies at a place of a row is among the first that the row has. -/
theorem Good.row_at (hg : Good (a ++ b)) (hy : y ∈ mine (a ++ b) r) (hs : y.seq ≤ (mine a r).length) : y ∈ a := by
  obtain ⟨j, hj, rfl⟩ := List.getElem_of_mem hy
  have h1 := hg.seqs r j hj
  have hlt : j < (mine a r).length := by omega
  have h2 : (mine (a ++ b) r)[j] = (mine a r)[j] := by
    simp only [mine_append]
    rw [List.getElem_append_left hlt]
  rw [h2]
  exact (mem_mine.1 (List.getElem_mem hlt)).1
theorem Good.row_in (hg : Good a) (hy : y ∈ a) : y.seq ≤ (mine a y.at_.r).length := by
  obtain ⟨j, hj, he⟩ := List.getElem_of_mem (mem_mine.2 ⟨hy, rfl⟩)
  have h1 := hg.seqs y.at_.r j hj
  rw [he] at h1
  omega
theorem Closed.put (hg : Good l) (hc : Closed l) (hw : whyR l room c = 0) : Closed (putC l c) := by
  obtain ⟨hk, h1, h2, h3, h4, h5, h6⟩ := why_zero hw
  obtain ⟨a, b, rfl, hp, ha, hb⟩ := putC_split hg.rise c
  have hga : Good a := hg.pre
  have hgp : Good (putC (a ++ b) c) := hg.put hw
  rw [hp] at hgp ⊢
  have hbe := hg.before hw
  have hmb : mine b c.at_.r = [] := by
    refine List.eq_nil_iff_forall_not_mem.2 fun y hy => ?_
    have hy2 := mem_mine.1 hy
    have h7 := hbe y (mem_mine.2 ⟨List.mem_append_right _ hy2.1, hy2.2⟩)
    have h8 := hb y hy2.1
    omega
  -- how many of a row lie ahead of c
  have hdep : ∀ j : Int, 0 ≤ j → j < c.deps.length → nth c.deps j ≤ (mine a j).length := by
    intro j h0 hj
    have hd := h5.1 j h0 hj
    simp only [depOk] at hd
    rcases hd with hz | ⟨ho, hl⟩
    · omega
    obtain ⟨ho1, ho2, ho3⟩ := ownAt_at ho
    have hm : nth (a ++ b) (ownAt (a ++ b) j (nth c.deps j)) ∈ a ++ b := nth_mem ho ho1
    rcases List.mem_append.1 hm with hm | hm
    · have := hga.row_in hm
      rw [ho2, ho3] at this
      exact this
    · have := hb _ hm
      omega
  have hEq : under c.deps (clockR a) ∧ at2 (clockR a) c.at_.r = c.seq - 1 ∧ ∀ s ∈ names5 c, 0 ≤ findAt a s := by
    refine ⟨fun j h0 hj => ?_, ?_, fun s hs => ?_⟩
    · show nth c.deps j ≤ at2 (clockR a) j
      rw [hga.clock]; exact hdep j h0 hj
    · rw [hga.clock]
      rw [hg.clock, mine_append, hmb, List.append_nil] at h3
      omega
    · obtain ⟨k, hk0, hk1, rfl⟩ := mem_nth.1 hs
      have hn := h5.2 k hk0 hk1
      obtain ⟨hn1, hn2⟩ : nameIn (a ++ b) c (nth (names5 c) k) := hn
      generalize nth (names5 c) k = s at *
      obtain ⟨hf1, hf2⟩ := findAt_at hn1
      have hm := find_mem hn1
      generalize nth (a ++ b) (findAt (a ++ b) s) = y at *
      subst hf2
      have hn2 : y.seq ≤ at2 c.deps y.at_.r := hn2
      refine findAt_pos.2 ⟨y, ?_, rfl⟩
      have hs1 := (chk5_ok (hg.ok y hm)).2.2.1
      have hr : 0 ≤ y.at_.r ∧ y.at_.r < c.deps.length := by
        refine Classical.byContradiction fun hh => ?_
        rw [at2_out (by omega)] at hn2
        omega
      rw [at2_in hr.1 hr.2] at hn2
      have := hdep _ hr.1 hr.2
      exact hg.row_at (mem_mine.2 ⟨hm, rfl⟩) (by omega)
  intro a' c' b' he
  rcases List.append_eq_append_iff.1 he with ⟨z, rfl, hz⟩ | ⟨z, rfl, hz⟩
  · cases z with
    | nil =>
      simp only [List.nil_append, List.cons.injEq] at hz
      obtain ⟨rfl, rfl⟩ := hz
      simpa using hEq
    | cons z0 z =>
      simp only [List.cons_append, List.cons.injEq] at hz
      obtain ⟨rfl, rfl⟩ := hz
      obtain ⟨q1, q2, q3⟩ := hc (a ++ z) c' b' (by simp)
      have hg1 : Good (a ++ z) := Good.pre (b := c' :: b') (by simpa using hg)
      have hg2 : Good (a ++ c :: z) := Good.pre (b := c' :: b') (by simpa using hgp)
      have hle : ∀ j : Int, ((mine (a ++ z) j).length : Int) ≤ (mine (a ++ c :: z) j).length := fun j => by
        have := (((List.sublist_cons_self c z).append_left a).filter (fun c => decide (c.at_.r = j))).length_le
        exact Int.ofNat_le.2 this
      refine ⟨fun j h0 hj => ?_, ?_, fun s hs => ?_⟩
      · have := q1 j h0 hj
        simp only [hg1.clock, hg2.clock] at this ⊢
        have := hle j
        omega
      · rw [hg1.clock] at q2
        rw [hg2.clock, ← q2]
        have hne : ¬ c.at_.r = c'.at_.r := fun h => by
          have h7 : c' ∈ mine (z ++ c' :: b') c.at_.r := mem_mine.2 ⟨by simp, h.symm⟩
          rw [hmb] at h7
          cases h7
        simp [mine, hne]
      · obtain ⟨y, hy, he⟩ := findAt_pos.1 (q3 s hs)
        refine findAt_pos.2 ⟨y, ?_, he⟩
        simp only [List.mem_append, List.mem_cons] at hy ⊢
        rcases hy with hy | hy
        · exact .inl hy
        · exact .inr (.inr hy)
  · cases z with
    | nil =>
      simp only [List.nil_append, List.cons.injEq] at hz
      obtain ⟨rfl, rfl⟩ := hz
      simpa using hEq
    | cons z0 z =>
      simp only [List.cons_append, List.cons.injEq] at hz
      obtain ⟨rfl, rfl⟩ := hz
      exact hc a' c' (z ++ b) (by simp)
theorem Closed.at (hc : Closed x) {i : Int} (h0 : 0 ≤ i) (h1 : i < x.length) : under (nth x i).deps (clockR (tk x i)) ∧ at2 (clockR (tk x i)) (nth x i).at_.r = (nth x i).seq - 1 ∧ ∀ s ∈ names5 (nth x i), 0 ≤ findAt (tk x i) s := by
  refine hc (tk x i) (nth x i) (x.drop (i.toNat + 1)) ?_
  have hi : i.toNat < x.length := by omega
  have h2 := List.drop_eq_getElem_cons hi
  have h3 := nth_get x i hi
  rw [h3, ← h2]
  exact (List.take_append_drop i.toNat x).symm
theorem addAll_closed (room : Int) (l : List Change) : Closed (addAll room l) := by
  have key : ∀ (l x : List Change), Good x → Closed x → Closed (l.foldl (fun x c => if whyR x room c = 0 then putC x c else x) x) := by
    intro l
    induction l with
    | nil => intro x _ h; exact h
    | cons c r ih =>
      intro x hg h
      rw [List.foldl_cons]
      by_cases hw : whyR x room c = 0
      · rw [if_pos hw]; exact ih _ (hg.put hw) (Closed.put hg h hw)
      · rw [if_neg hw]; exact ih _ hg h
  exact key l [] Good.nil Closed.nil
end
end Go.Sl

/- Printed by a program of mine (gen.py). -/
set_option maxRecDepth 100000
namespace Go.Proofs.Ytceeellnjckmiaa
open Go Go.Sl
theorem OplogClosedB_calls (w : World) (room : Int) (v_l : Value) (l : List Change) (h_l : (tSl tCh).rd w [v_l] l) (hr : room < 1 ∨ 4096 < room) :
    Calls Try.prog 6 #[.int .i64 room, v_l] w fun e w' => e = .returned (.bool true) ∧ Kp no w w' := by
  have hS0 := St.start w
  have hF_l := RdF.of_rd h_l
  obtain ⟨A_l, cap_l, rfl, hc_l, hm_l⟩ := hF_l.slice
  refine fn_calls' 110 (args := [_, _]) Try.func6 rfl rfl rfl ?_
  refine C_seq ?_
  refine C_region ?_
  refine J_q 4 rfl rfl rfl rfl (Q_assign rfl rfl) ?_
  refine J_nil (K_seq ?_)
  refine C_seq ?_
  refine C_region ?_
  refine J_q 15 rfl rfl rfl rfl (Q_move rfl rfl) ?_
  refine J_call 16 rfl rfl rfl rfl (T_call rfl rfl rfl Try.call35) (LNewBad_calls _ room (by omega)) ?_
  rintro _ w1 ⟨rfl, hk1⟩
  have hS1 := hS0.kp0 hk1
  refine ⟨_, rfl, ?_⟩
  refine J_q 14 rfl rfl rfl rfl (Q_move rfl rfl) ?_
  refine J_q 17 rfl rfl rfl rfl (Q_extract rfl rfl rfl) ?_
  refine J_q 18 rfl rfl rfl rfl (Q_extract rfl rfl rfl) ?_
  refine J_q 5 rfl rfl rfl rfl (Q_assign rfl rfl) ?_
  refine J_q 6 rfl rfl rfl rfl (Q_assign rfl rfl) ?_
  refine J_nil (K_seq ?_)
  refine C_seq ?_
  refine C_seq ?_
  refine C_region ?_
  refine J_q 19 rfl rfl rfl rfl (Q_move rfl rfl) ?_
  refine J_q 20 rfl rfl rfl rfl (Q_toB (c' := true) (Q_neq rfl rfl rfl) (by decide)) ?_
  refine J_q 21 rfl rfl rfl rfl (Q_move rfl rfl) ?_
  refine J_no rfl rfl rfl ?_
  refine J_no rfl rfl rfl ?_
  refine J_q 24 rfl rfl rfl rfl (Q_pickT rfl rfl rfl) ?_
  refine J_nil (K_seq ?_)
  refine C_true rfl ?_
  refine C_seq ?_
  refine C_region ?_
  refine J_q 25 rfl rfl rfl rfl (Q_move rfl rfl) ?_
  refine J_q 26 rfl rfl rfl rfl (Q_toB (c' := true) (Q_eql rfl rfl rfl) (by decide)) ?_
  refine J_q 27 rfl rfl rfl rfl (Q_move rfl rfl) ?_
  refine J_q 28 rfl rfl rfl rfl (Q_move rfl rfl) ?_
  refine J_q 29 rfl rfl rfl rfl (Q_eqNilT rfl rfl rfl Try.underlying45) ?_
  refine J_q 30 rfl rfl rfl rfl (Q_pickT rfl rfl rfl) ?_
  refine J_q 31 rfl rfl rfl rfl (Q_move rfl rfl) ?_
  refine J_call 32 rfl rfl rfl rfl (T_call rfl rfl rfl Try.call30) (awake_calls _) ?_
  rintro _ w2 ⟨rfl, hk2⟩
  have hS2 := hS1.kp0 hk2
  refine ⟨_, rfl, ?_⟩
  refine J_q 33 rfl rfl rfl rfl (Q_pickT rfl rfl rfl) ?_
  refine J_q 4 rfl rfl rfl rfl (Q_assign rfl rfl) ?_
  refine J_nil (K_seq ?_)
  refine C_ret (R_then (body_ret (res1 rfl rfl) ?_))
  exact ⟨rfl, hS2.kept (k := 0) rfl⟩

theorem OplogClosedG_calls (w : World) (room : Int) (v_l : Value) (l : List Change) (h_l : (tSl tCh).rd w [v_l] l) (hr : 1 ≤ room ∧ room ≤ 4096) :
    Calls Try.prog 6 #[.int .i64 room, v_l] w fun e w' => e = .returned (.bool true) ∧ Kp no w w' := by
  have hS0 := St.start w
  have hF_l := RdF.of_rd h_l
  obtain ⟨A_l, cap_l, rfl, hc_l, hm_l⟩ := hF_l.slice
  refine fn_calls' 110 (args := [_, _]) Try.func6 rfl rfl rfl ?_
  refine C_seq ?_
  refine C_region ?_
  refine J_q 4 rfl rfl rfl rfl (Q_assign rfl rfl) ?_
  refine J_nil (K_seq ?_)
  refine C_seq ?_
  refine C_region ?_
  refine J_q 15 rfl rfl rfl rfl (Q_move rfl rfl) ?_
  refine J_call 16 rfl rfl rfl rfl (T_call rfl rfl rfl Try.call35) (LNew_calls _ room (by omega)) ?_
  rintro _ w1 ⟨gL1, FL1, rfl, hk1, hFL1, hLL1⟩
  have hS1 := hS0.new hk1 1 (logE FL1 gL1 room []) hLL1 hFL1
  refine ⟨_, rfl, ?_⟩
  refine J_q 14 rfl rfl rfl rfl (Q_move rfl rfl) ?_
  refine J_q 17 rfl rfl rfl rfl (Q_extract rfl rfl rfl) ?_
  refine J_q 18 rfl rfl rfl rfl (Q_extract rfl rfl rfl) ?_
  refine J_q 5 rfl rfl rfl rfl (Q_assign rfl rfl) ?_
  refine J_q 6 rfl rfl rfl rfl (Q_assign rfl rfl) ?_
  refine J_nil (K_seq ?_)
  refine C_seq ?_
  refine C_seq ?_
  refine C_region ?_
  refine J_q 19 rfl rfl rfl rfl (Q_move rfl rfl) ?_
  refine J_q 20 rfl rfl rfl rfl (Q_toB (c' := false) (Q_neq rfl rfl rfl) (by decide)) ?_
  refine J_q 21 rfl rfl rfl rfl (Q_move rfl rfl) ?_
  refine J_q 22 rfl rfl rfl rfl (Q_move rfl rfl) ?_
  refine J_q 23 rfl rfl rfl rfl (Q_eqNilF rfl rfl rfl Try.underlying45) ?_
  refine J_q 24 rfl rfl rfl rfl (Q_pickF rfl rfl rfl) ?_
  refine J_nil (K_seq ?_)
  refine C_false rfl ?_
  refine C_skip (K_seq ?_)
  refine C_seq ?_
  refine C_seq ?_
  refine C_region ?_
  refine J_q 7 rfl rfl rfl rfl (Q_assign rfl rfl) ?_
  refine J_nil (K_seq ?_)
  refine C_block ?_
  refine C_loop2 (fun (i : Int) (lv : LgV) => (l.length - i).toNat) (fun (i : Int) (lv : LgV) => [(0, .int .i64 room), (1, .slice A_l l.length cap_l), (4, .bool false), (15, .int .i64 room), (16, .tuple #[.pointer (some (⟨gL1, 0, none⟩ : Addr)), .int .i64 0]), (14, .tuple #[.pointer (some (⟨gL1, 0, none⟩ : Addr)), .int .i64 0]), (17, .pointer (some (⟨gL1, 0, none⟩ : Addr))), (18, .int .i64 0), (5, .pointer (some (⟨gL1, 0, none⟩ : Addr))), (6, .int .i64 0), (19, .int .i64 0), (20, .bool false), (21, .bool false), (22, .pointer (some (⟨gL1, 0, none⟩ : Addr))), (23, .bool false), (24, .bool false), (7, .int .i64 i)]) (fun (i : Int) (lv : LgV) w' => (0 ≤ i) ∧ (i ≤ l.length) ∧ (lv.l = addAll room (tk l i)) ∧ St w w' [(1, logE lv.F gL1 room lv.l), (0, fz w (lt_ w))]) 0 (⟨FL1, []⟩) ⟨(by first | omega | (exact addAll_zero.symm)), (by first | omega | (exact addAll_zero.symm)), (by first | omega | (exact addAll_zero.symm)), hS1⟩ ⟨rfl, rfl, rfl, rfl, rfl, rfl, rfl, rfl, rfl, rfl, rfl, rfl, rfl, rfl, rfl, rfl, rfl, trivial⟩ ?_
  rintro i lv w2 ⟨h0, h1, hn1, hS2⟩
  have hlf := LogAt.f (hS2.get (k := 1) rfl)
  have hgd := hlf.1
  have hcl : Closed lv.l := hn1 ▸ addAll_closed room (tk l i)
  have hsqs : ∀ j : Int, 0 ≤ j → j < lv.l.length → 1 ≤ (nth lv.l j).seq := fun j h0 h1 => (chk5_ok (hgd.ok _ (nth_mem h0 h1))).2.2.1
  refine C_seq ?_
  refine C_seq ?_
  refine C_region ?_
  refine J_q 34 rfl rfl rfl rfl (Q_move rfl rfl) ?_
  refine J_q 35 rfl rfl rfl rfl (Q_move rfl rfl) ?_
  refine J_q 36 rfl rfl rfl rfl (Q_len rfl rfl Try.underlying43) ?_
  refine J_q 37 rfl rfl rfl rfl (Q_lss rfl rfl rfl) ?_
  refine J_nil (K_seq ?_)
  refine C_if rfl (fun h3 => ?_) (fun h3 => ?_)
  · refine C_skip (K_seq ?_)
    refine C_seq ?_
    refine C_block ?_
    refine C_region ?_
    refine J_q 40 rfl rfl rfl rfl (Q_move rfl rfl) ?_
    refine J_q 41 rfl rfl rfl rfl (Q_move rfl rfl) ?_
    refine J_q 42 rfl rfl rfl rfl (Q_move rfl rfl) ?_
    obtain ⟨ad4, es4, hA4, hr4, hc4⟩ := RdF.nth hF_l i (by omega) (by omega)
    obtain ⟨A4, cap4, rfl, hd4, ho4⟩ := openCh hr4
    have hln4 := RdF.lens hd4
    have hsq4 := ho4.seq
    refine J_q 43 rfl rfl rfl rfl (Q_iaE hA4 rfl rfl rfl Try.underlying43 Try.sizeOf55 (by omega) (by omega)) ?_
    refine J_q 44 rfl rfl rfl rfl (Q_ldCK' (chL (nth l i) A4 cap4) (hc4 _ (hS2.get (k := 0) rfl)) rfl rfl Try.isAgg55 Try.sizeOf55 rfl rfl) ?_
    refine J_call 45 rfl rfl rfl rfl (T_call rfl rfl rfl Try.call25) (LAdd_calls _ lv.F gL1 room lv.l (hS2.get (k := 1) rfl) _ (nth l i) _ (hS2.rdF 0 rfl hr4) (fun b hb => ⟨hS2.fpLt (k := 0) rfl b hb, fun h => hS2.disj (k := 0) (j := 1) rfl rfl rfl b hb h⟩)) ?_
    rintro _ w5 ⟨rfl, hk5, FN5, hFN5, hLN5⟩
    have hS5 := hS2.upd (k := 1) (e' := logE FN5 gL1 room (if whyR lv.l room (nth l i) = 0 then putC lv.l (nth l i) else lv.l)) rfl hk5 hLN5 hFN5
    refine ⟨_, rfl, ?_⟩
    refine J_nil (N_blk (K_seq ?_))
    refine C_region ?_
    refine J_q 38 rfl rfl rfl rfl (Q_move rfl rfl) ?_
    refine J_q 39 rfl rfl rfl rfl (Q_add rfl rfl rfl (by first | omega | (have hq9 := hsqs i2 (by omega) (by omega); omega)) (by first | omega | (have hq9 := hsqs i2 (by omega) (by omega); omega))) ?_
    refine J_q 7 rfl rfl rfl rfl (Q_assign rfl rfl) ?_
    exact J_nil (K_round2 (x0 := i) (x1 := lv) (i + 1) ⟨FN5, (if whyR lv.l room (nth l i) = 0 then putC lv.l (nth l i) else lv.l)⟩ ⟨(by first | omega | (rw [addAll_snoc h0 (by omega), ← hn1]; done)), (by first | omega | (rw [addAll_snoc h0 (by omega), ← hn1]; done)), (by first | omega | (rw [addAll_snoc h0 (by omega), ← hn1]; done)), hS5⟩ (by omega) ⟨rfl, rfl, rfl, rfl, rfl, rfl, rfl, rfl, rfl, rfl, rfl, rfl, rfl, rfl, rfl, rfl, rfl, trivial⟩)
  · refine C_exit (X_then (X_then (X_hit (K_seq ?_))))
    refine C_seq ?_
    refine C_region ?_
    refine J_q 46 rfl rfl rfl rfl (Q_move rfl rfl) ?_
    obtain ⟨pL6, hLR6⟩ := LogAt.logR (hS2.get (k := 1) rfl)
    refine J_call 47 rfl rfl rfl rfl (T_call rfl rfl rfl Try.call36) (LAll_calls _ _ _ _ _ (hLR6.mono (hS2.fpLt (k := 1) rfl))) ?_
    rintro _ w7 ⟨vv7_0, rfl, hk7, hr7_0⟩
    have hS7 := hS2.call hk7 2
    obtain ⟨A7_0, cap7_0, rfl, hc7_0, hm7_0⟩ := hr7_0.slice
    refine ⟨_, rfl, ?_⟩
    refine J_q 8 rfl rfl rfl rfl (Q_assign rfl rfl) ?_
    refine J_nil (K_seq ?_)
    refine C_seq ?_
    refine C_seq ?_
    refine C_region ?_
    refine J_q 9 rfl rfl rfl rfl (Q_assign rfl rfl) ?_
    refine J_nil (K_seq ?_)
    refine C_block ?_
    refine C_loop1 (fun (i2 : Int) => (lv.l.length - i2).toNat) (fun (i2 : Int) => [(0, .int .i64 room), (1, .slice A_l l.length cap_l), (15, .int .i64 room), (16, .tuple #[.pointer (some (⟨gL1, 0, none⟩ : Addr)), .int .i64 0]), (14, .tuple #[.pointer (some (⟨gL1, 0, none⟩ : Addr)), .int .i64 0]), (17, .pointer (some (⟨gL1, 0, none⟩ : Addr))), (18, .int .i64 0), (5, .pointer (some (⟨gL1, 0, none⟩ : Addr))), (6, .int .i64 0), (19, .int .i64 0), (20, .bool false), (21, .bool false), (22, .pointer (some (⟨gL1, 0, none⟩ : Addr))), (23, .bool false), (24, .bool false), (7, .int .i64 i), (34, .int .i64 i), (35, .slice A_l l.length cap_l), (36, .int .i64 (l.length : Int)), (37, .bool (decide (i < (l.length : Int)))), (46, .pointer (some (⟨gL1, 0, none⟩ : Addr))), (47, .slice A7_0 ((lv.l).length) cap7_0), (8, .slice A7_0 ((lv.l).length) cap7_0), (9, .int .i64 i2)]) (fun (i2 : Int) w' => (0 ≤ i2) ∧ (i2 ≤ lv.l.length) ∧ St w w' [(2, fz w7 (nw w2 w7)), (1, logE lv.F gL1 room lv.l), (0, fz w (lt_ w))]) 0 ⟨(by omega), (by omega), hS7⟩ ⟨rfl, rfl, rfl, rfl, rfl, rfl, rfl, rfl, rfl, rfl, rfl, rfl, rfl, rfl, rfl, rfl, rfl, rfl, rfl, rfl, rfl, rfl, rfl, rfl, trivial⟩ ?_
    rintro i2 w8 ⟨h2, h3, hS8⟩
    refine C_seq ?_
    refine C_seq ?_
    refine C_region ?_
    refine J_q 48 rfl rfl rfl rfl (Q_move rfl rfl) ?_
    refine J_q 49 rfl rfl rfl rfl (Q_move rfl rfl) ?_
    refine J_q 50 rfl rfl rfl rfl (Q_len rfl rfl Try.underlying43) ?_
    refine J_q 51 rfl rfl rfl rfl (Q_lss rfl rfl rfl) ?_
    refine J_nil (K_seq ?_)
    refine C_if rfl (fun h9 => ?_) (fun h9 => ?_)
    · refine C_skip (K_seq ?_)
      refine C_seq ?_
      refine C_block ?_
      refine C_seq ?_
      refine C_region ?_
      refine J_q 54 rfl rfl rfl rfl (Q_move rfl rfl) ?_
      refine J_q 55 rfl rfl rfl rfl (Q_move rfl rfl) ?_
      obtain ⟨ad10, es10, hA10, hr10, hc10⟩ := RdF.nth hr7_0 i2 (by omega) (by omega)
      obtain ⟨A10, cap10, rfl, hd10, ho10⟩ := openCh hr10
      have hln10 := RdF.lens hd10
      have hsq10 := ho10.seq
      refine J_q 56 rfl rfl rfl rfl (Q_iaE hA10 rfl rfl rfl Try.underlying43 Try.sizeOf55 (by omega) (by omega)) ?_
      refine J_q 57 rfl rfl rfl rfl (Q_ldCK' (chL (nth (lv.l) i2) A10 cap10) (hc10 _ (hS8.get (k := 2) rfl)) rfl rfl Try.isAgg55 Try.sizeOf55 rfl rfl) ?_
      refine J_do 10 rfl rfl rfl rfl (D_alloc 3 hS8 rfl Try.zeroValue55 (fun g11 w11 hS11 => ?_))
      refine J_do0 rfl rfl rfl rfl (D_store' (k := 3) hS11 rfl rfl rfl rfl Try.sizeOf55 rfl rfl rfl (fun w12 hS12 => ?_))
      refine J_nil (K_seq ?_)
      refine C_seq ?_
      refine C_seq ?_
      refine C_draw (fun w' => St w w' [(3, blkL g11 (chL (nth (lv.l) i2) A10 cap10) 55), (2, fz w7 (nw w2 w7)), (0, fz w (lt_ w))]) 14 mixedOrders 14 rfl (fun w13 hk13 => ?_)
      have hS13 := hS12.kp0 hk13
      refine JA_p 0 58 14 rfl rfl rfl rfl (by kernel_rfl) (by kernel_rfl) (fun _ => Q_move rfl rfl) ?_
      refine JA_p 1 59 14 rfl rfl rfl rfl (by kernel_rfl) (by kernel_rfl) (fun _ => Q_gtr rfl rfl rfl) ?_
      refine JA_p 2 60 14 rfl rfl rfl rfl (by kernel_rfl) (by kernel_rfl) (fun _ => Q_move rfl rfl) ?_
      refine JA_split 60 rfl (fun h14 => ?_) (fun h14 => ?_)
      · refine JA_p 3 61 14 rfl rfl rfl rfl (by kernel_rfl) (by kernel_rfl) (fun _ => Q_move rfl rfl) ?_
        refine JA_p 4 62 14 rfl rfl rfl rfl (by kernel_rfl) (by kernel_rfl) (fun _ => Q_move rfl rfl) ?_
        refine JA_p 5 63 14 rfl rfl rfl rfl (by kernel_rfl) (by kernel_rfl) (fun _ => Q_sub rfl rfl rfl (by first | omega | (have hq9 := hsqs i2 (by omega) (by omega); omega)) (by first | omega | (have hq9 := hsqs i2 (by omega) (by omega); omega))) ?_
        obtain ⟨ad15, es15, hA15, hr15, hc15⟩ := RdF.nth hr7_0 (i2 - 1) (by omega) (by omega)
        obtain ⟨A15, cap15, rfl, hd15, ho15⟩ := openCh hr15
        have hln15 := RdF.lens hd15
        have hsq15 := ho15.seq
        refine JA_p 6 64 14 rfl rfl rfl rfl (by kernel_rfl) (by kernel_rfl) (fun _ => Q_iaE hA15 rfl rfl rfl Try.underlying43 Try.sizeOf55 (by omega) (by omega)) ?_
        refine JA_p 7 65 14 rfl rfl rfl rfl (by kernel_rfl) (by kernel_rfl) (fun _ => Q_fa0 rfl rfl fo55_0) ?_
        refine JA_q 8 66 rfl rfl rfl rfl (by kernel_rfl) (by kernel_rfl) (hS13.pick [3, 2, 0] ⟨rfl, rfl, rfl, rfl, rfl, rfl, trivial⟩) (fun _ hI => Q_ldCK (stL ((nth (lv.l) (i2 - 1)).at_)) (hc15 _ (hI.get (k := 2) rfl)) rfl rfl Try.isAgg23 Try.sizeOf23 rfl rfl) ?_
        refine JA_p 9 67 14 rfl rfl rfl rfl (by kernel_rfl) (by kernel_rfl) (fun _ => Q_fa0 rfl rfl fo55_0) ?_
        refine JA_q 10 68 rfl rfl rfl rfl (by kernel_rfl) (by kernel_rfl) (hS13.pick [3, 2, 0] ⟨rfl, rfl, rfl, rfl, rfl, rfl, trivial⟩) (fun _ hI => Q_ldBK (k := 3) (stL ((nth (lv.l) i2).at_)) hI rfl rfl rfl Try.isAgg23 Try.sizeOf23 rfl rfl) ?_
        refine JA_call 11 69 rfl rfl rfl rfl (by kernel_rfl) (T_call rfl rfl rfl Try.call37) (RLess_calls _ ((nth (lv.l) (i2 - 1)).at_) ((nth (lv.l) i2).at_)) ?_
        rintro _ w16 ⟨rfl, hk16⟩
        have hS16 := hS13.kp0 hk16
        refine ⟨_, rfl, (fun _ => ((hS13.kp0 hk16).pick [3, 2, 0] ⟨rfl, rfl, rfl, rfl, rfl, rfl, trivial⟩)), ?_⟩
        refine JA_p 12 70 14 rfl rfl rfl rfl (by kernel_rfl) (by kernel_rfl) (fun _ => Q_not rfl rfl) ?_
        refine JA_p 13 71 14 rfl rfl rfl rfl (by kernel_rfl) (by kernel_rfl) (fun _ => Q_pickT rfl rfl rfl) ?_
        refine JA_end (by kernel_rfl) (K_seq ?_)
        refine C_ifN rfl (fun h17 => ?_) (fun h17 => ?_)
        · exact absurd (hgd.rise (i2 - 1) i2 (by omega) (by omega) (by omega)) (by assumption)
        · refine C_skip (K_seq ?_)
          refine C_seq ?_
          refine C_region ?_
          refine J_q 72 rfl rfl rfl rfl (Q_move rfl rfl) ?_
          refine J_q 73 rfl rfl rfl rfl (Q_move rfl rfl) ?_
          have hr18 := RdF.sub (l := 0) (h := i2) hr7_0 (by omega) (by omega) (by omega)
          have hl18 := sub_len (xs := (lv.l)) (l := 0) (h := i2) (by omega) (by omega) (by omega)
          have hc18 := hr7_0.cap_le
          refine J_q 74 rfl rfl rfl rfl (Q_sliceR tCh (lv.l) 0 i2 rfl rfl rfl rfl (.inl ⟨rfl, rfl⟩) (.inr rfl) Try.underlying43 Try.sizeOf55 (by omega) (by omega) (by omega) hc18) ?_
          refine J_call 75 rfl rfl rfl rfl (T_call rfl rfl rfl Try.call38) (RClock_calls _ _ (sub (lv.l) 0 i2) (hS16.rd 2 rfl hr18)) ?_
          rintro _ w19 ⟨vv19_0, rfl, hk19, hr19_0⟩
          have hS19 := hS16.call hk19 5
          obtain ⟨A19_0, cap19_0, rfl, hc19_0, hm19_0⟩ := hr19_0.slice
          refine ⟨_, rfl, ?_⟩
          refine J_q 11 rfl rfl rfl rfl (Q_assign rfl rfl) ?_
          refine J_nil (K_seq ?_)
          refine C_seq ?_
          refine C_seq ?_
          refine C_draw (fun w' => St w w' [(5, fz w19 (nw w16 w19)), (3, blkL g11 (chL (nth (lv.l) i2) A10 cap10) 55), (2, fz w7 (nw w2 w7)), (0, fz w (lt_ w))]) 16 mixedOrders 16 rfl (fun w20 hk20 => ?_)
          have hS20 := hS19.kp0 hk20
          refine JA_p 0 76 16 rfl rfl rfl rfl (by kernel_rfl) (by kernel_rfl) (fun _ => Q_fa0 rfl rfl fo55_2) ?_
          refine JA_q 1 77 rfl rfl rfl rfl (by kernel_rfl) (by kernel_rfl) (hS20.pick [5, 3, 2, 0] ⟨rfl, rfl, rfl, rfl, rfl, rfl, rfl, rfl, trivial⟩) (fun _ hI => Q_ldB1 (k := 3) hI rfl rfl rfl Try.isAgg44 rfl) ?_
          refine JA_p 2 78 16 rfl rfl rfl rfl (by kernel_rfl) (by kernel_rfl) (fun _ => Q_move rfl rfl) ?_
          refine JA_call 3 79 rfl rfl rfl rfl (by kernel_rfl) (T_call rfl rfl rfl Try.call39) (Under_calls _ _ ((nth (lv.l) i2).deps) (hS20.rd 2 rfl hd10) _ (clockR (sub (lv.l) 0 i2)) (hS20.rd 5 rfl hr19_0)) ?_
          rintro _ w21 ⟨rfl, hk21⟩
          have hS21 := hS20.kp0 hk21
          refine ⟨_, rfl, (fun _ => ((hS20.kp0 hk21).pick [5, 3, 2, 0] ⟨rfl, rfl, rfl, rfl, rfl, rfl, rfl, rfl, trivial⟩)), ?_⟩
          refine JA_p 4 80 16 rfl rfl rfl rfl (by kernel_rfl) (by kernel_rfl) (fun _ => Q_not rfl rfl) ?_
          refine JA_p 5 81 16 rfl rfl rfl rfl (by kernel_rfl) (by kernel_rfl) (fun _ => Q_move rfl rfl) ?_
          refine JA_splitN 81 rfl (fun h22 => ?_) (fun h22 => ?_)
          · exact absurd (hcl.at (i := i2) (by omega) (by omega)).1 (by assumption)
          · refine JA_p 6 82 16 rfl rfl rfl rfl (by kernel_rfl) (by kernel_rfl) (fun _ => Q_move rfl rfl) ?_
            refine JA_p 7 83 16 rfl rfl rfl rfl (by kernel_rfl) (by kernel_rfl) (fun _ => Q_fa0 rfl rfl fo55_0) ?_
            refine JA_p 8 84 16 rfl rfl rfl rfl (by kernel_rfl) (by kernel_rfl) (fun _ => Q_fa rfl rfl fo23_1 rfl) ?_
            refine JA_q 9 85 rfl rfl rfl rfl (by kernel_rfl) (by kernel_rfl) (hS21.pick [5, 3, 2, 0] ⟨rfl, rfl, rfl, rfl, rfl, rfl, rfl, rfl, trivial⟩) (fun _ hI => Q_ldB1 (k := 3) hI rfl rfl rfl Try.isAgg3 rfl) ?_
            refine JA_p 11 87 16 rfl rfl rfl rfl (by kernel_rfl) (by kernel_rfl) (fun _ => Q_fa0 rfl rfl fo55_1) ?_
            refine JA_q 12 88 rfl rfl rfl rfl (by kernel_rfl) (by kernel_rfl) (hS21.pick [5, 3, 2, 0] ⟨rfl, rfl, rfl, rfl, rfl, rfl, rfl, rfl, trivial⟩) (fun _ hI => Q_ldB1 (k := 3) hI rfl rfl rfl Try.isAgg3 rfl) ?_
            refine JA_p 13 89 16 rfl rfl rfl rfl (by kernel_rfl) (by kernel_rfl) (fun _ => Q_sub rfl rfl rfl (by first | omega | (have hq9 := hsqs i2 (by omega) (by omega); omega)) (by first | omega | (have hq9 := hsqs i2 (by omega) (by omega); omega))) ?_
            refine JA_call 10 86 rfl rfl rfl rfl (by kernel_rfl) (T_call rfl rfl rfl Try.call40) (RAt_calls _ _ (clockR (sub (lv.l) 0 i2)) (hS21.rd 5 rfl hr19_0) ((nth (lv.l) i2).at_.r)) ?_
            rintro _ w23 ⟨rfl, hk23⟩
            have hS23 := hS21.kp0 hk23
            refine ⟨_, rfl, (fun _ => ((hS21.kp0 hk23).pick [5, 3, 2, 0] ⟨rfl, rfl, rfl, rfl, rfl, rfl, rfl, rfl, trivial⟩)), ?_⟩
            refine JA_p 14 90 16 rfl rfl rfl rfl (by kernel_rfl) (by kernel_rfl) (fun _ => Q_neqN rfl rfl rfl) ?_
            refine JA_p 15 91 16 rfl rfl rfl rfl (by kernel_rfl) (by kernel_rfl) (fun _ => Q_pickF rfl rfl rfl) ?_
            refine JA_end (by kernel_rfl) (K_seq ?_)
            refine C_ifN rfl (fun h24 => ?_) (fun h24 => ?_)
            · exact absurd (hcl.at (i := i2) (by omega) (by omega)).2.1 (by assumption)
            · refine C_skip (K_seq ?_)
              refine C_seq ?_
              refine C_region ?_
              refine J_q 92 rfl rfl rfl rfl (Q_ldBK' (k := 3) (chL (nth (lv.l) i2) A10 cap10) hS23 rfl rfl rfl Try.isAgg55 Try.sizeOf55 rfl rfl) ?_
              refine J_call 93 rfl rfl rfl rfl (T_call rfl rfl rfl Try.call41) (RNames_calls _ _ (nth (lv.l) i2) (hS23.rd 2 rfl hr10)) ?_
              rintro _ w25 ⟨vv25_0, rfl, hk25, hr25_0⟩
              have hS25 := hS23.call hk25 6
              obtain ⟨A25_0, cap25_0, rfl, hc25_0, hm25_0⟩ := hr25_0.slice
              have hz26 := names5_len (nth (lv.l) i2)
              refine ⟨_, rfl, ?_⟩
              refine J_q 12 rfl rfl rfl rfl (Q_assign rfl rfl) ?_
              refine J_nil (K_seq ?_)
              refine C_seq ?_
              refine C_region ?_
              refine J_q 13 rfl rfl rfl rfl (Q_assign rfl rfl) ?_
              refine J_nil (K_seq ?_)
              refine C_block ?_
              refine C_loop1 (fun (k : Int) => ((names5 (nth lv.l i2)).length - k).toNat) (fun (k : Int) => [(0, .int .i64 room), (1, .slice A_l l.length cap_l), (15, .int .i64 room), (16, .tuple #[.pointer (some (⟨gL1, 0, none⟩ : Addr)), .int .i64 0]), (14, .tuple #[.pointer (some (⟨gL1, 0, none⟩ : Addr)), .int .i64 0]), (17, .pointer (some (⟨gL1, 0, none⟩ : Addr))), (18, .int .i64 0), (5, .pointer (some (⟨gL1, 0, none⟩ : Addr))), (6, .int .i64 0), (19, .int .i64 0), (20, .bool false), (21, .bool false), (22, .pointer (some (⟨gL1, 0, none⟩ : Addr))), (23, .bool false), (24, .bool false), (7, .int .i64 i), (34, .int .i64 i), (35, .slice A_l l.length cap_l), (36, .int .i64 (l.length : Int)), (37, .bool (decide (i < (l.length : Int)))), (46, .pointer (some (⟨gL1, 0, none⟩ : Addr))), (47, .slice A7_0 ((lv.l).length) cap7_0), (8, .slice A7_0 ((lv.l).length) cap7_0), (9, .int .i64 i2), (48, .int .i64 i2), (49, .slice A7_0 ((lv.l).length) cap7_0), (50, .int .i64 ((lv.l).length : Int)), (51, .bool (decide (i2 < ((lv.l).length : Int)))), (54, .slice A7_0 ((lv.l).length) cap7_0), (55, .int .i64 i2), (56, .pointer (some (ad10.add (i2.toNat * 13)))), (57, .agg (chL (nth (lv.l) i2) A10 cap10).toArray), (10, .pointer (some (⟨g11, 0, none⟩ : Addr))), (58, .int .i64 i2), (59, .bool (decide (0 < i2))), (60, .bool true), (61, .slice A7_0 ((lv.l).length) cap7_0), (62, .int .i64 i2), (63, .int .i64 (i2 - 1)), (64, .pointer (some (ad15.add ((i2 - 1).toNat * 13)))), (65, .pointer (some ((ad15.add ((i2 - 1).toNat * 13)).add 0))), (66, .agg (stL ((nth (lv.l) (i2 - 1)).at_)).toArray), (67, .pointer (some ((⟨g11, 0, none⟩ : Addr).add 0))), (68, .agg (stL ((nth (lv.l) i2).at_)).toArray), (69, .bool (decide ((less ((nth (lv.l) (i2 - 1)).at_) ((nth (lv.l) i2).at_))))), (70, .bool (!decide ((less ((nth (lv.l) (i2 - 1)).at_) ((nth (lv.l) i2).at_))))), (71, .bool (!decide ((less ((nth (lv.l) (i2 - 1)).at_) ((nth (lv.l) i2).at_))))), (72, .slice A7_0 ((lv.l).length) cap7_0), (73, .int .i64 i2), (74, .slice (slA A7_0 cap7_0 (0 : Int).toNat 13) ((sub (lv.l) 0 i2).length) (cap7_0 - (0 : Int).toNat)), (75, .slice A19_0 ((clockR (sub (lv.l) 0 i2)).length) cap19_0), (11, .slice A19_0 ((clockR (sub (lv.l) 0 i2)).length) cap19_0), (76, .pointer (some ((⟨g11, 0, none⟩ : Addr).add 3))), (77, .slice A10 ((nth (lv.l) i2).deps.length) cap10), (78, .slice A19_0 ((clockR (sub (lv.l) 0 i2)).length) cap19_0), (79, .bool (decide ((under ((nth (lv.l) i2).deps) (clockR (sub (lv.l) 0 i2)))))), (80, .bool (!decide ((under ((nth (lv.l) i2).deps) (clockR (sub (lv.l) 0 i2)))))), (81, .bool false), (82, .slice A19_0 ((clockR (sub (lv.l) 0 i2)).length) cap19_0), (83, .pointer (some ((⟨g11, 0, none⟩ : Addr).add 0))), (84, .pointer (some ((⟨g11, 0, none⟩ : Addr).add 1))), (85, .int .i64 ((nth (lv.l) i2).at_.r)), (87, .pointer (some ((⟨g11, 0, none⟩ : Addr).add 2))), (88, .int .i64 ((nth (lv.l) i2).seq)), (89, .int .i64 (((nth (lv.l) i2).seq) - 1)), (86, .int .i64 (at2 (clockR (sub (lv.l) 0 i2)) ((nth (lv.l) i2).at_.r))), (90, .bool (!decide ((at2 (clockR (sub (lv.l) 0 i2)) ((nth (lv.l) i2).at_.r)) = ((nth (lv.l) i2).seq) - 1))), (91, .bool (!decide ((at2 (clockR (sub (lv.l) 0 i2)) ((nth (lv.l) i2).at_.r)) = ((nth (lv.l) i2).seq) - 1))), (92, .agg (chL (nth (lv.l) i2) A10 cap10).toArray), (93, .slice A25_0 ((names5 (nth (lv.l) i2)).length) cap25_0), (12, .slice A25_0 ((names5 (nth (lv.l) i2)).length) cap25_0), (13, .int .i64 k)]) (fun (k : Int) w' => (0 ≤ k) ∧ (k ≤ (names5 (nth lv.l i2)).length) ∧ St w w' [(6, fz w25 (nw w23 w25)), (5, fz w19 (nw w16 w19)), (3, blkL g11 (chL (nth (lv.l) i2) A10 cap10) 55), (2, fz w7 (nw w2 w7)), (1, logE lv.F gL1 room lv.l), (0, fz w (lt_ w))]) 0 ⟨(by omega), (by omega), hS25⟩ ⟨rfl, rfl, rfl, rfl, rfl, rfl, rfl, rfl, rfl, rfl, rfl, rfl, rfl, rfl, rfl, rfl, rfl, rfl, rfl, rfl, rfl, rfl, rfl, rfl, rfl, rfl, rfl, rfl, rfl, rfl, rfl, rfl, rfl, rfl, rfl, rfl, rfl, rfl, rfl, rfl, rfl, rfl, rfl, rfl, rfl, rfl, rfl, rfl, rfl, rfl, rfl, rfl, rfl, rfl, rfl, rfl, rfl, rfl, rfl, rfl, rfl, rfl, rfl, rfl, rfl, rfl, rfl, rfl, rfl, rfl, rfl, rfl, trivial⟩ ?_
              rintro k w27 ⟨h4, h5, hS27⟩
              refine C_seq ?_
              refine C_seq ?_
              refine C_region ?_
              refine J_q 94 rfl rfl rfl rfl (Q_move rfl rfl) ?_
              refine J_q 95 rfl rfl rfl rfl (Q_move rfl rfl) ?_
              refine J_q 96 rfl rfl rfl rfl (Q_len rfl rfl Try.underlying36) ?_
              refine J_q 97 rfl rfl rfl rfl (Q_lss rfl rfl rfl) ?_
              refine J_nil (K_seq ?_)
              refine C_if rfl (fun h28 => ?_) (fun h28 => ?_)
              · refine C_skip (K_seq ?_)
                refine C_seq ?_
                refine C_block ?_
                refine C_seq ?_
                refine C_draw (fun w' => St w w' [(6, fz w25 (nw w23 w25)), (5, fz w19 (nw w16 w19)), (3, blkL g11 (chL (nth (lv.l) i2) A10 cap10) 55), (2, fz w7 (nw w2 w7)), (0, fz w (lt_ w))]) 9 mixedOrders 9 rfl (fun w29 hk29 => ?_)
                have hS29 := hS27.kp0 hk29
                refine JA_p 0 100 9 rfl rfl rfl rfl (by kernel_rfl) (by kernel_rfl) (fun _ => Q_move rfl rfl) ?_
                refine JA_p 1 101 9 rfl rfl rfl rfl (by kernel_rfl) (by kernel_rfl) (fun _ => Q_move rfl rfl) ?_
                have hr30 := RdF.sub (l := 0) (h := i2) hr7_0 (by omega) (by omega) (by omega)
                have hl30 := sub_len (xs := (lv.l)) (l := 0) (h := i2) (by omega) (by omega) (by omega)
                have hc30 := hr7_0.cap_le
                refine JA_p 2 102 9 rfl rfl rfl rfl (by kernel_rfl) (by kernel_rfl) (fun _ => Q_sliceR tCh (lv.l) 0 i2 rfl rfl rfl rfl (.inl ⟨rfl, rfl⟩) (.inr rfl) Try.underlying43 Try.sizeOf55 (by omega) (by omega) (by omega) hc30) ?_
                refine JA_p 3 103 9 rfl rfl rfl rfl (by kernel_rfl) (by kernel_rfl) (fun _ => Q_move rfl rfl) ?_
                refine JA_p 4 104 9 rfl rfl rfl rfl (by kernel_rfl) (by kernel_rfl) (fun _ => Q_move rfl rfl) ?_
                obtain ⟨ad31, es31, hA31, hr31, hc31⟩ := RdF.nth hr25_0 k (by omega) (by omega)
                obtain ⟨rfl, ho31⟩ := openSt hr31
                refine JA_p 5 105 9 rfl rfl rfl rfl (by kernel_rfl) (by kernel_rfl) (fun _ => Q_iaE hA31 rfl rfl rfl Try.underlying36 Try.sizeOf23 (by omega) (by omega)) ?_
                refine JA_q 6 106 rfl rfl rfl rfl (by kernel_rfl) (by kernel_rfl) (hS29.pick [6, 5, 3, 2, 0] ⟨rfl, rfl, rfl, rfl, rfl, rfl, rfl, rfl, rfl, rfl, trivial⟩) (fun _ hI => Q_ldCK' (stL (nth (names5 (nth (lv.l) i2)) k)) (hc31 _ (hI.get (k := 6) rfl)) rfl rfl Try.isAgg23 Try.sizeOf23 rfl rfl) ?_
                refine JA_call 7 107 rfl rfl rfl rfl (by kernel_rfl) (T_call rfl rfl rfl Try.call32) (RFind_calls _ _ (sub (lv.l) 0 i2) (hS29.rd 2 rfl hr30) (nth (names5 (nth (lv.l) i2)) k)) ?_
                rintro _ w32 ⟨rfl, hk32⟩
                have hS32 := hS29.kp0 hk32
                have hz33 := findAt_lt (sub (lv.l) 0 i2) (nth (names5 (nth (lv.l) i2)) k)
                refine ⟨_, rfl, (fun _ => ((hS29.kp0 hk32).pick [6, 5, 3, 2, 0] ⟨rfl, rfl, rfl, rfl, rfl, rfl, rfl, rfl, rfl, rfl, trivial⟩)), ?_⟩
                refine JA_p 8 108 9 rfl rfl rfl rfl (by kernel_rfl) (by kernel_rfl) (fun _ => Q_lss rfl rfl rfl) ?_
                refine JA_end (by kernel_rfl) (K_seq ?_)
                refine C_if rfl (fun h34 => ?_) (fun h34 => ?_)
                · have hq9 := (hcl.at (i := i2) (by omega) (by omega)).2.2 _ (nth_mem h4 (by assumption)); rw [← subC] at hq9; exfalso; omega
                · refine C_skip (N_blk (K_seq ?_))
                  refine C_region ?_
                  refine J_q 98 rfl rfl rfl rfl (Q_move rfl rfl) ?_
                  refine J_q 99 rfl rfl rfl rfl (Q_add rfl rfl rfl (by first | omega | (have hq9 := hsqs i2 (by omega) (by omega); omega)) (by first | omega | (have hq9 := hsqs i2 (by omega) (by omega); omega))) ?_
                  refine J_q 13 rfl rfl rfl rfl (Q_assign rfl rfl) ?_
                  exact J_nil (K_round1 (x0 := k) (k + 1) ⟨(by omega), (by omega), hS32⟩ (by omega) ⟨rfl, rfl, rfl, rfl, rfl, rfl, rfl, rfl, rfl, rfl, rfl, rfl, rfl, rfl, rfl, rfl, rfl, rfl, rfl, rfl, rfl, rfl, rfl, rfl, rfl, rfl, rfl, rfl, rfl, rfl, rfl, rfl, rfl, rfl, rfl, rfl, rfl, rfl, rfl, rfl, rfl, rfl, rfl, rfl, rfl, rfl, rfl, rfl, rfl, rfl, rfl, rfl, rfl, rfl, rfl, rfl, rfl, rfl, rfl, rfl, rfl, rfl, rfl, rfl, rfl, rfl, rfl, rfl, rfl, rfl, rfl, rfl, trivial⟩)
              · refine C_exit (X_then (X_then (X_hit (N_blk (K_seq ?_)))))
                refine C_region ?_
                refine J_q 52 rfl rfl rfl rfl (Q_move rfl rfl) ?_
                refine J_q 53 rfl rfl rfl rfl (Q_add rfl rfl rfl (by first | omega | (have hq9 := hsqs i2 (by omega) (by omega); omega)) (by first | omega | (have hq9 := hsqs i2 (by omega) (by omega); omega))) ?_
                refine J_q 9 rfl rfl rfl rfl (Q_assign rfl rfl) ?_
                exact J_nil (K_round1 (x0 := i2) (i2 + 1) ⟨(by omega), (by omega), (hS27.pick [2, 1, 0] ⟨rfl, rfl, rfl, rfl, rfl, rfl, trivial⟩)⟩ (by omega) ⟨rfl, rfl, rfl, rfl, rfl, rfl, rfl, rfl, rfl, rfl, rfl, rfl, rfl, rfl, rfl, rfl, rfl, rfl, rfl, rfl, rfl, rfl, rfl, rfl, trivial⟩)
      · refine JA_no 3 14 rfl rfl rfl (by kernel_rfl) (by kernel_rfl) (fun _ h => by cases h; rfl) ?_
        refine JA_no 4 14 rfl rfl rfl (by kernel_rfl) (by kernel_rfl) (fun _ h => by cases h; rfl) ?_
        refine JA_no 5 14 rfl rfl rfl (by kernel_rfl) (by kernel_rfl) (fun _ h => by cases h; rfl) ?_
        refine JA_no 6 14 rfl rfl rfl (by kernel_rfl) (by kernel_rfl) (fun _ h => by cases h; rfl) ?_
        refine JA_no 7 14 rfl rfl rfl (by kernel_rfl) (by kernel_rfl) (fun _ h => by cases h; rfl) ?_
        refine JA_no 8 14 rfl rfl rfl (by kernel_rfl) (by kernel_rfl) (fun _ h => by cases h; rfl) ?_
        refine JA_no 9 14 rfl rfl rfl (by kernel_rfl) (by kernel_rfl) (fun _ h => by cases h; rfl) ?_
        refine JA_no 10 14 rfl rfl rfl (by kernel_rfl) (by kernel_rfl) (fun _ h => by cases h; rfl) ?_
        refine JA_no 11 14 rfl rfl rfl (by kernel_rfl) (by kernel_rfl) (fun _ h => by cases h; rfl) ?_
        refine JA_no 12 14 rfl rfl rfl (by kernel_rfl) (by kernel_rfl) (fun _ h => by cases h; rfl) ?_
        refine JA_p 13 71 14 rfl rfl rfl rfl (by kernel_rfl) (by kernel_rfl) (fun _ => Q_pickF rfl rfl rfl) ?_
        refine JA_end (by kernel_rfl) (K_seq ?_)
        refine C_false rfl ?_
        refine C_skip (K_seq ?_)
        refine C_seq ?_
        refine C_region ?_
        refine J_q 72 rfl rfl rfl rfl (Q_move rfl rfl) ?_
        refine J_q 73 rfl rfl rfl rfl (Q_move rfl rfl) ?_
        have hr35 := RdF.sub (l := 0) (h := i2) hr7_0 (by omega) (by omega) (by omega)
        have hl35 := sub_len (xs := (lv.l)) (l := 0) (h := i2) (by omega) (by omega) (by omega)
        have hc35 := hr7_0.cap_le
        refine J_q 74 rfl rfl rfl rfl (Q_sliceR tCh (lv.l) 0 i2 rfl rfl rfl rfl (.inl ⟨rfl, rfl⟩) (.inr rfl) Try.underlying43 Try.sizeOf55 (by omega) (by omega) (by omega) hc35) ?_
        refine J_call 75 rfl rfl rfl rfl (T_call rfl rfl rfl Try.call38) (RClock_calls _ _ (sub (lv.l) 0 i2) (hS13.rd 2 rfl hr35)) ?_
        rintro _ w36 ⟨vv36_0, rfl, hk36, hr36_0⟩
        have hS36 := hS13.call hk36 7
        obtain ⟨A36_0, cap36_0, rfl, hc36_0, hm36_0⟩ := hr36_0.slice
        refine ⟨_, rfl, ?_⟩
        refine J_q 11 rfl rfl rfl rfl (Q_assign rfl rfl) ?_
        refine J_nil (K_seq ?_)
        refine C_seq ?_
        refine C_seq ?_
        refine C_draw (fun w' => St w w' [(7, fz w36 (nw w13 w36)), (3, blkL g11 (chL (nth (lv.l) i2) A10 cap10) 55), (2, fz w7 (nw w2 w7)), (0, fz w (lt_ w))]) 16 mixedOrders 16 rfl (fun w37 hk37 => ?_)
        have hS37 := hS36.kp0 hk37
        refine JA_p 0 76 16 rfl rfl rfl rfl (by kernel_rfl) (by kernel_rfl) (fun _ => Q_fa0 rfl rfl fo55_2) ?_
        refine JA_q 1 77 rfl rfl rfl rfl (by kernel_rfl) (by kernel_rfl) (hS37.pick [7, 3, 2, 0] ⟨rfl, rfl, rfl, rfl, rfl, rfl, rfl, rfl, trivial⟩) (fun _ hI => Q_ldB1 (k := 3) hI rfl rfl rfl Try.isAgg44 rfl) ?_
        refine JA_p 2 78 16 rfl rfl rfl rfl (by kernel_rfl) (by kernel_rfl) (fun _ => Q_move rfl rfl) ?_
        refine JA_call 3 79 rfl rfl rfl rfl (by kernel_rfl) (T_call rfl rfl rfl Try.call39) (Under_calls _ _ ((nth (lv.l) i2).deps) (hS37.rd 2 rfl hd10) _ (clockR (sub (lv.l) 0 i2)) (hS37.rd 7 rfl hr36_0)) ?_
        rintro _ w38 ⟨rfl, hk38⟩
        have hS38 := hS37.kp0 hk38
        refine ⟨_, rfl, (fun _ => ((hS37.kp0 hk38).pick [7, 3, 2, 0] ⟨rfl, rfl, rfl, rfl, rfl, rfl, rfl, rfl, trivial⟩)), ?_⟩
        refine JA_p 4 80 16 rfl rfl rfl rfl (by kernel_rfl) (by kernel_rfl) (fun _ => Q_not rfl rfl) ?_
        refine JA_p 5 81 16 rfl rfl rfl rfl (by kernel_rfl) (by kernel_rfl) (fun _ => Q_move rfl rfl) ?_
        refine JA_splitN 81 rfl (fun h39 => ?_) (fun h39 => ?_)
        · exact absurd (hcl.at (i := i2) (by omega) (by omega)).1 (by assumption)
        · refine JA_p 6 82 16 rfl rfl rfl rfl (by kernel_rfl) (by kernel_rfl) (fun _ => Q_move rfl rfl) ?_
          refine JA_p 7 83 16 rfl rfl rfl rfl (by kernel_rfl) (by kernel_rfl) (fun _ => Q_fa0 rfl rfl fo55_0) ?_
          refine JA_p 8 84 16 rfl rfl rfl rfl (by kernel_rfl) (by kernel_rfl) (fun _ => Q_fa rfl rfl fo23_1 rfl) ?_
          refine JA_q 9 85 rfl rfl rfl rfl (by kernel_rfl) (by kernel_rfl) (hS38.pick [7, 3, 2, 0] ⟨rfl, rfl, rfl, rfl, rfl, rfl, rfl, rfl, trivial⟩) (fun _ hI => Q_ldB1 (k := 3) hI rfl rfl rfl Try.isAgg3 rfl) ?_
          refine JA_p 11 87 16 rfl rfl rfl rfl (by kernel_rfl) (by kernel_rfl) (fun _ => Q_fa0 rfl rfl fo55_1) ?_
          refine JA_q 12 88 rfl rfl rfl rfl (by kernel_rfl) (by kernel_rfl) (hS38.pick [7, 3, 2, 0] ⟨rfl, rfl, rfl, rfl, rfl, rfl, rfl, rfl, trivial⟩) (fun _ hI => Q_ldB1 (k := 3) hI rfl rfl rfl Try.isAgg3 rfl) ?_
          refine JA_p 13 89 16 rfl rfl rfl rfl (by kernel_rfl) (by kernel_rfl) (fun _ => Q_sub rfl rfl rfl (by first | omega | (have hq9 := hsqs i2 (by omega) (by omega); omega)) (by first | omega | (have hq9 := hsqs i2 (by omega) (by omega); omega))) ?_
          refine JA_call 10 86 rfl rfl rfl rfl (by kernel_rfl) (T_call rfl rfl rfl Try.call40) (RAt_calls _ _ (clockR (sub (lv.l) 0 i2)) (hS38.rd 7 rfl hr36_0) ((nth (lv.l) i2).at_.r)) ?_
          rintro _ w40 ⟨rfl, hk40⟩
          have hS40 := hS38.kp0 hk40
          refine ⟨_, rfl, (fun _ => ((hS38.kp0 hk40).pick [7, 3, 2, 0] ⟨rfl, rfl, rfl, rfl, rfl, rfl, rfl, rfl, trivial⟩)), ?_⟩
          refine JA_p 14 90 16 rfl rfl rfl rfl (by kernel_rfl) (by kernel_rfl) (fun _ => Q_neqN rfl rfl rfl) ?_
          refine JA_p 15 91 16 rfl rfl rfl rfl (by kernel_rfl) (by kernel_rfl) (fun _ => Q_pickF rfl rfl rfl) ?_
          refine JA_end (by kernel_rfl) (K_seq ?_)
          refine C_ifN rfl (fun h41 => ?_) (fun h41 => ?_)
          · exact absurd (hcl.at (i := i2) (by omega) (by omega)).2.1 (by assumption)
          · refine C_skip (K_seq ?_)
            refine C_seq ?_
            refine C_region ?_
            refine J_q 92 rfl rfl rfl rfl (Q_ldBK' (k := 3) (chL (nth (lv.l) i2) A10 cap10) hS40 rfl rfl rfl Try.isAgg55 Try.sizeOf55 rfl rfl) ?_
            refine J_call 93 rfl rfl rfl rfl (T_call rfl rfl rfl Try.call41) (RNames_calls _ _ (nth (lv.l) i2) (hS40.rd 2 rfl hr10)) ?_
            rintro _ w42 ⟨vv42_0, rfl, hk42, hr42_0⟩
            have hS42 := hS40.call hk42 8
            obtain ⟨A42_0, cap42_0, rfl, hc42_0, hm42_0⟩ := hr42_0.slice
            have hz43 := names5_len (nth (lv.l) i2)
            refine ⟨_, rfl, ?_⟩
            refine J_q 12 rfl rfl rfl rfl (Q_assign rfl rfl) ?_
            refine J_nil (K_seq ?_)
            refine C_seq ?_
            refine C_region ?_
            refine J_q 13 rfl rfl rfl rfl (Q_assign rfl rfl) ?_
            refine J_nil (K_seq ?_)
            refine C_block ?_
            refine C_loop1 (fun (k : Int) => ((names5 (nth lv.l i2)).length - k).toNat) (fun (k : Int) => [(0, .int .i64 room), (1, .slice A_l l.length cap_l), (15, .int .i64 room), (16, .tuple #[.pointer (some (⟨gL1, 0, none⟩ : Addr)), .int .i64 0]), (14, .tuple #[.pointer (some (⟨gL1, 0, none⟩ : Addr)), .int .i64 0]), (17, .pointer (some (⟨gL1, 0, none⟩ : Addr))), (18, .int .i64 0), (5, .pointer (some (⟨gL1, 0, none⟩ : Addr))), (6, .int .i64 0), (19, .int .i64 0), (20, .bool false), (21, .bool false), (22, .pointer (some (⟨gL1, 0, none⟩ : Addr))), (23, .bool false), (24, .bool false), (7, .int .i64 i), (34, .int .i64 i), (35, .slice A_l l.length cap_l), (36, .int .i64 (l.length : Int)), (37, .bool (decide (i < (l.length : Int)))), (46, .pointer (some (⟨gL1, 0, none⟩ : Addr))), (47, .slice A7_0 ((lv.l).length) cap7_0), (8, .slice A7_0 ((lv.l).length) cap7_0), (9, .int .i64 i2), (48, .int .i64 i2), (49, .slice A7_0 ((lv.l).length) cap7_0), (50, .int .i64 ((lv.l).length : Int)), (51, .bool (decide (i2 < ((lv.l).length : Int)))), (54, .slice A7_0 ((lv.l).length) cap7_0), (55, .int .i64 i2), (56, .pointer (some (ad10.add (i2.toNat * 13)))), (57, .agg (chL (nth (lv.l) i2) A10 cap10).toArray), (10, .pointer (some (⟨g11, 0, none⟩ : Addr))), (58, .int .i64 i2), (59, .bool (decide (0 < i2))), (60, .bool false), (71, .bool false), (72, .slice A7_0 ((lv.l).length) cap7_0), (73, .int .i64 i2), (74, .slice (slA A7_0 cap7_0 (0 : Int).toNat 13) ((sub (lv.l) 0 i2).length) (cap7_0 - (0 : Int).toNat)), (75, .slice A36_0 ((clockR (sub (lv.l) 0 i2)).length) cap36_0), (11, .slice A36_0 ((clockR (sub (lv.l) 0 i2)).length) cap36_0), (76, .pointer (some ((⟨g11, 0, none⟩ : Addr).add 3))), (77, .slice A10 ((nth (lv.l) i2).deps.length) cap10), (78, .slice A36_0 ((clockR (sub (lv.l) 0 i2)).length) cap36_0), (79, .bool (decide ((under ((nth (lv.l) i2).deps) (clockR (sub (lv.l) 0 i2)))))), (80, .bool (!decide ((under ((nth (lv.l) i2).deps) (clockR (sub (lv.l) 0 i2)))))), (81, .bool false), (82, .slice A36_0 ((clockR (sub (lv.l) 0 i2)).length) cap36_0), (83, .pointer (some ((⟨g11, 0, none⟩ : Addr).add 0))), (84, .pointer (some ((⟨g11, 0, none⟩ : Addr).add 1))), (85, .int .i64 ((nth (lv.l) i2).at_.r)), (87, .pointer (some ((⟨g11, 0, none⟩ : Addr).add 2))), (88, .int .i64 ((nth (lv.l) i2).seq)), (89, .int .i64 (((nth (lv.l) i2).seq) - 1)), (86, .int .i64 (at2 (clockR (sub (lv.l) 0 i2)) ((nth (lv.l) i2).at_.r))), (90, .bool (!decide ((at2 (clockR (sub (lv.l) 0 i2)) ((nth (lv.l) i2).at_.r)) = ((nth (lv.l) i2).seq) - 1))), (91, .bool (!decide ((at2 (clockR (sub (lv.l) 0 i2)) ((nth (lv.l) i2).at_.r)) = ((nth (lv.l) i2).seq) - 1))), (92, .agg (chL (nth (lv.l) i2) A10 cap10).toArray), (93, .slice A42_0 ((names5 (nth (lv.l) i2)).length) cap42_0), (12, .slice A42_0 ((names5 (nth (lv.l) i2)).length) cap42_0), (13, .int .i64 k)]) (fun (k : Int) w' => (0 ≤ k) ∧ (k ≤ (names5 (nth lv.l i2)).length) ∧ St w w' [(8, fz w42 (nw w40 w42)), (7, fz w36 (nw w13 w36)), (3, blkL g11 (chL (nth (lv.l) i2) A10 cap10) 55), (2, fz w7 (nw w2 w7)), (1, logE lv.F gL1 room lv.l), (0, fz w (lt_ w))]) 0 ⟨(by omega), (by omega), hS42⟩ ⟨rfl, rfl, rfl, rfl, rfl, rfl, rfl, rfl, rfl, rfl, rfl, rfl, rfl, rfl, rfl, rfl, rfl, rfl, rfl, rfl, rfl, rfl, rfl, rfl, rfl, rfl, rfl, rfl, rfl, rfl, rfl, rfl, rfl, rfl, rfl, rfl, rfl, rfl, rfl, rfl, rfl, rfl, rfl, rfl, rfl, rfl, rfl, rfl, rfl, rfl, rfl, rfl, rfl, rfl, rfl, rfl, rfl, rfl, rfl, rfl, rfl, rfl, trivial⟩ ?_
            rintro k w44 ⟨h4, h5, hS44⟩
            refine C_seq ?_
            refine C_seq ?_
            refine C_region ?_
            refine J_q 94 rfl rfl rfl rfl (Q_move rfl rfl) ?_
            refine J_q 95 rfl rfl rfl rfl (Q_move rfl rfl) ?_
            refine J_q 96 rfl rfl rfl rfl (Q_len rfl rfl Try.underlying36) ?_
            refine J_q 97 rfl rfl rfl rfl (Q_lss rfl rfl rfl) ?_
            refine J_nil (K_seq ?_)
            refine C_if rfl (fun h45 => ?_) (fun h45 => ?_)
            · refine C_skip (K_seq ?_)
              refine C_seq ?_
              refine C_block ?_
              refine C_seq ?_
              refine C_draw (fun w' => St w w' [(8, fz w42 (nw w40 w42)), (7, fz w36 (nw w13 w36)), (3, blkL g11 (chL (nth (lv.l) i2) A10 cap10) 55), (2, fz w7 (nw w2 w7)), (0, fz w (lt_ w))]) 9 mixedOrders 9 rfl (fun w46 hk46 => ?_)
              have hS46 := hS44.kp0 hk46
              refine JA_p 0 100 9 rfl rfl rfl rfl (by kernel_rfl) (by kernel_rfl) (fun _ => Q_move rfl rfl) ?_
              refine JA_p 1 101 9 rfl rfl rfl rfl (by kernel_rfl) (by kernel_rfl) (fun _ => Q_move rfl rfl) ?_
              have hr47 := RdF.sub (l := 0) (h := i2) hr7_0 (by omega) (by omega) (by omega)
              have hl47 := sub_len (xs := (lv.l)) (l := 0) (h := i2) (by omega) (by omega) (by omega)
              have hc47 := hr7_0.cap_le
              refine JA_p 2 102 9 rfl rfl rfl rfl (by kernel_rfl) (by kernel_rfl) (fun _ => Q_sliceR tCh (lv.l) 0 i2 rfl rfl rfl rfl (.inl ⟨rfl, rfl⟩) (.inr rfl) Try.underlying43 Try.sizeOf55 (by omega) (by omega) (by omega) hc47) ?_
              refine JA_p 3 103 9 rfl rfl rfl rfl (by kernel_rfl) (by kernel_rfl) (fun _ => Q_move rfl rfl) ?_
              refine JA_p 4 104 9 rfl rfl rfl rfl (by kernel_rfl) (by kernel_rfl) (fun _ => Q_move rfl rfl) ?_
              obtain ⟨ad48, es48, hA48, hr48, hc48⟩ := RdF.nth hr42_0 k (by omega) (by omega)
              obtain ⟨rfl, ho48⟩ := openSt hr48
              refine JA_p 5 105 9 rfl rfl rfl rfl (by kernel_rfl) (by kernel_rfl) (fun _ => Q_iaE hA48 rfl rfl rfl Try.underlying36 Try.sizeOf23 (by omega) (by omega)) ?_
              refine JA_q 6 106 rfl rfl rfl rfl (by kernel_rfl) (by kernel_rfl) (hS46.pick [8, 7, 3, 2, 0] ⟨rfl, rfl, rfl, rfl, rfl, rfl, rfl, rfl, rfl, rfl, trivial⟩) (fun _ hI => Q_ldCK' (stL (nth (names5 (nth (lv.l) i2)) k)) (hc48 _ (hI.get (k := 8) rfl)) rfl rfl Try.isAgg23 Try.sizeOf23 rfl rfl) ?_
              refine JA_call 7 107 rfl rfl rfl rfl (by kernel_rfl) (T_call rfl rfl rfl Try.call32) (RFind_calls _ _ (sub (lv.l) 0 i2) (hS46.rd 2 rfl hr47) (nth (names5 (nth (lv.l) i2)) k)) ?_
              rintro _ w49 ⟨rfl, hk49⟩
              have hS49 := hS46.kp0 hk49
              have hz50 := findAt_lt (sub (lv.l) 0 i2) (nth (names5 (nth (lv.l) i2)) k)
              refine ⟨_, rfl, (fun _ => ((hS46.kp0 hk49).pick [8, 7, 3, 2, 0] ⟨rfl, rfl, rfl, rfl, rfl, rfl, rfl, rfl, rfl, rfl, trivial⟩)), ?_⟩
              refine JA_p 8 108 9 rfl rfl rfl rfl (by kernel_rfl) (by kernel_rfl) (fun _ => Q_lss rfl rfl rfl) ?_
              refine JA_end (by kernel_rfl) (K_seq ?_)
              refine C_if rfl (fun h51 => ?_) (fun h51 => ?_)
              · have hq9 := (hcl.at (i := i2) (by omega) (by omega)).2.2 _ (nth_mem h4 (by assumption)); rw [← subC] at hq9; exfalso; omega
              · refine C_skip (N_blk (K_seq ?_))
                refine C_region ?_
                refine J_q 98 rfl rfl rfl rfl (Q_move rfl rfl) ?_
                refine J_q 99 rfl rfl rfl rfl (Q_add rfl rfl rfl (by first | omega | (have hq9 := hsqs i2 (by omega) (by omega); omega)) (by first | omega | (have hq9 := hsqs i2 (by omega) (by omega); omega))) ?_
                refine J_q 13 rfl rfl rfl rfl (Q_assign rfl rfl) ?_
                exact J_nil (K_round1 (x0 := k) (k + 1) ⟨(by omega), (by omega), hS49⟩ (by omega) ⟨rfl, rfl, rfl, rfl, rfl, rfl, rfl, rfl, rfl, rfl, rfl, rfl, rfl, rfl, rfl, rfl, rfl, rfl, rfl, rfl, rfl, rfl, rfl, rfl, rfl, rfl, rfl, rfl, rfl, rfl, rfl, rfl, rfl, rfl, rfl, rfl, rfl, rfl, rfl, rfl, rfl, rfl, rfl, rfl, rfl, rfl, rfl, rfl, rfl, rfl, rfl, rfl, rfl, rfl, rfl, rfl, rfl, rfl, rfl, rfl, rfl, rfl, trivial⟩)
            · refine C_exit (X_then (X_then (X_hit (N_blk (K_seq ?_)))))
              refine C_region ?_
              refine J_q 52 rfl rfl rfl rfl (Q_move rfl rfl) ?_
              refine J_q 53 rfl rfl rfl rfl (Q_add rfl rfl rfl (by first | omega | (have hq9 := hsqs i2 (by omega) (by omega); omega)) (by first | omega | (have hq9 := hsqs i2 (by omega) (by omega); omega))) ?_
              refine J_q 9 rfl rfl rfl rfl (Q_assign rfl rfl) ?_
              exact J_nil (K_round1 (x0 := i2) (i2 + 1) ⟨(by omega), (by omega), (hS44.pick [2, 1, 0] ⟨rfl, rfl, rfl, rfl, rfl, rfl, trivial⟩)⟩ (by omega) ⟨rfl, rfl, rfl, rfl, rfl, rfl, rfl, rfl, rfl, rfl, rfl, rfl, rfl, rfl, rfl, rfl, rfl, rfl, rfl, rfl, rfl, rfl, rfl, rfl, trivial⟩)
    · refine C_exit (X_then (X_then (X_hit (K_seq ?_))))
      refine C_seq ?_
      refine C_region ?_
      refine J_call 109 rfl rfl rfl rfl (T_call rfl rfl rfl Try.call30) (awake_calls _) ?_
      rintro _ w52 ⟨rfl, hk52⟩
      have hS52 := hS8.kp0 hk52
      refine ⟨_, rfl, ?_⟩
      refine J_q 4 rfl rfl rfl rfl (Q_assign rfl rfl) ?_
      refine J_nil (K_seq ?_)
      refine C_ret (body_ret (res1 rfl rfl) ?_)
      exact ⟨rfl, hS52.kept (k := 0) rfl⟩
end Go.Proofs.Ytceeellnjckmiaa

/- OplogClosed at any room. -/
namespace Go.Proofs.Ytceeellnjckmiaa
open Go Go.Sl
theorem OplogClosed_calls (w : World) (room : Int) (v_l : Value) (l : List Change) (h_l : (tSl tCh).rd w [v_l] l) (hR : InR room) :
    Calls Try.prog 6 #[.int .i64 room, v_l] w fun e w' => e = .returned (.bool true) ∧ Kp no w w' := by
  by_cases h : 1 ≤ room ∧ room ≤ 4096
  · exact OplogClosedG_calls w room v_l l h_l h
  · exact OplogClosedB_calls w room v_l l h_l (by omega)
end Go.Proofs.Ytceeellnjckmiaa

/- What comes in, opened: from the reading of an argument to what its cells read as. -/
namespace Go.Proofs.Ytceeellnjckmiaa.opens
open Go Go.Sl Go.ChangeShapes Go.WideShapes Go.RowKit

theorem one_le {H : Type} (d : DataW H) : 1 ≤ Rows.uptoBulk d := by
  cases d with
  | lit l => cases l <;> simp [Rows.uptoBulk]
  | _ => simp [Rows.uptoBulk]
theorem part_le {H : Type} {d : DataW H} {l : List (DataW H)} (h : d ∈ l) : Rows.uptoBulk d ≤ Rows.uptoBulkAll l := by
  induction l with
  | nil => cases h
  | cons x r ih =>
    simp only [Rows.uptoBulkAll]
    cases List.mem_cons.1 h with
    | inl e => subst e; omega
    | inr e => have := ih e; omega
theorem length_le {H : Type} (l : List (DataW H)) : l.length ≤ Rows.uptoBulkAll l := by
  induction l with
  | nil => simp [Rows.uptoBulkAll]
  | cons x r ih => have := one_le x; simp only [Rows.uptoBulkAll, List.length_cons]; omega
theorem bulk_slice {H : Type} (a b : List (DataW H)) : Rows.uptoBulk (DataW.slice a b) = Rows.uptoBulkAll a + Rows.uptoBulkAll b + 1 := by simp [Rows.uptoBulk]
theorem bulk_agg {H : Type} (a : List (DataW H)) : Rows.uptoBulk (DataW.agg a) = Rows.uptoBulkAll a + 1 := by simp [Rows.uptoBulk]

/-- What reads at this type (and is small) reads as d says. -/
def Opens {α : Type} (t : TypeId) (d : Ty α) : Prop := ∀ (H : Type) (enc : TypeId × Value → H) (w : World) (sp : Nat → Bool) (hd : Bool) (fuel : Nat) (cs : List Value) (x : DataW H × List MemPlace),
  DataW.trod enc Try.prog w 0 sp hd fuel t cs = some x → Rows.uptoBulk x.1 ≤ 1048576 → ∃ a, d.rd w cs a

theorem cells_at {w : World} {ad : Addr} {n : Nat} {cs : List Value} (h : w.cells? 0 ad n = some cs) : CellsAt w ad cs := by
  intro j v hv
  unfold World.cells? at h
  rw [if_pos (Nat.zero_le _)] at h
  have hl := mapM_some_length h
  have hj : j < n := by have := (List.getElem?_eq_some_iff.1 hv).1; simp at hl; omega
  rw [mapM_some_get h j j (by simp [hj]), hv]

theorem wf_in {a : Int} (h : (Lit.int .i64 a).wf = true) : InR a := by
  simp [Lit.wf, IntKind.min, IntKind.max, IntKind.signed, IntKind.bits] at h
  constructor <;> omega

theorem opens_int : Opens 3 tI := by
  intro H enc w sp hd fuel cs x h _
  obtain ⟨n, rfl, _, hw⟩ := DataW.trod_int Try.underlying3 h
  exact ⟨n, rfl, wf_in hw⟩
theorem str_le {H : Type} {s : ByteArray} (h : Rows.uptoBulk (DataW.lit (H := H) (.string s.data.toList)) ≤ 1048576) : s.size ≤ 140737488355328 := by
  simp only [Rows.uptoBulk, Array.length_toList] at h
  show s.data.size ≤ _
  omega
theorem opens_str : Opens 9 tS := by
  intro H enc w sp hd fuel cs x h hb
  obtain ⟨n, rfl, rfl, hw⟩ := DataW.trod_string Try.underlying9 h
  exact ⟨n, rfl, str_le hb⟩
set_option maxRecDepth 100000 in
theorem opens_st : Opens 23 tSt := by
  intro H enc w sp hd fuel cs x h _
  obtain ⟨y0, y1, n, rfl, hl, h0, h1⟩ := trod_struct2 Try.underlying23 h
  obtain ⟨a0, e0, _, w0⟩ := DataW.trod_int Try.underlying3 h0
  obtain ⟨a1, e1, _, w1⟩ := DataW.trod_int Try.underlying3 h1
  rw [show Try.prog.cellsOf 23 = 2 by kernel_rfl] at hl
  rw [show Try.prog.cellsOf 3 = 1 by kernel_rfl] at e0 e1
  match cs, hl with
  | [c0, c1], _ => simp at e0 e1; subst e0 e1; exact ⟨⟨a0, a1⟩, rfl, wf_in w0, wf_in w1⟩
set_option maxRecDepth 100000 in
theorem opens_slice {α : Type} {t e : TypeId} {d : Ty α} (ht : Try.prog.underlying t = some (.slice e)) (hc : Try.prog.cellsOf e = d.sz) (ho : Opens e d) : Opens t (tSl d) := by
  intro H enc w sp hd fuel cs x h hb
  rcases Go.Deep.open_slice ht h with ⟨rfl, rfl⟩ | ⟨a, len, cap, m, n, D, Pl, hcs, h8, hlc, h9, hm, hx, hel⟩
  rotate_left
  subst hcs hx
  rotate_right
  · exact ⟨[], none, 0, rfl, Nat.le_refl _, Nat.zero_le _, fun i x hx => by simp at hx⟩
  · have hlm : len ≤ m := by rw [hm]; split <;> omega
    have hb1 := hb
    simp only [bulk_slice] at hb1
    have hll := length_le ((List.range len).map D)
    simp at hll
    have hE : ∀ i, i < len → ∃ y, ∃ cs', CellsAt w (a.add (i * d.sz)) cs' ∧ d.rd w cs' y := by
      intro i hi
      obtain ⟨cs', h1, h2⟩ := hel i (by omega)
      have hp := part_le (d := D i) (l := (List.range len).map D) (List.mem_map.2 ⟨i, by simpa using hi, rfl⟩)
      obtain ⟨y, hy⟩ := ho H enc w sp hd n cs' _ h2 (by show Rows.uptoBulk (D i) ≤ _; omega)
      exact ⟨y, cs', cells_at (by rw [← hc]; exact h1), hy⟩
    have hX : ∃ xs : List α, xs.length = len ∧ ∀ i x, xs[i]? = some x → ∃ cs', CellsAt w (a.add (i * d.sz)) cs' ∧ d.rd w cs' x := by
      clear hel hb hb1 hll hlm hm hlc h
      induction len with
      | zero => exact ⟨[], rfl, fun i x hx => by simp at hx⟩
      | succ k ih =>
        obtain ⟨xs, hl, hx⟩ := ih (fun i hi => hE i (by omega))
        obtain ⟨y, hy⟩ := hE k (by omega)
        refine ⟨xs ++ [y], by simp [hl], fun i x hi => ?_⟩
        by_cases hik : i < xs.length
        · rw [List.getElem?_append_left hik] at hi; exact hx i x hi
        · have h2 := (List.getElem?_eq_some_iff.1 hi).1
          simp at h2
          obtain rfl : i = k := by omega
          rw [List.getElem?_append_right (by omega), hl] at hi
          simp at hi; subst hi; exact hy
    obtain ⟨xs, rfl, hx⟩ := hX
    refine ⟨xs, some a, cap, rfl, hlc, by unfold maxL; omega, fun i x hi => ?_⟩
    obtain ⟨cs', h1, h2⟩ := hx i x hi
    exact ⟨a, cs', rfl, h1, h2⟩
theorem opens_ints : Opens 44 (tSl tI) := opens_slice Try.underlying44 (by kernel_rfl) opens_int
set_option maxRecDepth 100000 in
theorem opens_ch : Opens 55 tCh := by
  intro H enc w sp hd fuel cs x h hb
  obtain ⟨xs, n, _, rfl, hl, hlen, hf⟩ := DataW.trod_struct Try.underlying55 h
  match xs, hlen with
  | [y0, y1, y2, y3, y4, y5, y6, y7, y8], _ =>
    have g0 : DataW.trod enc Try.prog w 0 sp hd n 23 ((cs.drop 0).take (Try.prog.cellsOf 23)) = some y0 := hf 0 _ rfl
    have g1 : DataW.trod enc Try.prog w 0 sp hd n 3 ((cs.drop 2).take (Try.prog.cellsOf 3)) = some y1 := hf 1 _ rfl
    have g2 : DataW.trod enc Try.prog w 0 sp hd n 44 ((cs.drop 3).take (Try.prog.cellsOf 44)) = some y2 := hf 2 _ rfl
    have g3 : DataW.trod enc Try.prog w 0 sp hd n 3 ((cs.drop 4).take (Try.prog.cellsOf 3)) = some y3 := hf 3 _ rfl
    have g4 : DataW.trod enc Try.prog w 0 sp hd n 23 ((cs.drop 5).take (Try.prog.cellsOf 23)) = some y4 := hf 4 _ rfl
    have g5 : DataW.trod enc Try.prog w 0 sp hd n 23 ((cs.drop 7).take (Try.prog.cellsOf 23)) = some y5 := hf 5 _ rfl
    have g6 : DataW.trod enc Try.prog w 0 sp hd n 23 ((cs.drop 9).take (Try.prog.cellsOf 23)) = some y6 := hf 6 _ rfl
    have g7 : DataW.trod enc Try.prog w 0 sp hd n 9 ((cs.drop 11).take (Try.prog.cellsOf 9)) = some y7 := hf 7 _ rfl
    have g8 : DataW.trod enc Try.prog w 0 sp hd n 9 ((cs.drop 12).take (Try.prog.cellsOf 9)) = some y8 := hf 8 _ rfl
    clear hf
    have hb2 := part_le (d := y2.1) (l := [y0.1, y1.1, y2.1, y3.1, y4.1, y5.1, y6.1, y7.1, y8.1]) (by simp)
    have hb0 := part_le (d := y0.1) (l := [y0.1, y1.1, y2.1, y3.1, y4.1, y5.1, y6.1, y7.1, y8.1]) (by simp)
    have hb4 := part_le (d := y4.1) (l := [y0.1, y1.1, y2.1, y3.1, y4.1, y5.1, y6.1, y7.1, y8.1]) (by simp)
    have hb5 := part_le (d := y5.1) (l := [y0.1, y1.1, y2.1, y3.1, y4.1, y5.1, y6.1, y7.1, y8.1]) (by simp)
    have hb7 := part_le (d := y7.1) (l := [y0.1, y1.1, y2.1, y3.1, y4.1, y5.1, y6.1, y7.1, y8.1]) (by simp)
    have hb8 := part_le (d := y8.1) (l := [y0.1, y1.1, y2.1, y3.1, y4.1, y5.1, y6.1, y7.1, y8.1]) (by simp)
    have hb6 := part_le (d := y6.1) (l := [y0.1, y1.1, y2.1, y3.1, y4.1, y5.1, y6.1, y7.1, y8.1]) (by simp)
    have hbb : Rows.uptoBulkAll [y0.1, y1.1, y2.1, y3.1, y4.1, y5.1, y6.1, y7.1, y8.1] + 1 ≤ 1048576 := by rw [← bulk_agg]; exact hb
    obtain ⟨a0, e0, w0⟩ := opens_st H enc w sp hd n _ _ g0 (by omega)
    obtain ⟨a1, e1, _, w1⟩ := DataW.trod_int Try.underlying3 g1
    obtain ⟨a2, A2, c2, e2, d2, l2, r2⟩ := opens_ints H enc w sp hd n _ _ g2 (by omega)
    obtain ⟨a3, e3, _, w3⟩ := DataW.trod_int Try.underlying3 g3
    obtain ⟨a4, e4, w4⟩ := opens_st H enc w sp hd n _ _ g4 (by omega)
    obtain ⟨a5, e5, w5⟩ := opens_st H enc w sp hd n _ _ g5 (by omega)
    obtain ⟨a6, e6, w6⟩ := opens_st H enc w sp hd n _ _ g6 (by omega)
    obtain ⟨a7, e7, w7⟩ := opens_str H enc w sp hd n _ _ g7 (by omega)
    obtain ⟨a8, e8, w8⟩ := opens_str H enc w sp hd n _ _ g8 (by omega)
    rw [show Try.prog.cellsOf 55 = 13 by kernel_rfl] at hl
    rw [show Try.prog.cellsOf 23 = 2 by kernel_rfl] at e0 e4 e5 e6
    rw [show Try.prog.cellsOf 3 = 1 by kernel_rfl] at e1 e3
    rw [show Try.prog.cellsOf 44 = 1 by kernel_rfl] at e2
    rw [show Try.prog.cellsOf 9 = 1 by kernel_rfl] at e7 e8
    match cs, hl with
    | [c0, c1, c2', c3, c4, c5, c6, c7, c8, c9, c10, c11, c12], _ =>
      simp [stL] at e0 e1 e2 e3 e4 e5 e6 e7 e8
      obtain ⟨rfl, rfl⟩ := e0; obtain ⟨rfl, rfl⟩ := e4; obtain ⟨rfl, rfl⟩ := e5; obtain ⟨rfl, rfl⟩ := e6
      subst e1 e2 e3 e7 e8
      exact ⟨⟨a0, a1, a2, a3, a4, a5, a6, a7, a8⟩, A2, c2, rfl, ⟨A2, c2, rfl, d2, l2, r2⟩, ⟨w0, wf_in w1, wf_in w3, w4, w5, w6, w7, w8⟩⟩
theorem opens_chs : Opens 43 (tSl tCh) := opens_slice Try.underlying43 (by kernel_rfl) opens_ch
/-- .. of a value whose cells are one. -/
theorem one_cell {α : Type} {t : TypeId} {d : Ty α} (ho : Opens t d) {H : Type} {enc : TypeId × Value → H} {w : World} {sp : Nat → Bool} {hd : Bool} {v : Value} {y : DataW H} {p : List MemPlace} (h : DataW.Trod enc Try.prog w 0 sp hd t v y p) (hb : Rows.uptoBulk y ≤ 1048576) : ∃ a, d.rd w v.cells.toList a := by
  obtain ⟨fuel, hf⟩ := h
  exact ho H enc w sp hd fuel _ _ hf hb
set_option maxRecDepth 100000 in
theorem open_ask {H : Type} {enc : TypeId × Value → H} {w : World} {sp : Nat → Bool} {hd : Bool} {v : Value} {y : DataW H} {p : List MemPlace} (h : DataW.Trod enc Try.prog w 0 sp hd 62 v y p) : ∃ a b c d : Int, v.cells.toList = [.int .i64 a, .int .i64 b, .int .i64 c, .int .i64 d] ∧ InR a ∧ InR b := by
  obtain ⟨fuel, hf⟩ := h
  obtain ⟨xs, n, _, _, hl, hlen, hf⟩ := DataW.trod_struct Try.underlying62 hf
  match xs, hlen with
  | [y0, y1, y2], _ =>
    have g0 : DataW.trod enc Try.prog w 0 sp hd n 23 ((v.cells.toList.drop 0).take (Try.prog.cellsOf 23)) = some y0 := hf 0 _ rfl
    have g1 : DataW.trod enc Try.prog w 0 sp hd n 3 ((v.cells.toList.drop 2).take (Try.prog.cellsOf 3)) = some y1 := hf 1 _ rfl
    have g2 : DataW.trod enc Try.prog w 0 sp hd n 3 ((v.cells.toList.drop 3).take (Try.prog.cellsOf 3)) = some y2 := hf 2 _ rfl
    clear hf
    obtain ⟨_, _, m, _, hl0, h0, h1⟩ := trod_struct2 Try.underlying23 g0
    obtain ⟨a0, e0, _, w0⟩ := DataW.trod_int Try.underlying3 h0
    obtain ⟨a1, e1, _, w1⟩ := DataW.trod_int Try.underlying3 h1
    obtain ⟨a2, e2, _, w2⟩ := DataW.trod_int Try.underlying3 g1
    obtain ⟨a3, e3, _, w3⟩ := DataW.trod_int Try.underlying3 g2
    rw [show Try.prog.cellsOf 62 = 4 by kernel_rfl] at hl
    rw [show Try.prog.cellsOf 3 = 1 by kernel_rfl] at e0 e1 e2 e3
    rw [show Try.prog.cellsOf 23 = 2 by kernel_rfl] at e0 e1
    generalize v.cells.toList = cs at *
    match cs, hl with
    | [c0, c1, c2, c3], _ =>
      simp at e0 e1 e2 e3
      subst e0 e1 e2 e3
      exact ⟨a0, a1, a2, a3, rfl, wf_in w0, wf_in w1⟩
end Go.Proofs.Ytceeellnjckmiaa.opens

/- The row of OplogClosed. -/
namespace Go.Proofs.Ytceeellnjckmiaa.oplogClosed
open Go Go.Sl Go.ChangeShapes Go.WideShapes Go.ChangeAt Go.RowKit
open Go.ChangeMaps (open_string shut_string)
set_option maxRecDepth 100000
theorem own : ownKnob Try.prog.godebug = none := by kernel_rfl
theorem laidOut : laidOutB Try.prog = true := by kernel_rfl
theorem lifted (os : Os) (started : os.Started) (H : Type) (enc : TypeId × Value → H) (F : Stop.Interp) :
    ReturnsInHanded {} Try.checked os 6 .any ((Rows.OpenSpec.upto Rows.oplogClosedSpec).pre6 enc Try.prog Try.f6 Rows.oplogClosedUptoRow.domain false) (((Rows.OpenSpec.upto Rows.oplogClosedSpec).at F).post enc Try.prog Try.f6 false true false false) := by
  refine returnsInHanded_of_cond (C := Try.checked) (s := (Rows.OpenSpec.upto Rows.oplogClosedSpec)) (k := Rows.uptoSmall) rfl own started (by kernel_rfl) Try.func6
    (OpenSpec.witness (enc := enc) (C := Try.checked) (s := (Rows.OpenSpec.upto Rows.oplogClosedSpec)) (k := Rows.uptoSmall) rfl false ⟨#[], #[.int .i64 0, .slice none 0 0], []⟩ 8 (by kernel_rfl) (by kernel_rfl) (by kernel_rfl)
      (x := ([.lit (.int .i64 0), .nil], [], [])) (by kernel_rfl) rfl (by kernel_rfl)) ?_
  intro W base args ds gs before hval0 hW _ hk _
  have hval : ∀ (j : Nat) t v, Try.f6.params[j]? = some t → args[j]? = some v → Value.okWide Try.prog W .any base t v := hval0
  have hW' := hW
  obtain ⟨p, q, hA0, hV, rfl, hfz, hnd⟩ := hW
  have hA : DataW.TrodAll enc Try.prog W 0 (fun _ => true) true Try.f6.params.toList args.toList ds p := hA0
  rw [Try.params6] at hA hval
  obtain ⟨v0, vs0, d0, ds0, p0, q0, hargs, rfl, rfl, h0, r0⟩ := trodAll_cons hA
  obtain ⟨v1, vs1, d1, ds1, p1, q1, rfl, rfl, rfl, h1, r1⟩ := trodAll_cons r0
  obtain ⟨rfl, rfl, rfl⟩ := trodAll_nil r1
  obtain rfl : args = #[v0, v1] := by cases args; simp_all
  obtain ⟨rfl, rfl⟩ := trodVars_none hV
  have hb : Rows.uptoBulkAll [d0, d1] ≤ 1048576 := of_decide_eq_true hk
  have lt0 : ∀ x ∈ p0, x.block < W.heap.size := by obtain ⟨m, hm⟩ := h0; exact DataW.trod_lt m _ _ _ hm
  have hb0 := opens.part_le (d := d0) (l := [d0, d1]) (by simp)
  obtain ⟨x0, hx0⟩ := opens.one_cell opens.opens_int h0 (Nat.le_trans hb0 hb)
  obtain ⟨n0, rfl⟩ := okWide_int Try.underlying3 (hval 0 3 v0 rfl rfl)
  obtain ⟨hx0a, hx0b⟩ := hx0
  simp [Value.cells] at hx0a
  subst hx0a
  have lt1 : ∀ x ∈ p1, x.block < W.heap.size := by obtain ⟨m, hm⟩ := h1; exact DataW.trod_lt m _ _ _ hm
  have hb1 := opens.part_le (d := d1) (l := [d0, d1]) (by simp)
  obtain ⟨x1, hx1⟩ := opens.one_cell opens.opens_chs h1 (Nat.le_trans hb1 hb)
  obtain ⟨a1, len1, cap1, rfl⟩ := okWide_slice Try.underlying43 (hval 1 43 v1 rfl rfl)
  have hy1 : (tSl tCh).rd W [.slice a1 len1 cap1] x1 := by simpa [Value.cells] using hx1
  clear hA0 hval0
  refine (OplogClosed_calls W n0 _ x1 hy1 hx0b).mono fun e W' ⟨he, hk⟩ => ?_
  subst he
  have bel := hk.below
  exact ⟨_, rfl, _, _, _, [], _, [], hW', trodAll_mk1 (shut_bool Try.underlying4 _), (trodAll_cons_mk (Below.trod laidOut (by kernel_rfl) (of_decide_eq_true (by kernel_rfl)) h0 bel lt0) (trodAll_cons_mk (Below.trod laidOut (by kernel_rfl) (of_decide_eq_true (by kernel_rfl)) h1 bel lt1) trodAll_mk0)), rfl, bel.frame _, fun h => by cases h⟩
theorem over : Rows.oplogClosedUptoRow.holds Try.pinned (Rows.OpenSpec.upto Rows.oplogClosedSpec) :=
  OpenClaim.holds_of_cond 6 Try.f6 rfl rfl rfl rfl rfl rfl rfl ⟨rfl, rfl, rfl, rfl, rfl⟩ rfl rfl rfl rfl rfl (by kernel_rfl) Try.func6 (by kernel_rfl)
    (of_decide_eq_true (by kernel_rfl)) (by unfold Func.isWrapper; first | (rw [if_pos (by decide +kernel)]; kernel_rfl) | (rw [if_neg (by decide +kernel)]; exact ⟨rfl, rfl⟩))
    (fun os started H enc _ F => lifted os started H enc F)
end Go.Proofs.Ytceeellnjckmiaa.oplogClosed
namespace Go.Proofs.Ytceeellnjckmiaa
theorem oplogClosed_holds : Rows.OplogClosedUptoSaid := oplogClosed.over
end Go.Proofs.Ytceeellnjckmiaa

