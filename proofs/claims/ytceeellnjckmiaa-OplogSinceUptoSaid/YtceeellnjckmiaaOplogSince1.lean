/- The texts Lc, Sl28, WSince, merged. Proved: what their theorems say, with no condition but those written. -/
import Derived.Test.YtceeellnjckmiaaRows
import Derived.JoinedCond
import Derived.Deep.Slices
import Derived.WalkKit
import Derived.ProofKit
import Derived.OpenShut
import Derived.ShutString
import Derived.ChangeOld
import Derived.Below
import Derived.Carry
import Derived.Test.YtceeellnjckmiaaBase7
/- Printed by a program of mine (gen.py). -/
set_option linter.unusedVariables false
set_option linter.unusedSimpArgs false
set_option maxRecDepth 100000
namespace Go.Proofs.Ytceeellnjckmiaa
open Go Go.Sl
theorem OplogSince_calls (w : World) (v_l : Value) (l : List Change) (h_l : (tSl tCh).rd w [v_l] l) (v_known : Value) (known : List Int) (h_known : (tSl tI).rd w [v_known] known) (most : Int) (hmr : InR most) :
    Calls Try.prog 7 #[v_l, v_known, .int .i64 most] w fun e w' => e = .returned (.bool true) ∧ Kp no w w' := by
  have hS0 := St.start w
  have hF_l := RdF.of_rd h_l
  obtain ⟨A_l, cap_l, rfl, hc_l, hm_l⟩ := hF_l.slice
  have hF_known := RdF.of_rd h_known
  obtain ⟨A_known, cap_known, rfl, hc_known, hm_known⟩ := hF_known.slice
  refine fn_calls' 53 (args := [_, _, _]) Try.func7 rfl rfl rfl ?_
  refine C_seq ?_
  refine C_region ?_
  refine J_q 6 rfl rfl rfl rfl (Q_assign rfl rfl) ?_
  refine J_nil (K_seq ?_)
  refine C_seq ?_
  refine C_region ?_
  refine J_q 16 rfl rfl rfl rfl (Q_move rfl rfl) ?_
  refine J_call 17 rfl rfl rfl rfl (T_call rfl rfl rfl Try.call23) (Lfilled_calls _ 50 _ l (hS0.rd 0 rfl hF_l) (by omega)) ?_
  rintro _ w1 ⟨gL1, FL1, vF1, rfl, hk1, hFL1, hLL1, GF1, hGF1, hdF1, hrF1⟩
  have hS1 := hS0.new2 (e1 := logE FL1 gL1 50 (addAll 50 l)) (e2 := fz w1 GF1) hk1 1 2 hLL1 (fun _ _ => rfl) hFL1 hGF1 hdF1
  obtain ⟨AF1, cF1, rfl, hcF1, hmF1⟩ := hrF1.slice
  have hlf1 := LogAt.f hLL1
  refine ⟨_, rfl, ?_⟩
  refine J_q 15 rfl rfl rfl rfl (Q_move rfl rfl) ?_
  refine J_q 18 rfl rfl rfl rfl (Q_extract rfl rfl rfl) ?_
  refine J_q 19 rfl rfl rfl rfl (Q_extract rfl rfl rfl) ?_
  refine J_do 8 rfl rfl rfl rfl (D_alloc 3 hS1 rfl Try.zeroValue47 (fun g2 w2 hS2 => ?_))
  refine J_q 7 rfl rfl rfl rfl (Q_assign rfl rfl) ?_
  refine J_do0 rfl rfl rfl rfl (D_store' (k := 3) hS2 rfl rfl rfl rfl Try.sizeOf47 rfl rfl rfl (fun w3 hS3 => ?_))
  refine J_nil (K_seq ?_)
  refine C_seq ?_
  refine C_region ?_
  refine J_q 21 rfl rfl rfl rfl (Q_move rfl rfl) ?_
  refine J_q 22 rfl rfl rfl rfl (Q_move rfl rfl) ?_
  refine J_q 23 rfl rfl rfl rfl (Q_move rfl rfl) ?_
  obtain ⟨pL4, hLR4⟩ := LogAt.logR (hS3.get (k := 1) rfl)
  refine J_call 24 rfl rfl rfl rfl (T_call rfl rfl rfl Try.call42) (LSince_calls _ _ _ _ _ (hLR4.mono (hS3.fpLt (k := 1) rfl)) _ known (hS3.rd 0 rfl hF_known) most (by first | assumption | omega)) ?_
  rintro _ w5 ⟨vv5_0, rfl, hk5, hr5_0⟩
  have hS5 := hS3.call hk5 5
  obtain ⟨A5_0, cap5_0, rfl, hc5_0, hm5_0⟩ := hr5_0.slice
  refine ⟨_, rfl, ?_⟩
  refine J_q 20 rfl rfl rfl rfl (Q_move rfl rfl) ?_
  refine J_q 25 rfl rfl rfl rfl (Q_extract rfl rfl rfl) ?_
  refine J_q 26 rfl rfl rfl rfl (Q_extract rfl rfl rfl) ?_
  refine J_q 27 rfl rfl rfl rfl (Q_extract rfl rfl rfl) ?_
  refine J_q 9 rfl rfl rfl rfl (Q_assign rfl rfl) ?_
  refine J_q 10 rfl rfl rfl rfl (Q_assign rfl rfl) ?_
  refine J_q 11 rfl rfl rfl rfl (Q_assign rfl rfl) ?_
  refine J_nil (K_seq ?_)
  refine C_seq ?_
  refine C_region ?_
  refine J_q 29 rfl rfl rfl rfl (Q_fa0 rfl rfl fo47_1) ?_
  refine J_q 30 rfl rfl rfl rfl (Q_ldB1 (k := 3) hS5 rfl rfl rfl Try.isAgg43 rfl) ?_
  refine J_q 31 rfl rfl rfl rfl (Q_move rfl rfl) ?_
  refine J_q 32 rfl rfl rfl rfl (Q_move rfl rfl) ?_
  refine J_call 33 rfl rfl rfl rfl (T_call rfl rfl rfl Try.call43) (RSince_calls _ GF1 (hS5.fpLt (k := 2) rfl) _ (addAll 50 l) (hS5.rdF 2 rfl hrF1) _ known (hS5.rd 0 rfl hF_known) most) ?_
  rintro _ w6 ⟨vv6_0, rfl, hk6, hr6_0⟩
  have hS6 := hS5.join hk6 2 rfl
  obtain ⟨A6_0, cap6_0, rfl, hc6_0, hm6_0⟩ := hr6_0.slice
  refine ⟨_, rfl, ?_⟩
  refine J_q 28 rfl rfl rfl rfl (Q_move rfl rfl) ?_
  refine J_q 34 rfl rfl rfl rfl (Q_extract rfl rfl rfl) ?_
  refine J_q 35 rfl rfl rfl rfl (Q_extract rfl rfl rfl) ?_
  refine J_q 36 rfl rfl rfl rfl (Q_extract rfl rfl rfl) ?_
  refine J_q 12 rfl rfl rfl rfl (Q_assign rfl rfl) ?_
  refine J_q 13 rfl rfl rfl rfl (Q_assign rfl rfl) ?_
  refine J_q 14 rfl rfl rfl rfl (Q_assign rfl rfl) ?_
  refine J_nil (K_seq ?_)
  refine C_seq ?_
  refine C_region ?_
  refine J_q 37 rfl rfl rfl rfl (Q_move rfl rfl) ?_
  refine J_q 38 rfl rfl rfl rfl (Q_move rfl rfl) ?_
  refine J_call 39 rfl rfl rfl rfl (T_call rfl rfl rfl Try.call44) (SameAll_calls _ _ (sinceL (addAll 50 l) known most) (hS6.rd 5 rfl hr5_0) _ (sinceL (addAll 50 l) known most) (hS6.rd 2 rfl hr6_0)) ?_
  rintro _ w7 ⟨rfl, hk7⟩
  have hS7 := hS6.kp0 hk7
  refine ⟨_, rfl, ?_⟩
  refine J_q 40 rfl rfl rfl rfl (Q_move rfl rfl) ?_
  refine J_setT 40 rfl rfl ?_
  refine J_q 41 rfl rfl rfl rfl (Q_move rfl rfl) ?_
  refine J_q 42 rfl rfl rfl rfl (Q_move rfl rfl) ?_
  refine J_q 43 rfl rfl rfl rfl (Q_toB (c' := true) (Q_eqlB' Try.underlying4 rfl rfl rfl) (by simp)) ?_
  refine J_q 44 rfl rfl rfl rfl (Q_pickT rfl rfl rfl) ?_
  refine J_q 45 rfl rfl rfl rfl (Q_move rfl rfl) ?_
  refine J_q 46 rfl rfl rfl rfl (Q_move rfl rfl) ?_
  refine J_q 47 rfl rfl rfl rfl (Q_move rfl rfl) ?_
  refine J_q 48 rfl rfl rfl rfl (Q_toB (c' := true) (Q_eql rfl rfl rfl) (by simp)) ?_
  refine J_q 49 rfl rfl rfl rfl (Q_pickT rfl rfl rfl) ?_
  refine J_q 50 rfl rfl rfl rfl (Q_move rfl rfl) ?_
  refine J_call 51 rfl rfl rfl rfl (T_call rfl rfl rfl Try.call30) (awake_calls _) ?_
  rintro _ w8 ⟨rfl, hk8⟩
  have hS8 := hS7.kp0 hk8
  refine ⟨_, rfl, ?_⟩
  refine J_q 52 rfl rfl rfl rfl (Q_pickT rfl rfl rfl) ?_
  refine J_q 6 rfl rfl rfl rfl (Q_assign rfl rfl) ?_
  refine J_nil (K_seq ?_)
  refine C_ret (body_ret (res1 rfl rfl) ?_)
  exact ⟨rfl, hS8.kept (k := 0) rfl⟩
end Go.Proofs.Ytceeellnjckmiaa

/- What comes in, opened: from the reading of an argument to what its cells read as. -/
namespace Go.Proofs.Ytceeellnjckmiaa.opens
open Go Go.Sl Go.ChangeShapes Go.WideShapes Go.RowKit

theorem one_le {H : Type} (d : DataW H) : 1 ≤ Rows.uptoBulk d := by
  cases d with
  | lit l => cases l <;> simp [Rows.uptoBulk]
  | _ => simp [Rows.uptoBulk]
theorem part_le {H : Type} {d : DataW H} {l : List (DataW H)} (h : d ∈ l) : Rows.uptoBulk d ≤ Rows.uptoBulkAll l := by
  induction l with
  | nil => cases h
  | cons x r ih =>
    simp only [Rows.uptoBulkAll]
    cases List.mem_cons.1 h with
    | inl e => subst e; omega
    | inr e => have := ih e; omega
theorem length_le {H : Type} (l : List (DataW H)) : l.length ≤ Rows.uptoBulkAll l := by
  induction l with
  | nil => simp [Rows.uptoBulkAll]
  | cons x r ih => have := one_le x; simp only [Rows.uptoBulkAll, List.length_cons]; omega
theorem bulk_slice {H : Type} (a b : List (DataW H)) : Rows.uptoBulk (DataW.slice a b) = Rows.uptoBulkAll a + Rows.uptoBulkAll b + 1 := by simp [Rows.uptoBulk]
theorem bulk_agg {H : Type} (a : List (DataW H)) : Rows.uptoBulk (DataW.agg a) = Rows.uptoBulkAll a + 1 := by simp [Rows.uptoBulk]

/-- What reads at this type (and is small) reads as d says. -/
def Opens {α : Type} (t : TypeId) (d : Ty α) : Prop := ∀ (H : Type) (enc : TypeId × Value → H) (w : World) (sp : Nat → Bool) (hd : Bool) (fuel : Nat) (cs : List Value) (x : DataW H × List MemPlace),
  DataW.trod enc Try.prog w 0 sp hd fuel t cs = some x → Rows.uptoBulk x.1 ≤ 1048576 → ∃ a, d.rd w cs a

theorem cells_at {w : World} {ad : Addr} {n : Nat} {cs : List Value} (h : w.cells? 0 ad n = some cs) : CellsAt w ad cs := by
  intro j v hv
  unfold World.cells? at h
  rw [if_pos (Nat.zero_le _)] at h
  have hl := mapM_some_length h
  have hj : j < n := by have := (List.getElem?_eq_some_iff.1 hv).1; simp at hl; omega
  rw [mapM_some_get h j j (by simp [hj]), hv]

theorem wf_in {a : Int} (h : (Lit.int .i64 a).wf = true) : InR a := by
  simp [Lit.wf, IntKind.min, IntKind.max, IntKind.signed, IntKind.bits] at h
  constructor <;> omega

theorem opens_int : Opens 3 tI := by
  intro H enc w sp hd fuel cs x h _
  obtain ⟨n, rfl, _, hw⟩ := DataW.trod_int Try.underlying3 h
  exact ⟨n, rfl, wf_in hw⟩
theorem str_le {H : Type} {s : ByteArray} (h : Rows.uptoBulk (DataW.lit (H := H) (.string s.data.toList)) ≤ 1048576) : s.size ≤ 140737488355328 := by
  simp only [Rows.uptoBulk, Array.length_toList] at h
  show s.data.size ≤ _
  omega
theorem opens_str : Opens 9 tS := by
  intro H enc w sp hd fuel cs x h hb
  obtain ⟨n, rfl, rfl, hw⟩ := DataW.trod_string Try.underlying9 h
  exact ⟨n, rfl, str_le hb⟩
set_option maxRecDepth 100000 in
theorem opens_st : Opens 23 tSt := by
  intro H enc w sp hd fuel cs x h _
  obtain ⟨y0, y1, n, rfl, hl, h0, h1⟩ := trod_struct2 Try.underlying23 h
  obtain ⟨a0, e0, _, w0⟩ := DataW.trod_int Try.underlying3 h0
  obtain ⟨a1, e1, _, w1⟩ := DataW.trod_int Try.underlying3 h1
  rw [show Try.prog.cellsOf 23 = 2 by kernel_rfl] at hl
  rw [show Try.prog.cellsOf 3 = 1 by kernel_rfl] at e0 e1
  match cs, hl with
  | [c0, c1], _ => simp at e0 e1; subst e0 e1; exact ⟨⟨a0, a1⟩, rfl, wf_in w0, wf_in w1⟩
set_option maxRecDepth 100000 in
theorem opens_slice {α : Type} {t e : TypeId} {d : Ty α} (ht : Try.prog.underlying t = some (.slice e)) (hc : Try.prog.cellsOf e = d.sz) (ho : Opens e d) : Opens t (tSl d) := by
  intro H enc w sp hd fuel cs x h hb
  rcases Go.Deep.open_slice ht h with ⟨rfl, rfl⟩ | ⟨a, len, cap, m, n, D, Pl, hcs, h8, hlc, h9, hm, hx, hel⟩
  rotate_left
  subst hcs hx
  rotate_right
  · exact ⟨[], none, 0, rfl, Nat.le_refl _, Nat.zero_le _, fun i x hx => by simp at hx⟩
  · have hlm : len ≤ m := by rw [hm]; split <;> omega
    have hb1 := hb
    simp only [bulk_slice] at hb1
    have hll := length_le ((List.range len).map D)
    simp at hll
    have hE : ∀ i, i < len → ∃ y, ∃ cs', CellsAt w (a.add (i * d.sz)) cs' ∧ d.rd w cs' y := by
      intro i hi
      obtain ⟨cs', h1, h2⟩ := hel i (by omega)
      have hp := part_le (d := D i) (l := (List.range len).map D) (List.mem_map.2 ⟨i, by simpa using hi, rfl⟩)
      obtain ⟨y, hy⟩ := ho H enc w sp hd n cs' _ h2 (by show Rows.uptoBulk (D i) ≤ _; omega)
      exact ⟨y, cs', cells_at (by rw [← hc]; exact h1), hy⟩
    have hX : ∃ xs : List α, xs.length = len ∧ ∀ i x, xs[i]? = some x → ∃ cs', CellsAt w (a.add (i * d.sz)) cs' ∧ d.rd w cs' x := by
      clear hel hb hb1 hll hlm hm hlc h
      induction len with
      | zero => exact ⟨[], rfl, fun i x hx => by simp at hx⟩
      | succ k ih =>
        obtain ⟨xs, hl, hx⟩ := ih (fun i hi => hE i (by omega))
        obtain ⟨y, hy⟩ := hE k (by omega)
        refine ⟨xs ++ [y], by simp [hl], fun i x hi => ?_⟩
        by_cases hik : i < xs.length
        · rw [List.getElem?_append_left hik] at hi; exact hx i x hi
        · have h2 := (List.getElem?_eq_some_iff.1 hi).1
          simp at h2
          obtain rfl : i = k := by omega
          rw [List.getElem?_append_right (by omega), hl] at hi
          simp at hi; subst hi; exact hy
    obtain ⟨xs, rfl, hx⟩ := hX
    refine ⟨xs, some a, cap, rfl, hlc, by unfold maxL; omega, fun i x hi => ?_⟩
    obtain ⟨cs', h1, h2⟩ := hx i x hi
    exact ⟨a, cs', rfl, h1, h2⟩
theorem opens_ints : Opens 44 (tSl tI) := opens_slice Try.underlying44 (by kernel_rfl) opens_int
set_option maxRecDepth 100000 in
theorem opens_ch : Opens 55 tCh := by
  intro H enc w sp hd fuel cs x h hb
  obtain ⟨xs, n, _, rfl, hl, hlen, hf⟩ := DataW.trod_struct Try.underlying55 h
  match xs, hlen with
  | [y0, y1, y2, y3, y4, y5, y6, y7, y8], _ =>
    have g0 : DataW.trod enc Try.prog w 0 sp hd n 23 ((cs.drop 0).take (Try.prog.cellsOf 23)) = some y0 := hf 0 _ rfl
    have g1 : DataW.trod enc Try.prog w 0 sp hd n 3 ((cs.drop 2).take (Try.prog.cellsOf 3)) = some y1 := hf 1 _ rfl
    have g2 : DataW.trod enc Try.prog w 0 sp hd n 44 ((cs.drop 3).take (Try.prog.cellsOf 44)) = some y2 := hf 2 _ rfl
    have g3 : DataW.trod enc Try.prog w 0 sp hd n 3 ((cs.drop 4).take (Try.prog.cellsOf 3)) = some y3 := hf 3 _ rfl
    have g4 : DataW.trod enc Try.prog w 0 sp hd n 23 ((cs.drop 5).take (Try.prog.cellsOf 23)) = some y4 := hf 4 _ rfl
    have g5 : DataW.trod enc Try.prog w 0 sp hd n 23 ((cs.drop 7).take (Try.prog.cellsOf 23)) = some y5 := hf 5 _ rfl
    have g6 : DataW.trod enc Try.prog w 0 sp hd n 23 ((cs.drop 9).take (Try.prog.cellsOf 23)) = some y6 := hf 6 _ rfl
    have g7 : DataW.trod enc Try.prog w 0 sp hd n 9 ((cs.drop 11).take (Try.prog.cellsOf 9)) = some y7 := hf 7 _ rfl
    have g8 : DataW.trod enc Try.prog w 0 sp hd n 9 ((cs.drop 12).take (Try.prog.cellsOf 9)) = some y8 := hf 8 _ rfl
    clear hf
    have hb2 := part_le (d := y2.1) (l := [y0.1, y1.1, y2.1, y3.1, y4.1, y5.1, y6.1, y7.1, y8.1]) (by simp)
    have hb0 := part_le (d := y0.1) (l := [y0.1, y1.1, y2.1, y3.1, y4.1, y5.1, y6.1, y7.1, y8.1]) (by simp)
    have hb4 := part_le (d := y4.1) (l := [y0.1, y1.1, y2.1, y3.1, y4.1, y5.1, y6.1, y7.1, y8.1]) (by simp)
    have hb5 := part_le (d := y5.1) (l := [y0.1, y1.1, y2.1, y3.1, y4.1, y5.1, y6.1, y7.1, y8.1]) (by simp)
    have hb7 := part_le (d := y7.1) (l := [y0.1, y1.1, y2.1, y3.1, y4.1, y5.1, y6.1, y7.1, y8.1]) (by simp)
    have hb8 := part_le (d := y8.1) (l := [y0.1, y1.1, y2.1, y3.1, y4.1, y5.1, y6.1, y7.1, y8.1]) (by simp)
    have hb6 := part_le (d := y6.1) (l := [y0.1, y1.1, y2.1, y3.1, y4.1, y5.1, y6.1, y7.1, y8.1]) (by simp)
    have hbb : Rows.uptoBulkAll [y0.1, y1.1, y2.1, y3.1, y4.1, y5.1, y6.1, y7.1, y8.1] + 1 ≤ 1048576 := by rw [← bulk_agg]; exact hb
    obtain ⟨a0, e0, w0⟩ := opens_st H enc w sp hd n _ _ g0 (by omega)
    obtain ⟨a1, e1, _, w1⟩ := DataW.trod_int Try.underlying3 g1
    obtain ⟨a2, A2, c2, e2, d2, l2, r2⟩ := opens_ints H enc w sp hd n _ _ g2 (by omega)
    obtain ⟨a3, e3, _, w3⟩ := DataW.trod_int Try.underlying3 g3
    obtain ⟨a4, e4, w4⟩ := opens_st H enc w sp hd n _ _ g4 (by omega)
    obtain ⟨a5, e5, w5⟩ := opens_st H enc w sp hd n _ _ g5 (by omega)
    obtain ⟨a6, e6, w6⟩ := opens_st H enc w sp hd n _ _ g6 (by omega)
    obtain ⟨a7, e7, w7⟩ := opens_str H enc w sp hd n _ _ g7 (by omega)
    obtain ⟨a8, e8, w8⟩ := opens_str H enc w sp hd n _ _ g8 (by omega)
    rw [show Try.prog.cellsOf 55 = 13 by kernel_rfl] at hl
    rw [show Try.prog.cellsOf 23 = 2 by kernel_rfl] at e0 e4 e5 e6
    rw [show Try.prog.cellsOf 3 = 1 by kernel_rfl] at e1 e3
    rw [show Try.prog.cellsOf 44 = 1 by kernel_rfl] at e2
    rw [show Try.prog.cellsOf 9 = 1 by kernel_rfl] at e7 e8
    match cs, hl with
    | [c0, c1, c2', c3, c4, c5, c6, c7, c8, c9, c10, c11, c12], _ =>
      simp [stL] at e0 e1 e2 e3 e4 e5 e6 e7 e8
      obtain ⟨rfl, rfl⟩ := e0; obtain ⟨rfl, rfl⟩ := e4; obtain ⟨rfl, rfl⟩ := e5; obtain ⟨rfl, rfl⟩ := e6
      subst e1 e2 e3 e7 e8
      exact ⟨⟨a0, a1, a2, a3, a4, a5, a6, a7, a8⟩, A2, c2, rfl, ⟨A2, c2, rfl, d2, l2, r2⟩, ⟨w0, wf_in w1, wf_in w3, w4, w5, w6, w7, w8⟩⟩
theorem opens_chs : Opens 43 (tSl tCh) := opens_slice Try.underlying43 (by kernel_rfl) opens_ch
/-- .. of a value whose cells are one. -/
theorem one_cell {α : Type} {t : TypeId} {d : Ty α} (ho : Opens t d) {H : Type} {enc : TypeId × Value → H} {w : World} {sp : Nat → Bool} {hd : Bool} {v : Value} {y : DataW H} {p : List MemPlace} (h : DataW.Trod enc Try.prog w 0 sp hd t v y p) (hb : Rows.uptoBulk y ≤ 1048576) : ∃ a, d.rd w v.cells.toList a := by
  obtain ⟨fuel, hf⟩ := h
  exact ho H enc w sp hd fuel _ _ hf hb
end Go.Proofs.Ytceeellnjckmiaa.opens

/- The row of OplogSince. -/
namespace Go.Proofs.Ytceeellnjckmiaa.oplogSince
open Go Go.Sl Go.ChangeShapes Go.WideShapes Go.ChangeAt Go.RowKit
open Go.ChangeMaps (open_string shut_string)
set_option maxRecDepth 100000
theorem own : ownKnob Try.prog.godebug = none := by kernel_rfl
theorem laidOut : laidOutB Try.prog = true := by kernel_rfl
theorem lifted (os : Os) (started : os.Started) (H : Type) (enc : TypeId × Value → H) (F : Stop.Interp) :
    ReturnsInHanded {} Try.checked os 7 .any ((Rows.OpenSpec.upto Rows.oplogSinceSpec).pre6 enc Try.prog Try.f7 Rows.oplogSinceUptoRow.domain false) (((Rows.OpenSpec.upto Rows.oplogSinceSpec).at F).post enc Try.prog Try.f7 false true false false) := by
  refine returnsInHanded_of_cond (C := Try.checked) (s := (Rows.OpenSpec.upto Rows.oplogSinceSpec)) (k := Rows.uptoSmall) rfl own started (by kernel_rfl) Try.func7
    (OpenSpec.witness (enc := enc) (C := Try.checked) (s := (Rows.OpenSpec.upto Rows.oplogSinceSpec)) (k := Rows.uptoSmall) rfl false ⟨#[], #[.slice none 0 0, .slice none 0 0, .int .i64 0], []⟩ 8 (by kernel_rfl) (by kernel_rfl) (by kernel_rfl)
      (x := ([.nil, .nil, .lit (.int .i64 0)], [], [])) (by kernel_rfl) rfl (by kernel_rfl)) ?_
  intro W base args ds gs before hval0 hW _ hk _
  have hval : ∀ (j : Nat) t v, Try.f7.params[j]? = some t → args[j]? = some v → Value.okWide Try.prog W .any base t v := hval0
  have hW' := hW
  obtain ⟨p, q, hA0, hV, rfl, hfz, hnd⟩ := hW
  have hA : DataW.TrodAll enc Try.prog W 0 (fun _ => true) true Try.f7.params.toList args.toList ds p := hA0
  rw [Try.params7] at hA hval
  obtain ⟨v0, vs0, d0, ds0, p0, q0, hargs, rfl, rfl, h0, r0⟩ := trodAll_cons hA
  obtain ⟨v1, vs1, d1, ds1, p1, q1, rfl, rfl, rfl, h1, r1⟩ := trodAll_cons r0
  obtain ⟨v2, vs2, d2, ds2, p2, q2, rfl, rfl, rfl, h2, r2⟩ := trodAll_cons r1
  obtain ⟨rfl, rfl, rfl⟩ := trodAll_nil r2
  obtain rfl : args = #[v0, v1, v2] := by cases args; simp_all
  obtain ⟨rfl, rfl⟩ := trodVars_none hV
  have hb : Rows.uptoBulkAll [d0, d1, d2] ≤ 1048576 := of_decide_eq_true hk
  have lt0 : ∀ x ∈ p0, x.block < W.heap.size := by obtain ⟨m, hm⟩ := h0; exact DataW.trod_lt m _ _ _ hm
  have hb0 := opens.part_le (d := d0) (l := [d0, d1, d2]) (by simp)
  obtain ⟨x0, hx0⟩ := opens.one_cell opens.opens_chs h0 (Nat.le_trans hb0 hb)
  obtain ⟨a0, len0, cap0, rfl⟩ := okWide_slice Try.underlying43 (hval 0 43 v0 rfl rfl)
  have hy0 : (tSl tCh).rd W [.slice a0 len0 cap0] x0 := by simpa [Value.cells] using hx0
  have lt1 : ∀ x ∈ p1, x.block < W.heap.size := by obtain ⟨m, hm⟩ := h1; exact DataW.trod_lt m _ _ _ hm
  have hb1 := opens.part_le (d := d1) (l := [d0, d1, d2]) (by simp)
  obtain ⟨x1, hx1⟩ := opens.one_cell opens.opens_ints h1 (Nat.le_trans hb1 hb)
  obtain ⟨a1, len1, cap1, rfl⟩ := okWide_slice Try.underlying44 (hval 1 44 v1 rfl rfl)
  have hy1 : (tSl tI).rd W [.slice a1 len1 cap1] x1 := by simpa [Value.cells] using hx1
  have lt2 : ∀ x ∈ p2, x.block < W.heap.size := by obtain ⟨m, hm⟩ := h2; exact DataW.trod_lt m _ _ _ hm
  have hb2 := opens.part_le (d := d2) (l := [d0, d1, d2]) (by simp)
  obtain ⟨x2, hx2⟩ := opens.one_cell opens.opens_int h2 (Nat.le_trans hb2 hb)
  obtain ⟨n2, rfl⟩ := okWide_int Try.underlying3 (hval 2 3 v2 rfl rfl)
  obtain ⟨hx2a, hx2b⟩ := hx2
  simp [Value.cells] at hx2a
  subst hx2a
  clear hA0 hval0
  refine (OplogSince_calls W _ x0 hy0 _ x1 hy1 n2 hx2b).mono fun e W' ⟨he, hk⟩ => ?_
  subst he
  have bel := hk.below
  exact ⟨_, rfl, _, _, _, [], _, [], hW', trodAll_mk1 (shut_bool Try.underlying4 _), (trodAll_cons_mk (Below.trod laidOut (by kernel_rfl) (of_decide_eq_true (by kernel_rfl)) h0 bel lt0) (trodAll_cons_mk (Below.trod laidOut (by kernel_rfl) (of_decide_eq_true (by kernel_rfl)) h1 bel lt1) (trodAll_cons_mk (Below.trod laidOut (by kernel_rfl) (of_decide_eq_true (by kernel_rfl)) h2 bel lt2) trodAll_mk0))), rfl, bel.frame _, fun h => by cases h⟩
theorem over : Rows.oplogSinceUptoRow.holds Try.pinned (Rows.OpenSpec.upto Rows.oplogSinceSpec) :=
  OpenClaim.holds_of_cond 7 Try.f7 rfl rfl rfl rfl rfl rfl rfl ⟨rfl, rfl, rfl, rfl, rfl⟩ rfl rfl rfl rfl rfl (by kernel_rfl) Try.func7 (by kernel_rfl)
    (of_decide_eq_true (by kernel_rfl)) (by unfold Func.isWrapper; first | (rw [if_pos (by decide +kernel)]; kernel_rfl) | (rw [if_neg (by decide +kernel)]; exact ⟨rfl, rfl⟩))
    (fun os started H enc _ F => lifted os started H enc F)
end Go.Proofs.Ytceeellnjckmiaa.oplogSince
namespace Go.Proofs.Ytceeellnjckmiaa
theorem oplogSince_holds : Rows.OplogSinceUptoSaid := oplogSince.over
end Go.Proofs.Ytceeellnjckmiaa

