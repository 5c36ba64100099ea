/- The texts Sl20, Sl21, Sl22, Pl1, Pl2, Pl3, Pl4, Pl5, Pl6, Sl23, Pl7, Pl8, Sl24, Sl25, Sl26, Sl27, Pl9, So1, merged. Proved: what their theorems say, with no condition but those written. -/
import Derived.Lib.AppendZeros
import Derived.Lib.Overlaps
import Derived.Shelf.SlSortCmp.WholeK
import Derived.Ground.SlsfProg
import Derived.Test.YtceeellnjckmiaaProg
import Derived.Test.YtceeellnjckmiaaBase1
/- A small logic over the fenced walk: rows of one's own whose cells are moved, set, taken by place; entries parted and joined. -/
set_option linter.unusedVariables false
set_option linter.unusedSimpArgs false
namespace Go.Sl
open Go Go.RowKit
section
variable {P : Program} {o : Oper} {E : Env} {w w0 : World} {v : Value} {x y : Operand} {t t' e e' : TypeId} {L : Hp} {K : Value → World → Prop} {k j g n m cap sz : Nat} {fl cs es : List Value}
/-! ### A row of one's own is a block, and a block is one -/
theorem St.openOwn (hS : St w0 w L) (k : Nat) (hl : look L k = some (own e sz (.slice (some ⟨g, 0, .none⟩) n cap) n fl)) : ∃ rest, St w0 w (Sl.upd L k (blkL g (fl ++ rest) e)) ∧ fl.length = n * sz ∧ n ≤ cap ∧ cap ≤ maxLen ∧ fl.length + rest.length = cap * sz := by
  obtain ⟨h1, h2⟩ := hS.get hl
  rcases h2 with ⟨h2, _⟩ | ⟨g', cap', cur, h2, _, hh, hc, hm, hs, ht⟩
  · cases h2
  · cases h2
    have hle : n * sz ≤ cap * sz := Nat.mul_le_mul_right _ hc
    have e1 : cur.toList = fl ++ cur.toList.drop (n * sz) := by
      conv => lhs; rw [← List.take_append_drop (n * sz) cur.toList, ht]
    refine ⟨cur.toList.drop (n * sz), hS.upd hl (Kp.refl _ _) ?_ fun b hb => .inl (by have : b = g := hb; subst this; rfl), h1, hc, hm, ?_⟩
    · show w.heap[g]? = some (.cells (fl ++ cur.toList.drop (n * sz)).toArray e (0, 0))
      rw [← e1]
      exact hh
    · have := congrArg List.length e1
      rw [List.length_append] at this
      rw [← this]
      simpa using hs
theorem St.closeOwn (hS : St w0 w L) (k : Nat) {rest : List Value} (hl : look L k = some (blkL g (fl ++ rest) e)) (h1 : fl.length = n * sz) (hc : n ≤ cap) (hm : cap ≤ maxLen) (hr : fl.length + rest.length = cap * sz) : St w0 w (Sl.upd L k (own e sz (.slice (some ⟨g, 0, .none⟩) n cap) n fl)) := by
  refine hS.upd hl (Kp.refl _ _) ⟨h1, .inr ⟨g, cap, (fl ++ rest).toArray, rfl, Nat.zero_le _, hS.get hl, hc, hm, by simpa using hr, ?_⟩⟩ fun b hb => .inl (by have h : some g = some b := hb; cases h; exact rfl)
  rw [← h1]; simp
theorem putL_eq : ∀ (l : List Value) (j : Nat) (us : List Value), j + us.length ≤ l.length → putL l j us = l.take j ++ us ++ l.drop (j + us.length)
  | l, j, [], _ => by rw [putL_nil]; simp
  | [], j, u :: us, h => by simp at h
  | v :: r, 0, u :: us, h => by
    simp only [putL, List.take_zero, List.nil_append, List.length_cons, Nat.zero_add, List.drop_succ_cons, List.cons_append]
    rw [putL_eq r 0 us (by simpa using h)]
    simp
  | v :: r, j + 1, u :: us, h => by
    simp only [putL]
    rw [putL_eq r j (u :: us) (by simp at h ⊢; omega)]
    rw [show j + 1 + (u :: us).length = (j + (u :: us).length) + 1 by omega]
    simp
theorem goInt_nat (n : Nat) : goInt n = .int .i64 (n : Int) := rfl
theorem run_loadCells_of {a : Addr} (hc : CellsAt w a es) : (loadCells a es.length).run P w = .ok es.toArray w := by
  have := run_loadCellsFrom (P := P) (w := w) a es 0 #[] (fun j v hv => by rw [Nat.zero_add]; exact hc j v hv)
  simpa [loadCells] using this
/-- copy(dst, src): dst lies in a block that is known. -/
theorem D_copyB {o1 n1 c1 n2 c2 : Nat} {a : Addr} (m : Nat) (es : List Value) (hS : St w0 w L) (hl : look L k = some (blkL g cs e)) (ho : o.op = .call { callee := .builtin .copy, args := #[x, y], argTypes := #[t, t'] })
    (hx : evalE E x = some (.slice (some ⟨g, o1, none⟩) n1 c1)) (hy : evalE E y = some (.slice (some a) n2 c2)) (ht : P.underlying t = some (.slice e')) (hs : ∀ w, (sizeOf e').run P w = .ok sz w) (hm : Nat.min n2 n1 = m) (hc : CellsAt w a es) (hes : es.length = m * sz)
    (h1 : ∀ u ∈ es, u.oneCell' = true) (hj : o1 + m * sz ≤ cs.length) (h : ∀ w', St w0 w' (upd L k (blkL g (putL cs o1 es) e)) → K (.int .i64 m) w') : Does P o E w K := fun nt D ac ha => by
  have hu : ∀ w, (underlying t).run P w = .ok (.slice e') w := fun w => by simp [underlying, ht]
  have hld := run_loadCells_of (P := P) hc
  rw [hes] at hld
  obtain ⟨w', hr, hb', hk⟩ := run_storeCells (P := P) es w cs e o1 0 (hS.get hl) h1 (by omega)
  refine ⟨.value (goInt m), _, w', ?_, .inl rfl, h w' (hS.upd hl hk hb' fun b hb => .inl hb)⟩
  unfold execOp; rw [ho]
  simp [resolve, invoke, builtin, ha.eval hx, ha.eval hy, Builtin.copy_, hu, hs, Builtin.lenOf, Builtin.firstCells, hm, hld, hr]
theorem run_append_zeros_grow (t tn ty e : TypeId) (i : TypeInfo) (z : Value) (kn : IntKind) (ht : P.underlying t = some (.slice e)) (htn : P.underlying tn = some (.int kn)) (hi : P.info? e = some i) (hz : i.zero = some z)
    (b : Addr) (sLen sCap : Nat) (olds : List Value) (hlo : olds.length = sLen * i.size) (holds : ∀ j v, olds[j]? = some v → w.cell? (b.add j) = some v)
    (n : Nat) (h0 : 0 < n) (hs : 0 < i.size) (hg : sCap < sLen + n) (h63 : ((sLen + n : Nat) : Int) ≤ 9223372036854775807) (h48 : n * i.bytes ≤ 281474976710656) (hfit : Builtin.nextslicecap (sLen + n) sCap * i.bytes ≤ 281474976710656) :
    (Builtin.append_ #[t, tn] ty #[.slice (some b) sLen sCap, .int .i64 n]).run P w =
      .ok (.slice (some ⟨w.heap.size, 0, none⟩) (sLen + n) (grownCap w (sLen + n) sCap e))
        (w.drew.alloc (.cells (olds.toArray ++ Builtin.zeroCells z.cells n ++ Builtin.zeroCells z.cells (grownCap w (sLen + n) sCap e - (sLen + n))) e)) := by
  have hn : ¬ (sLen + n ≤ sCap) := by omega
  have hw : IntKind.i64.wrap (n : Int) = n := by rw [IntKind.wrap_i64]; omega
  have h63' : ¬ (9223372036854775807 < ((sLen : Int) + (n : Int))) := by omega
  have h48' : ¬ (281474976710656 < Builtin.nextslicecap (sLen + n) sCap * i.bytes) := by omega
  have h48i : ¬ (281474976710656 < (n : Int) * (i.bytes : Int)) := by rw [← Int.natCast_mul]; omega
  have hneg : ¬ ((n : Int) < 0) := by omega
  have hns : ¬ (n * i.size = 0) := Nat.mul_ne_zero (by omega) (by omega)
  have hfo := run_firstCells_some (P := P) w.drew i.size sLen b sLen sCap olds hlo (by simpa using holds)
  simp [Builtin.append_, run_underlying ht, run_underlying htn, sizeOf, typeInfo, zeroValue, hi, hz, asInt, asIntOf, hw, hn, hneg, hns, h63', h48', h48i, Question.forced, hfo, newRow, grownCap]
/-- append(v, make(.., m)...) where there is no room. -/
theorem D_appZ {tn : TypeId} {kn : IntKind} {a : Addr} {n c bytes : Nat} {i : TypeInfo} {z : Value} {mi : Int} (m : Nat) (q : Nat) (es : List Value) (ht : P.underlying t = some (.slice e)) (htn : P.underlying tn = some (.int kn)) (hi : P.info? e = some i) (hz : i.zero = some z) (hsz : i.size = sz) (hby : i.bytes = bytes) (hzs : z.cells.size = sz)
    (hS : St w0 w L) (ho : o.op = .call { callee := .builtin .append, args := #[x, y], argTypes := #[t, tn] }) (hx : evalE E x = some (.slice (some a) n c)) (hy : evalE E y = some (.int .i64 mi)) (hmi : mi = (m : Int))
    (hc : CellsAt w a es) (hes : es.length = n * sz) (hgt : c < n + m) (hpos : 0 < m) (hsp : 0 < sz) (hb : (n + m) * bytes ≤ 140737488355328) (hb2 : m * bytes ≤ 140737488355328) (hn : n + m ≤ 68719476736)
    (h : ∀ g' cap' rest w', n + m ≤ cap' → cap' ≤ maxLen → es.length + rest.length = cap' * sz → St w0 w' ((q, blkL g' (es ++ rest) e) :: L) → K (.slice (some ⟨g', 0, none⟩) (n + m) cap') w') : Does P o E w K := fun nt D ac ha => by
  subst hsz hby hmi
  have hr := run_append_zeros_grow (P := P) (w := w) t tn o.type e i z kn ht htn hi hz a n c es hes (fun j v hv => hc j v hv) m hpos hsp hgt (by omega) (by omega) (growslice_fits (by omega) hb)
  have hge := grownCap_ge w (n + m) c e
  have hcm : grownCap w (n + m) c e ≤ maxLen := grownCap_le_maxLen w (n + m) c e (by simp only [maxLen]; omega)
  have hcells : (es.toArray ++ Builtin.zeroCells z.cells m ++ Builtin.zeroCells z.cells (grownCap w (n + m) c e - (n + m))) = (es ++ ((Builtin.zeroCells z.cells m).toList ++ (Builtin.zeroCells z.cells (grownCap w (n + m) c e - (n + m))).toList)).toArray := by
    apply Array.ext'
    simp [List.append_assoc]
  rw [hcells] at hr
  have hS' := (hS.kp0 (Kp.drew w)).alloc q (.cells (es ++ ((Builtin.zeroCells z.cells m).toList ++ (Builtin.zeroCells z.cells (grownCap w (n + m) c e - (n + m))).toList)).toArray e (0, 0))
  refine ⟨.value _, _, _, ?_, .inl rfl, h w.heap.size _ _ _ hge hcm ?_ hS'⟩
  · unfold execOp; rw [ho]
    simp only [resolve, invoke, builtin, List.map_toArray, List.map_cons, List.map_nil, ha.eval hx, ha.eval hy, Sem.run_bind, Sem.run_pure, Result.andThen_ok, hr]
  · have z1 : ∀ q : Nat, (Builtin.zeroCells z.cells q).toList.length = q * i.size := fun q => by rw [Array.length_toList, size_zeroCells, hzs]
    rw [List.length_append, z1, z1, hes, ← Nat.add_mul, ← Nat.add_mul]
    congr 1
    omega
/-- slices.overlaps of rows in unlike blocks. -/
theorem Q_apart {f : FuncId} {A B : Addr} {la ca lb cb kA kB : Nat} {xs : List Operand} {ts : Array TypeId} {fn : Func} {tA tB : TypeId} {tS tR : TypeId} (ho : o.op = .call { callee := .value (.func f), args := xs.toArray, argTypes := ts }) (hv : evalsE E xs = some [.slice (some A) la ca, .slice (some B) lb cb])
    (hrun : ∀ (args : Array Value) w, (callFunc f args).run P w = (do pure (Next.value (← Extern.SlicesOverlaps.overlaps #[tS, tS] #[tR] args)) : Sem Next).run P w) (ht : P.underlying tS = some (.slice e)) (hz : ∀ w, (sizeOf e).run P w = .ok sz w) (hne : A.block ≠ B.block)
    (hsa : w.shape? A.block = some (tA, kA)) (hsb : w.shape? B.block = some (tB, kB)) (hkB : kB ≠ 0) (hfa : w.frozen? A = false) (hfe : w.frozen? { block := A.block, off := kA } = false) : Qt P o E w (.bool false) := fun nt D ac ha => by
  have := evals_eq ha hv
  unfold execOp; rw [ho]
  simp only [resolve, Act.eval, Deferred.ofValue, List.map_toArray, Sem.run_bind, Sem.run_pure, Result.andThen_ok, invoke]
  rw [show List.map ac.eval xs = _ from this]
  have hov := Lib.run_overlaps_apart (P := P) w tS tR e ht sz hz A B la ca lb cb hne tA tB kA kB hsa hsb hkB hfa hfe
  simp [hrun, hov]
end
/-! ### Entries are parted, and joined -/
section
variable {w0 w : World} {L L' : Hp} {k j : Nat} {e e1 e2 : Ent}
/-- An entry is two. -/
theorem St.part (hS : St w0 w ((k, e) :: L)) (j : Nat) (h1 : e1.ok w) (h2 : e2.ok w) (f1 : ∀ b, e1.fp b → e.fp b) (f2 : ∀ b, e2.fp b → e.fp b) (hd : ∀ b, e1.fp b → e2.fp b → False) : St w0 w ((k, e1) :: (j, e2) :: L) := by
  obtain ⟨s1, s2⟩ := List.pairwise_cons.1 hS.sep
  refine ⟨hS.os, hS.tape, hS.out, hS.size, ?_, ?_, List.pairwise_cons.2 ⟨?_, List.pairwise_cons.2 ⟨?_, s2⟩⟩⟩
  · intro x hx
    rcases List.mem_cons.1 hx with rfl | hx
    · exact h1
    rcases List.mem_cons.1 hx with rfl | hx
    · exact h2
    · exact hS.ok x (List.mem_cons_of_mem _ hx)
  · intro x hx b hb
    rcases List.mem_cons.1 hx with rfl | hx
    · exact hS.lt _ List.mem_cons_self b (f1 b hb)
    rcases List.mem_cons.1 hx with rfl | hx
    · exact hS.lt _ List.mem_cons_self b (f2 b hb)
    · exact hS.lt x (List.mem_cons_of_mem _ hx) b hb
  · intro x hx b hb hb'
    rcases List.mem_cons.1 hx with rfl | hx
    · exact hd b hb hb'
    · exact s1 x hx b (f1 b hb) hb'
  · intro x hx b hb hb'
    exact s1 x hx b (f2 b hb) hb'
/-- Two are one. -/
theorem St.fuse (hS : St w0 w ((k, e1) :: (j, e2) :: L)) (h : e.ok w) (hf : ∀ b, e.fp b → e1.fp b ∨ e2.fp b) : St w0 w ((k, e) :: L) := by
  obtain ⟨s1, s2⟩ := List.pairwise_cons.1 hS.sep
  obtain ⟨s3, s4⟩ := List.pairwise_cons.1 s2
  refine ⟨hS.os, hS.tape, hS.out, hS.size, ?_, ?_, List.pairwise_cons.2 ⟨?_, s4⟩⟩
  · intro x hx
    rcases List.mem_cons.1 hx with rfl | hx
    · exact h
    · exact hS.ok x (List.mem_cons_of_mem _ (List.mem_cons_of_mem _ hx))
  · intro x hx b hb
    rcases List.mem_cons.1 hx with rfl | hx
    · rcases hf b hb with hb | hb
      · exact hS.lt _ List.mem_cons_self b hb
      · exact hS.lt _ (List.mem_cons_of_mem _ List.mem_cons_self) b hb
    · exact hS.lt x (List.mem_cons_of_mem _ (List.mem_cons_of_mem _ hx)) b hb
  · intro x hx b hb hb'
    rcases hf b hb with hb | hb
    · exact s1 x (List.mem_cons_of_mem _ hx) b hb hb'
    · exact s3 x hx b hb hb'
/-- A function that may turn the blocks of e begins. -/
theorem St.begin2 (e : Ent) (he : e.ok w) (hlt : ∀ b, e.fp b → b < w.heap.size) : St w w [(1, e), (0, fz w fun b => b < w.heap.size ∧ ¬ e.fp b)] :=
  ⟨rfl, rfl, rfl, Nat.le_refl _, fun x hx => by
    rcases List.mem_cons.1 hx with rfl | hx
    · exact he
    · simp at hx; subst hx; exact fun _ _ => rfl, fun x hx b hb => by
    rcases List.mem_cons.1 hx with rfl | hx
    · exact hlt b hb
    · simp at hx; subst hx; exact hb.1, List.pairwise_cons.2 ⟨fun x hx b hb hb' => by simp at hx; subst hx; exact hb'.2 hb, by simp⟩⟩
end
end Go.Sl

/- A small logic over the fenced walk: rows of stamps, told by their stamps alone. -/
namespace Go.Sl
open Go Go.RowKit
/-- The cells of stamps. -/
def flS (xs : List Stamp) : List Value := xs.flatMap stL
theorem flS_len (xs : List Stamp) : (flS xs).length = xs.length * 2 := by
  induction xs with
  | nil => rfl
  | cons x r ih => simp only [flS, List.flatMap_cons, List.length_append, List.length_cons] at ih ⊢; rw [ih]; simp [stL]; omega
theorem flS_append (xs ys : List Stamp) : flS (xs ++ ys) = flS xs ++ flS ys := by simp [flS]
theorem flS_drop : ∀ (xs : List Stamp) (i : Nat), (flS xs).drop (i * 2) = flS (xs.drop i)
  | xs, 0 => by simp
  | [], i + 1 => by simp [flS]
  | x :: r, i + 1 => by
    have := flS_drop r i
    rw [show (i + 1) * 2 = i * 2 + 2 by omega]
    simpa [flS, stL] using this
theorem flS_take : ∀ (xs : List Stamp) (i : Nat), (flS xs).take (i * 2) = flS (xs.take i)
  | xs, 0 => by simp [flS]
  | [], i + 1 => by simp [flS]
  | x :: r, i + 1 => by
    have := flS_take r i
    rw [show (i + 1) * 2 = i * 2 + 2 by omega]
    simpa [flS, stL] using this
theorem flS_at (xs : List Stamp) {i : Nat} (hi : i < xs.length) : ((flS xs).drop (i * 2)).take 2 = stL xs[i] := by
  rw [flS_drop, List.drop_eq_getElem_cons hi]
  rfl
theorem flS_set (xs : List Stamp) {i : Nat} (hi : i < xs.length) (s : Stamp) : putL (flS xs) (i * 2) (stL s) = flS (xs.set i s) := by
  rw [putL_eq _ _ _ (by rw [flS_len]; simp [stL]; omega), flS_take, show i * 2 + (stL s).length = (i + 1) * 2 by simp [stL]; omega, flS_drop]
  rw [List.set_eq_take_append_cons_drop, if_pos hi, flS_append]
  simp [flS]
theorem reps_flS {W : World} {F : Nat → Prop} : ∀ {xs : List Stamp} {fl : List Value}, Reps tSt W F xs fl → fl = flS xs := by
  intro xs
  induction xs with
  | nil => intro fl h; exact List.eq_nil_of_length_eq_zero (by rw [h.1]; simp)
  | cons x r ih =>
    intro fl h
    have h0 := h.2 0 x rfl
    have hs : tSt.sz = 2 := rfl
    rw [hs, Nat.zero_mul, List.drop_zero] at h0
    have hx := (openSt h0).1
    have hr : Reps tSt W F r (fl.drop 2) := by
      refine ⟨by rw [List.length_drop, h.1]; simp [hs]; omega, fun i y hy => ?_⟩
      have := h.2 (i + 1) y (by simpa using hy)
      rw [hs] at this ⊢
      rw [List.drop_drop, show 2 + i * 2 = (i + 1) * 2 by omega]
      exact this
    have := ih hr
    rw [← List.take_append_drop 2 fl, hx, this]
    rfl
theorem flS_reps {W : World} {F : Nat → Prop} {xs : List Stamp} (h : ∀ s ∈ xs, StOk s) : Reps tSt W F xs (flS xs) := by
  refine ⟨flS_len xs, fun i x hx => ?_⟩
  obtain ⟨hi, rfl⟩ := List.getElem?_eq_some_iff.1 hx
  have hs : tSt.sz = 2 := rfl
  rw [hs, flS_at xs hi]
  exact mkSt (h _ (List.getElem_mem hi))
theorem reps_ok {W : World} {F : Nat → Prop} {xs : List Stamp} {fl : List Value} (h : Reps tSt W F xs fl) : ∀ s ∈ xs, StOk s := by
  intro s hs
  obtain ⟨i, hi, rfl⟩ := List.getElem_of_mem hs
  exact (openSt (h.2 i _ (List.getElem?_eq_getElem hi))).2
theorem rdS_ok {W : World} {F : Nat → Prop} {xs : List Stamp} {v : Value} (h : RdF (tSl tSt) W F [v] xs) : ∀ s ∈ xs, StOk s := by
  obtain ⟨A, cap, rfl, _, _⟩ := h.slice
  obtain ⟨fl, hr, _⟩ := h.flat
  exact reps_ok hr
section
variable {P : Program} {o : Oper} {E : Env} {w w0 : World} {v : Value} {x y : Operand} {t e : TypeId} {L : Hp} {K : Value → World → Prop} {k j g n m cap o1 : Nat} {xs : List Stamp} {s : Stamp}
/-- A stamp out of a row of one's own. -/
theorem Q_ldRS (q : Int) (hS : St w0 w L) (hl : look L k = some (own e 2 (.slice (some ⟨g, 0, none⟩) n cap) m (flS xs))) (ho : o.op = .load t x) (hx : evalE E x = some (.pointer (some ((⟨g, o1, none⟩ : Addr).add j))))
    (ht : ∀ w, (isAgg t).run P w = .ok true w) (hs : ∀ w, (sizeOf t).run P w = .ok 2 w) (h0 : 0 ≤ q) (h1 : q < xs.length) (hq : o1 + j = q.toNat * 2) : Qt P o E w (.agg (stL (nth xs q)).toArray) := by
  have hc := own_cells (hS.get hl)
  rw [add_g, hq] at hx
  have hx' : evalE E x = some (.pointer (some ((⟨g, 0, none⟩ : Addr).add (q.toNat * 2)))) := by rw [hx, add_g, Nat.zero_add]
  refine Q_ldCK _ hc ho hx' ht hs ?_ rfl
  rw [subL_eq, flS_at xs (by omega), nth_get xs q (by omega)]
theorem D_stRS (q : Int) (s : Stamp) (hS : St w0 w L) (hl : look L k = some (own e 2 (.slice (some ⟨g, 0, none⟩) n cap) m (flS xs))) (ho : o.op = .store t x y) (hx : evalE E x = some (.pointer (some ((⟨g, o1, none⟩ : Addr).add j)))) (hy : evalE E y = some (.agg (stL s).toArray))
    (hs : ∀ w, (sizeOf t).run P w = .ok 2 w) (h0 : 0 ≤ q) (h1 : q < xs.length) (hq : o1 + j = q.toNat * 2)
    (h : ∀ w', St w0 w' (upd L k (own e 2 (.slice (some ⟨g, 0, none⟩) n cap) m (flS (xs.set q.toNat s)))) → K undef w') : Does P o E w K := by
  rw [add_g, hq] at hx
  have hx' : evalE E x = some (.pointer (some ((⟨g, 0, none⟩ : Addr).add (q.toNat * 2)))) := by rw [hx, add_g, Nat.zero_add]
  refine D_storeO hS hl ho hx' hy hs rfl rfl (by rw [Nat.ble_eq, flS_len]; omega) fun w' hS' => ?_
  have he : putL (flS xs) (q.toNat * 2) (cl (.agg (stL s).toArray)) = flS (xs.set q.toNat s) := by
    have : cl (.agg (stL s).toArray) = stL s := by simp [cl]
    rw [this, flS_set xs (by omega)]
  rw [he] at hS'
  exact h w' hS'
/-- A part of a row of one's own, from l on. -/
theorem Q_slFrom {sz : Nat} {l : Int} (ho : o.op = .slice t x (some y) none none) (hx : evalE E x = some (.slice (some ⟨g, 0, none⟩) n cap)) (hy : evalE E y = some (.int .i64 l)) (ht : P.underlying t = some (.slice e)) (hs : ∀ w, (sizeOf e).run P w = .ok sz w) (h0 : 0 ≤ l) (h1 : l.toNat < cap) (h2 : l ≤ n) (h3 : n ≤ cap) :
    Qt P o E w (.slice (some ⟨g, l.toNat * sz, none⟩) (n - l.toNat) (cap - l.toNat)) := by
  have := Q_slice (w := w) (l := l) (h := n) ho hx (rl := some (.int .i64 l)) (rh := none) (by simp [evalO, hy]) rfl (.inr rfl) (.inl ⟨rfl, rfl⟩) ht hs h0 h2 (by omega)
  have hne : ¬ cap = l.toNat := by omega
  simp only [hne, if_false, Option.map_some, add_g, Nat.zero_add, Int.toNat_natCast] at this
  exact this
theorem Q_slTo {sz : Nat} {h : Int} (ho : o.op = .slice t x none (some y) none) (hx : evalE E x = some (.slice (some ⟨g, 0, none⟩) n cap)) (hy : evalE E y = some (.int .i64 h)) (ht : P.underlying t = some (.slice e)) (hs : ∀ w, (sizeOf e).run P w = .ok sz w) (h0 : 0 ≤ h) (h1 : h ≤ cap) :
    Qt P o E w (.slice (some ⟨g, 0, none⟩) h.toNat cap) := by
  have := Q_slice (w := w) (l := 0) (h := h) ho hx (rl := none) (rh := some (.int .i64 h)) rfl (by simp [evalO, hy]) (.inl ⟨rfl, rfl⟩) (.inr rfl) ht hs (by decide) h0 h1
  have e1 : (if cap = (0 : Int).toNat then (some ⟨g, 0, none⟩ : Option Addr) else (some (⟨g, 0, none⟩ : Addr)).map (·.add ((0 : Int).toNat * sz))) = some ⟨g, 0, none⟩ := by split <;> simp [Addr.add]
  rw [e1] at this
  simpa using this
theorem zeroCells_mem {z : Array Value} {n : Nat} {u : Value} (hz : 0 < z.size) (hu : u ∈ (Builtin.zeroCells z n).toList) : u ∈ z.toList := by
  simp only [Builtin.zeroCells, Array.toList_map, List.mem_map] at hu
  obtain ⟨i, _, rfl⟩ := hu
  have := Nat.mod_lt i hz
  rw [getElem!_pos z _ this]
  simp
/-- clear of what lies behind l. -/
theorem D_clearO {sz c2 : Nat} {fl : List Value} {z : Value} {l : Nat} (hS : St w0 w L) (hl : look L k = some (own e sz (.slice (some ⟨g, 0, none⟩) n cap) n fl)) (ho : o.op = .call { callee := .builtin .clear, args := #[x], argTypes := #[t] }) (hx : evalE E x = some (.slice (some ⟨g, l * sz, none⟩) (n - l) c2))
    (ht : P.underlying t = some (.slice e)) (hz : ∀ w, (zeroValue e).run P w = .ok z w) (hzs : z.cells.size = sz) (hsp : 0 < sz) (hz1 : ∀ u ∈ z.cells.toList, u.oneCell' = true) (hln : l < n)
    (h : ∀ zs w', zs.length = (n - l) * sz → St w0 w' (upd L k (own e sz (.slice (some ⟨g, 0, none⟩) n cap) n (fl.take (l * sz) ++ zs))) → K (.tuple #[]) w') : Does P o E w K := fun nt D ac ha => by
  have hu : ∀ w, (underlying t).run P w = .ok (.slice e) w := fun w => by simp [underlying, ht]
  obtain ⟨h1, h2⟩ := hS.get hl
  rcases h2 with ⟨h2, _⟩ | ⟨g', cap', cur, h2, _, hh, hc, hm, hs, htk⟩
  · cases h2
  cases h2
  have hz2 : (Builtin.zeroCells z.cells (n - l)).toList.length = (n - l) * sz := by rw [Array.length_toList, size_zeroCells, hzs]
  have hmul : l * sz + (n - l) * sz = n * sz := by rw [← Nat.add_mul]; congr 1; omega
  have hle : n * sz ≤ cap * sz := Nat.mul_le_mul_right _ hc
  have hcl : cur.toList.length = cap * sz := by simpa using hs
  obtain ⟨w', hr, hb', hk⟩ := run_storeCells (P := P) (Builtin.zeroCells z.cells (n - l)).toList w cur.toList e (l * sz) 0 hh (fun u hu => hz1 u (zeroCells_mem (by omega) hu)) (by rw [hz2]; omega)
  refine ⟨.value (.tuple #[]), _, w', ?_, .inl rfl, h (Builtin.zeroCells z.cells (n - l)).toList w' hz2 (hS.upd hl (hk.mono fun b hb => by rw [hb]; exact rfl) ⟨?_, .inr ⟨g, cap, _, rfl, Nat.zero_le _, hb', hc, hm, ?_, ?_⟩⟩ fun b hb => .inl hb)⟩
  · unfold execOp; rw [ho]
    have hne : ¬ n - l = 0 := by omega
    obtain ⟨p, hp⟩ : ∃ p, n - l = p + 1 := ⟨n - l - 1, by omega⟩
    rw [hp] at hx hr
    simp [resolve, invoke, builtin, ha.eval hx, Builtin.clear_, hu, hz, hr]
  · rw [List.length_append, List.length_take, hz2, h1]; omega
  · simp only [List.size_toArray, putL_length]; exact hcl
  · rw [Nat.add_zero, putL_eq _ _ _ (by rw [hz2]; omega)]
    rw [List.take_append_of_le_length (by rw [List.length_append, List.length_take, hz2]; omega), List.take_of_length_le (by rw [List.length_append, List.length_take, hz2]; omega)]
    congr 1
    rw [← htk, List.take_take]; congr 1; omega
theorem own_room {sz : Nat} {fl : List Value} (h : w.ownsRow 0 e sz (.slice (some ⟨g, 0, none⟩) n cap) m fl) : (∀ b, (own e sz (.slice (some ⟨g, 0, none⟩) n cap) m fl).fp b → b < w.heap.size) ∧ m ≤ cap ∧ n = m := by
  rcases h.2 with ⟨h1, _⟩ | ⟨g', cap', cur, h1, _, hh, hc, _⟩
  · cases h1
  · cases h1
    exact ⟨fun b hb => by have h2 : some g = some b := hb; cases h2; exact (Array.getElem?_eq_some_iff.1 hh).1, hc, rfl⟩
theorem fpG {sz : Nat} {fl : List Value} {b : Nat} : (own e sz (.slice (some ⟨g, 0, none⟩) n cap) m fl).fp b ↔ b = g := ⟨fun h => by have h2 : some g = some b := h; cases h2; rfl, fun h => by rw [h]; exact rfl⟩
/-- What a row of one's own begins with, read. -/
theorem rdPre {fl rest : List Value} {k' : Nat} (hS : St w0 w L) (k : Nat) (hl : look L k = some (own e 2 (.slice (some ⟨g, 0, none⟩) n cap) m fl)) (hf : fl = flS xs ++ rest) (hk : k' = xs.length) (hc : xs.length ≤ cap) (hm : xs.length ≤ 68719476736) (hok : ∀ s ∈ xs, StOk s) : RdF (tSl tSt) w (· = g) [.slice (some ⟨g, 0, none⟩) k' cap] xs := by
  subst hk
  intro w2 hw2
  have hown := hS.get hl
  have hc2 := own_cells hown
  refine ⟨some ⟨g, 0, none⟩, cap, rfl, hc, hm, fun i x hx => ⟨_, stL x, rfl, ?_, rfl, hok x (List.mem_of_getElem? hx)⟩⟩
  obtain ⟨hi, rfl⟩ := List.getElem?_eq_some_iff.1 hx
  have h1 : CellsAt w ⟨g, 0, none⟩ (flS xs) := fun j v hv => hc2 j v (by rw [hf, List.getElem?_append_left (List.getElem?_eq_some_iff.1 hv).1]; exact hv)
  have h2 := h1.sub (i * 2) 2
  rw [flS_at xs hi] at h2
  intro j v hv
  have h3 := h2 j v hv
  refine (cell_same ?_).trans h3
  rw [add_block, add_block]
  exact hw2 g rfl
end
end Go.Sl

/- A small logic over the fenced walk: a box told for later, a row's form. -/
namespace Go.Sl
open Go Go.RowKit
/-- Block g holds these cells wherever the blocks of F lie as in W. -/
def BoxAt (W : World) (F : Nat → Prop) (g : Nat) (cs : List Value) : Prop := ∀ u : World, (∀ b, F b → u.heap[b]? = W.heap[b]?) → CellsAt u ⟨g, 0, none⟩ cs
section
variable {w0 w W W' : World} {F F' : Nat → Prop} {L : Hp} {k g : Nat} {cs : List Value} {t e : TypeId} {v : Value} {n sz : Nat} {fl : List Value}
theorem BoxAt.mono (h : BoxAt W F g cs) (hF : ∀ b, F b → F' b) : BoxAt W F' g cs := fun u hu => h u fun b hb => hu b (hF b hb)
theorem BoxAt.at_ (h : BoxAt W F g cs) (hw : ∀ b, F b → W'.heap[b]? = W.heap[b]?) : BoxAt W' F g cs := fun u hu => h u fun b hb => (hu b hb).trans (hw b hb)
theorem St.boxAt (hS : St w0 w L) (h0 : look L 0 = some (fz w0 (lt_ w0))) (k : Nat) (hk : look L k = some (blkL g cs t)) (hne : Nat.beq 0 k = false) : BoxAt w (nw w0 w) g cs := fun u hu => by
  have hb := hS.get hk
  have hn := hS.fresh h0 hk hne g rfl
  have hu' : u.heap[g]? = some (.cells cs.toArray t (0, 0)) := (hu g hn).trans hb
  have := CellsAt.of_blk hu'
  simpa using this
theorem own_form (h : w.ownsRow 0 e sz v n fl) : (v = .slice none 0 0 ∧ n = 0) ∨ ∃ g cap, v = .slice (some ⟨g, 0, none⟩) n cap ∧ n ≤ cap := by
  rcases h.2 with ⟨h1, h2⟩ | ⟨g, cap, cur, h1, _, _, hc, _⟩
  · exact .inl ⟨h1, h2⟩
  · exact .inr ⟨g, cap, h1, hc⟩
/-- What was told of fewer blocks. -/
theorem St.shrink (hS : St w0 w L) (k : Nat) (hl : look L k = some (fz W' F')) (hF : ∀ b, F b → F' b) (hw : ∀ b, F b → W'.heap[b]? = W.heap[b]?) : St w0 w (Sl.upd L k (fz W F)) :=
  hS.upd hl (Kp.refl _ _) (fun b hb => (hS.get hl b (hF b hb)).trans (hw b hb)) fun b hb => .inl (hF b hb)
end
end Go.Sl

/- Plain words of the document's lower layers: stamps, clocks, changes. No program in sight. -/
namespace Go.Sl
abbrev isRep (n : Int) : Prop := 0 ≤ n ∧ n < 64
abbrev right (s : Stamp) : Prop := 1 ≤ s.c ∧ s.c ≤ 1099511627776 ∧ 0 ≤ s.r ∧ s.r < 64
abbrev isNode (s : Stamp) : Prop := right s ∨ s.c = 0 ∧ (s.r = 0 ∨ s.r = 1)
abbrev less (a b : Stamp) : Prop := a.c < b.c ∨ a.c = b.c ∧ a.r < b.r
def cmp (a b : Stamp) : Int := if less a b then -1 else if less b a then 1 else 0
theorem Stamp.ext' {a b : Stamp} (h1 : a.c = b.c) (h2 : a.r = b.r) : a = b := by cases a; cases b; simp_all
theorem cmp_eq {a b : Stamp} (h : a.c = b.c ∧ a.r = b.r) : cmp a b = 0 := by
  simp only [cmp]; rw [if_neg (by omega), if_neg (by omega)]
theorem cmp_lt {a b : Stamp} (h : less a b) : cmp a b = -1 := by simp only [cmp]; rw [if_pos h]
theorem cmp_gt {a b : Stamp} (h1 : ¬ (a.c = b.c ∧ a.r = b.r)) (h : ¬ less a b) : cmp a b = 1 := by
  simp only [cmp]; rw [if_neg h, if_pos (by omega)]
theorem cmp_neg {a b : Stamp} : cmp a b < 0 ↔ less a b := by
  by_cases h : less a b
  · rw [cmp_lt h]; exact ⟨fun _ => h, fun _ => by decide⟩
  · by_cases h2 : a.c = b.c ∧ a.r = b.r
    · rw [cmp_eq h2]; exact ⟨fun h3 => by omega, fun h3 => absurd h3 h⟩
    · rw [cmp_gt h2 h]; exact ⟨fun h3 => by omega, fun h3 => absurd h3 h⟩
theorem cmp_zero {a b : Stamp} : cmp a b = 0 ↔ a = b := by
  by_cases h2 : a.c = b.c ∧ a.r = b.r
  · rw [cmp_eq h2]; exact ⟨fun _ => Stamp.ext' h2.1 h2.2, fun _ => rfl⟩
  · by_cases h : less a b
    · rw [cmp_lt h]; exact ⟨fun h3 => by omega, fun h3 => absurd ⟨by rw [h3], by rw [h3]⟩ h2⟩
    · rw [cmp_gt h2 h]; exact ⟨fun h3 => by omega, fun h3 => absurd ⟨by rw [h3], by rw [h3]⟩ h2⟩
def at2 (c : List Int) (r : Int) : Int := if r < 0 ∨ (c.length : Int) ≤ r then 0 else nth c r
theorem at2_out {c : List Int} {r : Int} (h : r < 0 ∨ (c.length : Int) ≤ r) : at2 c r = 0 := by rw [at2, if_pos h]
theorem at2_in {c : List Int} {r : Int} (h0 : 0 ≤ r) (h : r < c.length) : at2 c r = nth c r := by rw [at2, if_neg (by omega)]
abbrev okN (n : Int) : Prop := 0 ≤ n ∧ n ≤ 1099511627776
/-- A clock's error. -/
def chk2 (c : List Int) : Int := if 64 < c.length then 3 else if ∀ n ∈ c, okN n then 0 else 1
/-- So far all is well. -/
def UpTo {α : Type} [Inhabited α] (p : α → Prop) (l : List α) (i : Int) : Prop := ∀ j : Int, 0 ≤ j → j < i → p (nth l j)
section
variable {α : Type} [Inhabited α] {p : α → Prop} {l : List α} {i : Int}
theorem UpTo.zero : UpTo p l 0 := fun j h0 h1 => by omega
theorem UpTo.snoc (h : UpTo p l i) (hi : p (nth l i)) : UpTo p l (i + 1) := fun j h0 h1 => by
  rcases Int.lt_or_eq_of_le (show j ≤ i by omega) with h2 | h2
  · exact h j h0 h2
  · rw [h2]; exact hi
theorem UpTo.all (h : UpTo p l i) (hi : (l.length : Int) ≤ i) : ∀ x ∈ l, p x := by
  intro x hx
  obtain ⟨j, hj, rfl⟩ := List.getElem_of_mem hx
  have := h j (by omega) (by omega)
  rwa [nth_get l j (by simpa using hj)] at this
theorem nth_mem (h0 : 0 ≤ i) (h1 : i < l.length) : nth l i ∈ l := by
  rw [nth_get l i (by omega)]
  exact List.getElem_mem _
end
theorem chk2_long {c : List Int} (h : 64 < (c.length : Int)) : chk2 c = 3 := by rw [chk2, if_pos (by omega)]
theorem chk2_bad {c : List Int} {i : Int} (h : ¬ 64 < (c.length : Int)) (h0 : 0 ≤ i) (h1 : i < c.length) (hb : ¬ okN (nth c i)) : chk2 c = 1 := by
  rw [chk2, if_neg (by omega), if_neg fun hh => hb (hh _ (nth_mem h0 h1))]
theorem chk2_ok {c : List Int} {i : Int} (h : ¬ 64 < (c.length : Int)) (hu : UpTo okN c i) (hi : (c.length : Int) ≤ i) : chk2 c = 0 := by
  rw [chk2, if_neg (by omega), if_pos (hu.all hi)]
end Go.Sl

/- Plain words: places of lists, names, changes. No program in sight. -/
set_option linter.unusedSectionVars false
namespace Go.Sl
/-- At all places below n. -/
def Up (n : Int) (p : Int → Prop) : Prop := ∀ j : Int, 0 ≤ j → j < n → p j
noncomputable instance (n : Int) (p : Int → Prop) : Decidable (Up n p) := Classical.propDecidable _
section
variable {p q : Int → Prop} {n i : Int}
theorem Up.zero : Up 0 p := fun j h0 h1 => by omega
theorem Up.snoc (h : Up i p) (hi : p i) : Up (i + 1) p := fun j h0 h1 => by
  rcases Int.lt_or_eq_of_le (show j ≤ i by omega) with h2 | h2
  · exact h j h0 h2
  · rw [h2]; exact hi
theorem Up.full (h : Up i p) (hi : n ≤ i) : Up n p := fun j h0 h1 => h j h0 (by omega)
theorem Up.bad (h0 : 0 ≤ i) (h1 : i < n) (h : ¬ p i) : ¬ Up n p := fun hh => h (hh i h0 h1)
theorem Up.mono (h : Up n p) (hpq : ∀ j, 0 ≤ j → j < n → p j → q j) : Up n q := fun j h0 h1 => hpq j h0 h1 (h j h0 h1)
end
/-- The first place at which it is so; -1: there is none. -/
noncomputable def fidx (n : Int) (p : Int → Prop) : Int := by
  classical exact if h : ∃ i, 0 ≤ i ∧ i < n ∧ p i ∧ Up i (fun j => ¬ p j) then h.choose else -1
section
variable {p q : Int → Prop} {n i : Int}
theorem fidx_hit (h0 : 0 ≤ i) (h1 : i < n) (hp : p i) (hu : Up i (fun j => ¬ p j)) : fidx n p = i := by
  have h : ∃ i, 0 ≤ i ∧ i < n ∧ p i ∧ Up i (fun j => ¬ p j) := ⟨i, h0, h1, hp, hu⟩
  unfold fidx
  rw [dif_pos h]
  obtain ⟨a, b, c, d⟩ := h.choose_spec
  rcases Int.lt_trichotomy h.choose i with h2 | h2 | h2
  · exact absurd c (hu _ a h2)
  · exact h2
  · exact absurd hp (d _ h0 h2)
theorem fidx_none (hu : Up n (fun j => ¬ p j)) : fidx n p = -1 := by
  unfold fidx
  rw [dif_neg]
  rintro ⟨i, h0, h1, hp, _⟩
  exact hu i h0 h1 hp
theorem fidx_cases (n : Int) (p : Int → Prop) : (fidx n p = -1 ∧ Up n (fun j => ¬ p j)) ∨ (0 ≤ fidx n p ∧ fidx n p < n ∧ p (fidx n p) ∧ Up (fidx n p) (fun j => ¬ p j)) := by
  by_cases h : Up n (fun j => ¬ p j)
  · exact .inl ⟨fidx_none h, h⟩
  · refine .inr ?_
    have key : ∀ m : Nat, (m : Int) ≤ n → Up m (fun j => ¬ p j) ∨ ∃ i, 0 ≤ i ∧ i < n ∧ p i ∧ Up i (fun j => ¬ p j) := by
      intro m
      induction m with
      | zero => exact fun _ => .inl Up.zero
      | succ m ih =>
        intro hm
        rcases ih (by omega) with h1 | h1
        · by_cases hp : p m
          · exact .inr ⟨m, by omega, by omega, hp, h1⟩
          · exact .inl (by rw [show ((m + 1 : Nat) : Int) = (m : Int) + 1 by omega]; exact h1.snoc hp)
        · exact .inr h1
    have hn : 0 ≤ n := by
      rcases Int.lt_or_le n 0 with h2 | h2
      · exact absurd (fun j h0 h1 => by omega) h
      · exact h2
    rcases key n.toNat (by omega) with h1 | ⟨i, h0, h1, hp, hu⟩
    · exact absurd (h1.full (by omega)) h
    · rw [fidx_hit h0 h1 hp hu]; exact ⟨h0, h1, hp, hu⟩
end
section
variable {α : Type} [Inhabited α] {a b l : List α} {i : Int}
theorem nth_ext (hl : (a.length : Int) = b.length) (h : Up a.length fun j => nth a j = nth b j) : a = b := by
  refine List.ext_getElem (by omega) fun j h1 h2 => ?_
  have := h j (by omega) (by omega)
  simp only at this
  rwa [nth_get a j (by simpa using h1), nth_get b j (by simpa using h2)] at this
/-- The first so many. -/
def tk (l : List α) (i : Int) : List α := l.take i.toNat
theorem tk_zero : tk l 0 = [] := by simp [tk]
theorem tk_snoc (h0 : 0 ≤ i) (h1 : i < l.length) : tk l (i + 1) = tk l i ++ [nth l i] := by
  rw [nth_get l i (by omega)]
  simp only [tk]
  rw [show (i + 1).toNat = i.toNat + 1 by omega, List.take_succ_eq_append_getElem (by omega)]
theorem tk_full (h : (l.length : Int) ≤ i) : tk l i = l := by simp only [tk]; exact List.take_of_length_le (by omega)
theorem tk_len (h0 : 0 ≤ i) (h1 : i ≤ l.length) : ((tk l i).length : Int) = i := by simp [tk]; omega
theorem nth_tk {j : Int} (h0 : 0 ≤ j) (h1 : j < i) : nth (tk l i) j = nth l j := by
  simp only [nth, tk, List.getD_eq_getElem?_getD, List.getElem?_take]
  rw [if_pos (by omega)]
theorem nth_append_left {j : Int} (h0 : 0 ≤ j) (h : j < a.length) : nth (a ++ b) j = nth a j := by
  simp only [nth, List.getD_eq_getElem?_getD]; rw [List.getElem?_append_left (by omega)]
theorem nth_append_right {j : Int} (h : (a.length : Int) ≤ j) : nth (a ++ b) j = nth b (j - a.length) := by
  simp only [nth, List.getD_eq_getElem?_getD]; rw [List.getElem?_append_right (by omega)]; congr 2; omega
theorem nth_one {x : α} : nth [x] 0 = x := by simp [nth]
theorem mem_nth {x : α} : x ∈ l ↔ ∃ j : Int, 0 ≤ j ∧ j < l.length ∧ nth l j = x := by
  constructor
  · intro h
    obtain ⟨j, hj, rfl⟩ := List.getElem_of_mem h
    exact ⟨j, by omega, by omega, by rw [nth_get l j (by simpa using hj)]; simp⟩
  · rintro ⟨j, h0, h1, rfl⟩
    exact nth_mem h0 h1
end
/-! ### clocks -/
def under (a b : List Int) : Prop := Up a.length fun j => nth a j ≤ at2 b j
noncomputable instance (a b : List Int) : Decidable (under a b) := Classical.propDecidable _
abbrev trimmed (d : List Int) : Prop := d.length = 0 ∨ nth d ((d.length : Int) - 1) ≠ 0
/-! ### stamps -/
abbrev eqs (a b : Stamp) : Prop := a.c = b.c ∧ a.r = b.r
abbrev zst (s : Stamp) : Prop := s.c = 0 ∧ s.r = 0
abbrev sahead (s a : Stamp) : Prop := right s ∧ less s a
theorem eqs_iff {a b : Stamp} : a = b ↔ eqs a b := ⟨fun h => by rw [h]; exact ⟨rfl, rfl⟩, fun h => Stamp.ext' h.1 h.2⟩
/-! ### names -/
abbrev letter (b : Int) : Prop := 97 ≤ b ∧ b ≤ 122
abbrev digit (b : Int) : Prop := 48 ≤ b ∧ b ≤ 57
def nameOk (s : ByteArray) : Prop := 1 ≤ s.size ∧ s.size ≤ 32 ∧ Up s.size fun j => letter (byteAt s j) ∨ j ≠ 0 ∧ (byteAt s j = 45 ∨ digit (byteAt s j))
noncomputable instance (s : ByteArray) : Decidable (nameOk s) := Classical.propDecidable _
/-! ### changes -/
abbrev nodeOk (c : Change) : Prop := c.kind = 1 ∧ eqs c.node c.at_ ∨ c.kind = 2 ∧ sahead c.node c.at_ ∨ ¬ c.kind = 1 ∧ ¬ c.kind = 2 ∧ (zst c.node ∨ sahead c.node c.at_)
abbrev placeOk (c : Change) : Prop := ¬ (c.kind = 1 ∨ c.kind = 2) ∧ zst c.par ∧ zst c.aft ∨ (c.kind = 1 ∨ c.kind = 2) ∧ isNode c.par ∧ less c.par c.at_ ∧ ¬ eqs c.par c.node ∧ (zst c.aft ∨ sahead c.aft c.at_)
abbrev placedR (c : Change) : Prop := ¬ (c.kind = 1 ∧ ¬ eqs c.node c.at_ ∨ c.kind = 2 ∧ ¬ sahead c.node c.at_ ∨ 2 < c.kind ∧ ¬ zst c.node ∧ ¬ sahead c.node c.at_) ∧
  (2 < c.kind ∧ zst c.par ∧ zst c.aft ∨ ¬ 2 < c.kind ∧ isNode c.par ∧ less c.par c.at_ ∧ ¬ eqs c.par c.node ∧ (zst c.aft ∨ sahead c.aft c.at_))
theorem placed_iff {c : Change} (h : 1 ≤ c.kind ∧ c.kind ≤ 5) : placedR c ↔ nodeOk c ∧ placeOk c := by
  have hG : 2 < c.kind ↔ ¬ c.kind = 1 ∧ ¬ c.kind = 2 := by omega
  simp only [placedR, nodeOk, placeOk]
  generalize eqs c.node c.at_ = e at *
  generalize sahead c.node c.at_ = a at *
  generalize zst c.node = z at *
  generalize zst c.par = zp at *
  generalize zst c.aft = za at *
  generalize isNode c.par = np at *
  generalize less c.par c.at_ = lp at *
  generalize eqs c.par c.node = ep at *
  generalize sahead c.aft c.at_ = aa at *
  by_cases h1 : c.kind = 1
  · have h2 : ¬ c.kind = 2 := by omega
    simp [hG, h1, h2]
  · by_cases h2 : c.kind = 2
    · simp [hG, h1, h2]
    · simp only [hG, h1, h2, false_and, false_or, not_false_eq_true, and_self, true_and, true_or, not_true_eq_false, or_false, not_and, Classical.not_not]
      constructor
      · rintro ⟨h3, h4⟩
        refine ⟨?_, h4⟩
        by_cases hz : z
        · exact .inl hz
        · exact .inr (h3 hz)
      · rintro ⟨h3, h4⟩
        exact ⟨fun hz => h3.resolve_left hz, h4⟩
theorem Change.eq_iff {a b : Change} : a = b ↔ eqs a.at_ b.at_ ∧ a.seq = b.seq ∧ a.deps = b.deps ∧ a.kind = b.kind ∧ eqs a.node b.node ∧ eqs a.par b.par ∧ eqs a.aft b.aft ∧ a.name = b.name ∧ a.val = b.val := by
  constructor
  · rintro rfl
    exact ⟨⟨rfl, rfl⟩, rfl, rfl, rfl, ⟨rfl, rfl⟩, ⟨rfl, rfl⟩, ⟨rfl, rfl⟩, rfl, rfl⟩
  · rintro ⟨h1, h2, h3, h4, h5, h6, h7, h8, h9⟩
    cases a
    cases b
    simp only [Change.mk.injEq]
    exact ⟨Stamp.ext' h1.1 h1.2, h2, h3, h4, Stamp.ext' h5.1 h5.2, Stamp.ext' h6.1 h6.2, Stamp.ext' h7.1 h7.2, h8, h9⟩
abbrev nostr : ByteArray := ⟨#[]⟩
abbrev named (c : Change) : Prop := c.kind = 1 ∨ c.kind = 3 ∨ c.kind = 4
abbrev valued (c : Change) : Prop := c.kind = 3 ∨ c.kind = 5
/-- What is wrong with a change's words. -/
noncomputable def words5 (c : Change) : Int := if named c ∧ ¬ nameOk c.name ∨ ¬ named c ∧ ¬ c.name = nostr then 8 else if 256 < (c.val.size : Int) then 3 else if ¬ valued c ∧ ¬ c.val = nostr then 2 else 0
noncomputable def deps5 (c : Change) : Int := if ¬ chk2 c.deps = 0 then chk2 c.deps else if ¬ trimmed c.deps ∨ ¬ at2 c.deps c.at_.r = c.seq - 1 then 2 else 0
noncomputable def chk5 (c : Change) : Int :=
  if c.kind < 1 ∨ 5 < c.kind then 1 else if ¬ right c.at_ then 2 else if c.seq < 1 ∨ c.at_.c < c.seq then 1 else if ¬ deps5 c = 0 then deps5 c else if ¬ nodeOk c ∨ ¬ placeOk c then 2 else words5 c
/-! ### logs -/
noncomputable def findAt (l : List Change) (s : Stamp) : Int := fidx l.length fun j => eqs (nth l j).at_ s
noncomputable def ownAt (l : List Change) (r q : Int) : Int := fidx l.length fun j => (nth l j).at_.r = r ∧ (nth l j).seq = q
abbrev within (c : Change) (known : List Int) : Prop := c.seq ≤ at2 known c.at_.r
def lastC (l : List Change) : Int := l.foldl (fun n c => max n c.at_.c) 0
theorem lastC_snoc (l : List Change) (c : Change) : lastC (l ++ [c]) = max (lastC l) c.at_.c := by simp [lastC]
end Go.Sl

/- Plain words: clocks without the zeros at their ends. No program in sight. -/
namespace Go.Sl
def trim (c : List Int) : List Int := (c.reverse.dropWhile (· == 0)).reverse
theorem trim_nil : trim [] = [] := rfl
theorem trim_last (a : List Int) {x : Int} (hx : ¬ x = 0) : trim (a ++ [x]) = a ++ [x] := by
  simp [trim, List.dropWhile, hx]
theorem trim_zero (a : List Int) : trim (a ++ [0]) = trim a := by simp [trim, List.dropWhile]
theorem trim_zeros (a : List Int) : ∀ k : Nat, trim (a ++ List.replicate k 0) = trim a
  | 0 => by simp
  | k + 1 => by
    rw [List.replicate_succ', ← List.append_assoc, trim_zero, trim_zeros a k]
theorem zs_snoc {c : List Int} {n : Int} (hz : ∀ j : Int, n ≤ j → j < c.length → nth c j = 0) (h : nth c (n - 1) = 0) : ∀ j : Int, n - 1 ≤ j → j < c.length → nth c j = 0 := fun j h0 h1 => by
  by_cases he : j = n - 1
  · rw [he]; exact h
  · exact hz j (by omega) h1
theorem sub0 (c : List Int) (n : Int) : sub c 0 n = tk c n := by simp [sub, tk]
theorem trim_tk {c : List Int} {n : Int} (h0 : 0 ≤ n) (h1 : n ≤ c.length) (hl : n = 0 ∨ ¬ nth c (n - 1) = 0) : trim (tk c n) = tk c n := by
  rcases hl with rfl | hl
  · rw [tk_zero]; rfl
  · by_cases hn : n = 0
    · rw [hn, tk_zero]; rfl
    · have := tk_snoc (l := c) (i := n - 1) (by omega) (by omega)
      rw [show n - 1 + 1 = n by omega] at this
      rw [this, trim_last _ hl]
theorem trim_eq {c : List Int} {n : Int} (h0 : 0 ≤ n) (h1 : n ≤ c.length) (hz : ∀ j : Int, n ≤ j → j < c.length → nth c j = 0) (hl : n = 0 ∨ ¬ nth c (n - 1) = 0) : trim c = [] ++ sub c 0 n := by
  rw [List.nil_append, sub0, ← trim_tk h0 h1 hl]
  have hc : c = tk c n ++ List.replicate (c.length - n.toNat) 0 := by
    conv => lhs; rw [← List.take_append_drop n.toNat c]
    congr 1
    refine List.ext_getElem (by simp) fun j h2 h3 => ?_
    simp only [List.getElem_drop, List.getElem_replicate]
    have h4 : n.toNat + j < c.length := by simp at h2; omega
    have := hz (n.toNat + j : Nat) (by omega) (by omega)
    rw [nth_get c _ (by omega)] at this
    simpa only [Int.toNat_natCast] using this
  conv => lhs; rw [hc]
  rw [trim_zeros]
theorem trim_len_iff (c : List Int) : (trim c).length = c.length ↔ trimmed c := by
  rcases List.eq_nil_or_concat c with rfl | ⟨a, x, rfl⟩
  · simp [trim, trimmed]
  · rw [List.concat_eq_append]
    have hn : nth (a ++ [x]) (((a ++ [x]).length : Int) - 1) = x := by
      rw [nth_append_right (by simp)]
      simp [nth]
    by_cases hx : x = 0
    · subst hx
      have h1 : (trim (a ++ [0])).length ≤ a.length := by
        rw [trim_zero]
        simp only [trim, List.length_reverse]
        have := (List.dropWhile_sublist (· == (0 : Int)) (l := a.reverse)).length_le
        simpa using this
      constructor
      · intro h; simp at h; omega
      · intro h
        rcases h with h | h
        · simp at h
        · exact absurd hn h
    · rw [trim_last a hx]
      exact ⟨fun _ => .inr (by rw [hn]; exact hx), fun _ => rfl⟩
/-- So far: what was laid, and the zeros that were held back. -/
theorem held_zero {c a : List Int} {i z : Int} (h0 : 0 ≤ i) (h1 : i < c.length) (hz0 : 0 ≤ z) (ha : a ++ List.replicate z.toNat 0 = tk c i) (hc : nth c i = 0) : a ++ List.replicate (z + 1).toNat 0 = tk c (i + 1) := by
  rw [tk_snoc h0 h1, hc, ← ha, show (z + 1).toNat = z.toNat + 1 by omega, List.replicate_succ', List.append_assoc]
theorem held_give {b a : List Int} {z : Int} (hz0 : 0 < z) (ha : a ++ List.replicate z.toNat 0 = b) : a ++ [0] ++ List.replicate (z - 1).toNat 0 = b := by
  rw [← ha, show z.toNat = (z - 1).toNat + 1 by omega, List.replicate_succ]; simp
theorem held_none {b a : List Int} {z : Int} (hz0 : ¬ 0 < z) (ha : a ++ List.replicate z.toNat 0 = b) : a = b := by
  rw [← ha, show z.toNat = 0 by omega]; simp
section
variable {c : Change}
theorem chk5_1 (h : c.kind < 1 ∨ 5 < c.kind) : chk5 c = 1 := by rw [chk5, if_pos h]
theorem chk5_2 (h1 : ¬ (c.kind < 1 ∨ 5 < c.kind)) (h : ¬ right c.at_) : chk5 c = 2 := by rw [chk5, if_neg h1, if_pos h]
theorem chk5_3 (h1 : ¬ (c.kind < 1 ∨ 5 < c.kind)) (h2 : right c.at_) (h : c.seq < 1 ∨ c.at_.c < c.seq) : chk5 c = 1 := by rw [chk5, if_neg h1, if_neg (fun hh => hh h2), if_pos h]
theorem chk5_4 (h1 : ¬ (c.kind < 1 ∨ 5 < c.kind)) (h2 : right c.at_) (h3 : ¬ (c.seq < 1 ∨ c.at_.c < c.seq)) (h : ¬ deps5 c = 0) : chk5 c = deps5 c := by rw [chk5, if_neg h1, if_neg (fun hh => hh h2), if_neg h3, if_pos h]
theorem chk5_5 (h1 : ¬ (c.kind < 1 ∨ 5 < c.kind)) (h2 : right c.at_) (h3 : ¬ (c.seq < 1 ∨ c.at_.c < c.seq)) (h4 : deps5 c = 0) (h : ¬ nodeOk c ∨ ¬ placeOk c) : chk5 c = 2 := by rw [chk5, if_neg h1, if_neg (fun hh => hh h2), if_neg h3, if_neg (fun hh => hh h4), if_pos h]
theorem chk5_6 (h1 : ¬ (c.kind < 1 ∨ 5 < c.kind)) (h2 : right c.at_) (h3 : ¬ (c.seq < 1 ∨ c.at_.c < c.seq)) (h4 : deps5 c = 0) (h5 : nodeOk c) (h6 : placeOk c) : chk5 c = words5 c := by
  rw [chk5, if_neg h1, if_neg (fun hh => hh h2), if_neg h3, if_neg (fun hh => hh h4), if_neg (fun hh => hh.elim (fun h => h h5) fun h => h h6)]
theorem deps5_1 (h : ¬ chk2 c.deps = 0) : deps5 c = chk2 c.deps := by rw [deps5, if_pos h]
theorem deps5_2 (h1 : chk2 c.deps = 0) (h : ¬ trimmed c.deps ∨ ¬ at2 c.deps c.at_.r = c.seq - 1) : deps5 c = 2 := by rw [deps5, if_neg (fun hh => hh h1), if_pos h]
theorem deps5_0 (h1 : chk2 c.deps = 0) (h2 : trimmed c.deps) (h : at2 c.deps c.at_.r = c.seq - 1) : deps5 c = 0 := by rw [deps5, if_neg (fun hh => hh h1), if_neg (fun hh => hh.elim (fun hh => hh h2) fun hh => hh h)]
theorem chk5_4R (h1 : ¬ (c.kind < 1 ∨ 5 < c.kind)) (h2 : right c.at_) (h3 : ¬ (c.seq < 1 ∨ c.at_.c < c.seq)) (h : ¬ chk2 c.deps = 0) : chk5 c = chk2 c.deps := by
  rw [chk5_4 h1 h2 h3 (by rw [deps5_1 h]; exact h), deps5_1 h]
theorem chk5_5R (h1 : ¬ (c.kind < 1 ∨ 5 < c.kind)) (h2 : right c.at_) (h3 : ¬ (c.seq < 1 ∨ c.at_.c < c.seq)) (h4 : chk2 c.deps = 0) (h : ¬ ((trim c.deps).length : Int) = c.deps.length ∨ ¬ at2 c.deps c.at_.r = c.seq - 1 ∨ ¬ placedR c) : chk5 c = 2 := by
  by_cases ht : trimmed c.deps
  · by_cases ha : at2 c.deps c.at_.r = c.seq - 1
    · refine chk5_5 h1 h2 h3 (deps5_0 h4 ht ha) ?_
      have hp : ¬ placedR c := by
        rcases h with h | h | h
        · exact absurd (by have := (trim_len_iff c.deps).2 ht; omega) h
        · exact absurd ha h
        · exact h
      by_cases hn : nodeOk c
      · exact .inr fun hl => hp ((placed_iff (by omega)).2 ⟨hn, hl⟩)
      · exact .inl hn
    · have hd := deps5_2 h4 (.inr ha)
      rw [chk5_4 h1 h2 h3 (by rw [hd]; decide), hd]
  · have hd := deps5_2 h4 (.inl ht)
    rw [chk5_4 h1 h2 h3 (by rw [hd]; decide), hd]
theorem chk5_6R (h1 : ¬ (c.kind < 1 ∨ 5 < c.kind)) (h2 : right c.at_) (h3 : ¬ (c.seq < 1 ∨ c.at_.c < c.seq)) (h4 : chk2 c.deps = 0) (h5 : ((trim c.deps).length : Int) = c.deps.length) (h6 : at2 c.deps c.at_.r = c.seq - 1) (h7 : placedR c) : chk5 c = words5 c :=
  chk5_6 h1 h2 h3 (deps5_0 h4 ((trim_len_iff c.deps).1 (by omega)) h6) ((placed_iff (by omega)).1 h7).1 ((placed_iff (by omega)).1 h7).2
end
end Go.Sl

/- Plain words: lists into which something is put at its place. No program in sight. -/
namespace Go.Sl
section
variable {α : Type}
/-- x ahead of the first y of which p says so. -/
def insBy (p : α → Bool) (l : List α) (x : α) : List α := l.takeWhile (fun y => !p y) ++ x :: l.dropWhile (fun y => !p y)
variable {p : α → Bool} {l a : List α} {x y : α}
theorem tw_all : ∀ {l : List α}, (∀ y ∈ l, p y = false) → l.takeWhile (fun y => !p y) = l ∧ l.dropWhile (fun y => !p y) = []
  | [], _ => by simp
  | z :: r, h => by
    have h1 := h z List.mem_cons_self
    have h2 := tw_all (l := r) fun y hy => h y (List.mem_cons_of_mem _ hy)
    simp [List.takeWhile, List.dropWhile, h1, h2.1, h2.2]
theorem tw_app : ∀ {l : List α} (r : List α), (∀ y ∈ l, p y = false) → (l ++ r).takeWhile (fun y => !p y) = l ++ r.takeWhile (fun y => !p y) ∧ (l ++ r).dropWhile (fun y => !p y) = r.dropWhile (fun y => !p y)
  | [], r, _ => by simp
  | z :: l, r, h => by
    have h1 := h z List.mem_cons_self
    have h2 := tw_app (l := l) r fun y hy => h y (List.mem_cons_of_mem _ hy)
    simp [List.takeWhile, List.dropWhile, h1, h2.1, h2.2]
theorem insBy_none (h : ∀ y ∈ l, p y = false) : insBy p l x = l ++ [x] := by
  obtain ⟨h1, h2⟩ := tw_all h
  rw [insBy, h1, h2]
theorem insBy_first (h : ∀ y ∈ a, p y = false) (hy : p y = true) : insBy p (a ++ [y]) x = a ++ [x] ++ [y] := by
  obtain ⟨h1, h2⟩ := tw_app [y] h
  rw [insBy, h1, h2]
  simp [List.takeWhile, List.dropWhile, hy]
theorem insBy_more (h : ∃ y ∈ a, p y = true) : insBy p (a ++ [y]) x = insBy p a x ++ [y] := by
  induction a with
  | nil => obtain ⟨y, hy, _⟩ := h; cases hy
  | cons z r ih =>
    by_cases hz : p z = true
    · simp [insBy, List.takeWhile, List.dropWhile, hz]
    · have hz' : p z = false := by simpa using hz
      have hr : ∃ y ∈ r, p y = true := by
        obtain ⟨y, hy, hp⟩ := h
        rcases List.mem_cons.1 hy with rfl | hy
        · exact absurd hp hz
        · exact ⟨y, hy, hp⟩
      have := ih hr
      simp only [insBy, List.cons_append, List.takeWhile, List.dropWhile, hz'] at this ⊢
      simpa using this
theorem insBy_len : (insBy p l x).length = l.length + 1 := by
  have := congrArg List.length (List.takeWhile_append_dropWhile (p := fun y => !p y) (l := l))
  rw [List.length_append] at this
  simp only [insBy, List.length_append, List.length_cons]
  omega
theorem mem_insBy {z : α} : z ∈ insBy p l x ↔ z = x ∨ z ∈ l := by
  have h : z ∈ l ↔ z ∈ l.takeWhile (fun y => !p y) ∨ z ∈ l.dropWhile (fun y => !p y) := by
    conv => lhs; rw [← List.takeWhile_append_dropWhile (p := fun y => !p y) (l := l)]
    exact List.mem_append
  rw [h]
  simp only [insBy, List.mem_append, List.mem_cons]
  grind
end
/-- So far as it was gone through: has x been laid, and what stands there. -/
def PutInv {α : Type} [Inhabited α] (p : α → Bool) (l : List α) (x : α) (i : Int) (done : Bool) (out : List α) : Prop :=
  if done = true then out = insBy p (tk l i) x ∧ ∃ y ∈ tk l i, p y = true else out = tk l i ∧ ∀ y ∈ tk l i, p y = false
section
variable {α : Type} [Inhabited α] {p : α → Bool} {l out : List α} {x : α} {i : Int} {done : Bool}
theorem PutInv.zero : PutInv p l x 0 false [] := by simp [PutInv, tk_zero]
theorem PutInv.put (h : PutInv p l x i done out) (hd : done = false) (h0 : 0 ≤ i) (h1 : i < l.length) (hp : p (nth l i) = true) : PutInv p l x (i + 1) true (out ++ [x] ++ [nth l i]) := by
  subst hd
  simp only [PutInv] at h
  obtain ⟨rfl, h2⟩ := h
  simp only [PutInv, if_true, tk_snoc h0 h1]
  exact ⟨(insBy_first h2 hp).symm, nth l i, by simp, hp⟩
theorem PutInv.on (h : PutInv p l x i done out) (hp : done = false → p (nth l i) = false) (h0 : 0 ≤ i) (h1 : i < l.length) : PutInv p l x (i + 1) done (out ++ [nth l i]) := by
  cases done with
  | true =>
    simp only [PutInv, if_true] at h ⊢
    obtain ⟨rfl, h2⟩ := h
    rw [tk_snoc h0 h1]
    refine ⟨(insBy_more h2).symm, ?_⟩
    obtain ⟨y, hy, hpy⟩ := h2
    exact ⟨y, by simp [hy], hpy⟩
  | false =>
    simp only [PutInv, Bool.false_eq_true, if_false] at h ⊢
    obtain ⟨rfl, h2⟩ := h
    rw [tk_snoc h0 h1]
    refine ⟨rfl, fun y hy => ?_⟩
    rcases List.mem_append.1 hy with hy | hy
    · exact h2 y hy
    · simp at hy; rw [hy]; exact hp rfl
theorem PutInv.len (h : PutInv p l x i done out) (h0 : 0 ≤ i) (h1 : i ≤ l.length) : (out.length : Int) ≤ i + 1 := by
  have ht := tk_len h0 h1
  cases done with
  | true =>
    simp only [PutInv, if_true] at h
    rw [h.1, insBy_len]; omega
  | false =>
    simp only [PutInv, Bool.false_eq_true, if_false] at h
    rw [h.1]; omega
theorem PutInv.end_ (h : PutInv p l x i done out) (hi : (l.length : Int) ≤ i) : (if done = true then out else out ++ [x]) = insBy p l x := by
  cases done with
  | true =>
    simp only [PutInv, if_true] at h ⊢
    rw [h.1, tk_full hi]
  | false =>
    simp only [PutInv, Bool.false_eq_true, if_false] at h ⊢
    rw [h.1, tk_full hi]
    rw [tk_full hi] at h
    exact (insBy_none h.2).symm
end
def put1 (l : List Stamp) (s : Stamp) : List Stamp := if s ∈ l then l else insBy (fun y => decide (less s y)) l s
def putC (l : List Change) (c : Change) : List Change := insBy (fun y => decide (less c.at_ y.at_)) l c
def nstep (c : Change) (out : List Stamp) (s : Stamp) : List Stamp := if right s ∧ ¬ eqs s c.at_ then put1 out s else out
def names5 (c : Change) : List Stamp := [c.node, c.par, c.aft].foldl (nstep c) []
theorem put1_len (l : List Stamp) (s : Stamp) : (put1 l s).length ≤ l.length + 1 := by
  unfold put1
  split
  · omega
  · rw [insBy_len]; exact Nat.le_refl _
theorem nstep_yes {c : Change} {out : List Stamp} {s : Stamp} (h1 : right s) (h2 : ¬ eqs s c.at_) : nstep c out s = put1 out s := if_pos ⟨h1, h2⟩
theorem nstep_no1 {c : Change} {out : List Stamp} {s : Stamp} (h1 : ¬ right s) : nstep c out s = out := if_neg fun h => h1 h.1
theorem nstep_no2 {c : Change} {out : List Stamp} {s : Stamp} (h2 : eqs s c.at_) : nstep c out s = out := if_neg fun h => h.2 h2
theorem fold_snoc {α β : Type} [Inhabited α] {f : β → α → β} {b x : β} {l : List α} {i : Int} (h0 : 0 ≤ i) (h1 : i < l.length) (h : x = (tk l i).foldl f b) : (tk l (i + 1)).foldl f b = f x (nth l i) := by
  rw [tk_snoc h0 h1, List.foldl_append, ← h]; rfl
end Go.Sl
namespace Go.Sl
/-- One change more is counted. -/
def cstep (out : List Int) (c : Change) : List Int := if 0 ≤ c.at_.r ∧ c.at_.r < out.length then out.set c.at_.r.toNat (nth out c.at_.r + 1) else out
def counts (l : List Change) : List Int := l.foldl cstep (List.replicate 64 0)
def clockR (l : List Change) : List Int := trim (counts l)
theorem cstep_len (out : List Int) (c : Change) : (cstep out c).length = out.length := by
  unfold cstep; split <;> simp
theorem cstep_yes {out : List Int} {c : Change} (h0 : 0 ≤ c.at_.r) (h1 : c.at_.r < out.length) : cstep out c = out.set c.at_.r.toNat (nth out c.at_.r + 1) := if_pos ⟨h0, h1⟩
theorem cstep_no {out : List Int} {c : Change} (h : ¬ (0 ≤ c.at_.r ∧ c.at_.r < out.length)) : cstep out c = out := if_neg h
theorem cstep_le {out : List Int} {c : Change} {i : Int} (h : ∀ x ∈ out, 0 ≤ x ∧ x ≤ i) : ∀ x ∈ cstep out c, 0 ≤ x ∧ x ≤ i + 1 := by
  intro x hx
  unfold cstep at hx
  split at hx
  · rename_i hc
    rcases List.mem_or_eq_of_mem_set hx with hx | rfl
    · have := h x hx; omega
    · have := h _ (nth_mem hc.1 hc.2); omega
  · have := h x hx; omega
end Go.Sl
namespace Go.Sl
theorem fidx_lt {n : Int} {p : Int → Prop} (hn : 0 ≤ n) : -1 ≤ fidx n p ∧ fidx n p < n := by
  rcases fidx_cases n p with ⟨h, _⟩ | ⟨h1, h2, _⟩ <;> omega
theorem findAt_lt (l : List Change) (s : Stamp) : -1 ≤ findAt l s ∧ findAt l s < l.length := fidx_lt (by omega)
theorem ownAt_lt (l : List Change) (r q : Int) : -1 ≤ ownAt l r q ∧ ownAt l r q < l.length := fidx_lt (by omega)
abbrev depOk (l : List Change) (c : Change) (r : Int) : Prop := nth c.deps r = 0 ∨ 0 ≤ ownAt l r (nth c.deps r) ∧ less (nth l (ownAt l r (nth c.deps r))).at_ c.at_
abbrev nameIn (l : List Change) (c : Change) (s : Stamp) : Prop := 0 ≤ findAt l s ∧ within (nth l (findAt l s)) c.deps
def behindOk (l : List Change) (c : Change) : Prop := Up c.deps.length (depOk l c) ∧ Up (names5 c).length fun k => nameIn l c (nth (names5 c) k)
noncomputable instance (l : List Change) (c : Change) : Decidable (behindOk l c) := Classical.propDecidable _
noncomputable def whyR (l : List Change) (room : Int) (c : Change) : Int :=
  if ¬ chk5 c = 0 then chk5 c else if 0 ≤ findAt l c.at_ ∧ nth l (findAt l c.at_) = c then 5 else if 0 ≤ findAt l c.at_ ∨ 0 ≤ ownAt l c.at_.r c.seq then 7 else
  if ¬ c.seq = at2 (clockR l) c.at_.r + 1 ∨ ¬ under c.deps (clockR l) then 4 else if ¬ behindOk l c then 2 else if room ≤ l.length then 6 else 0
section
variable {l : List Change} {room : Int} {c : Change}
theorem why_1 (h : ¬ chk5 c = 0) : whyR l room c = chk5 c := by rw [whyR, if_pos h]
theorem why_2 (h1 : chk5 c = 0) (h : 0 ≤ findAt l c.at_ ∧ nth l (findAt l c.at_) = c) : whyR l room c = 5 := by rw [whyR, if_neg (fun hh => hh h1), if_pos h]
theorem why_3 (h1 : chk5 c = 0) (h2 : ¬ (0 ≤ findAt l c.at_ ∧ nth l (findAt l c.at_) = c)) (h : 0 ≤ findAt l c.at_ ∨ 0 ≤ ownAt l c.at_.r c.seq) : whyR l room c = 7 := by rw [whyR, if_neg (fun hh => hh h1), if_neg h2, if_pos h]
theorem why_4 (h1 : chk5 c = 0) (h3 : ¬ (0 ≤ findAt l c.at_ ∨ 0 ≤ ownAt l c.at_.r c.seq)) (h : ¬ c.seq = at2 (clockR l) c.at_.r + 1 ∨ ¬ under c.deps (clockR l)) : whyR l room c = 4 := by
  rw [whyR, if_neg (fun hh => hh h1), if_neg (fun hh => h3 (.inl hh.1)), if_neg h3, if_pos h]
theorem why_5 (h1 : chk5 c = 0) (h3 : ¬ (0 ≤ findAt l c.at_ ∨ 0 ≤ ownAt l c.at_.r c.seq)) (h4 : c.seq = at2 (clockR l) c.at_.r + 1) (h5 : under c.deps (clockR l)) (h : ¬ behindOk l c) : whyR l room c = 2 := by
  rw [whyR, if_neg (fun hh => hh h1), if_neg (fun hh => h3 (.inl hh.1)), if_neg h3, if_neg (fun hh => hh.elim (fun h => h h4) fun h => h h5), if_pos h]
theorem why_6 (h1 : chk5 c = 0) (h3 : ¬ (0 ≤ findAt l c.at_ ∨ 0 ≤ ownAt l c.at_.r c.seq)) (h4 : c.seq = at2 (clockR l) c.at_.r + 1) (h5 : under c.deps (clockR l)) (h6 : behindOk l c) (h : room ≤ l.length) : whyR l room c = 6 := by
  rw [whyR, if_neg (fun hh => hh h1), if_neg (fun hh => h3 (.inl hh.1)), if_neg h3, if_neg (fun hh => hh.elim (fun h => h h4) fun h => h h5), if_neg (fun hh => hh h6), if_pos h]
theorem why_0 (h1 : chk5 c = 0) (h3 : ¬ (0 ≤ findAt l c.at_ ∨ 0 ≤ ownAt l c.at_.r c.seq)) (h4 : c.seq = at2 (clockR l) c.at_.r + 1) (h5 : under c.deps (clockR l)) (h6 : behindOk l c) (h : ¬ room ≤ l.length) : whyR l room c = 0 := by
  rw [whyR, if_neg (fun hh => hh h1), if_neg (fun hh => h3 (.inl hh.1)), if_neg h3, if_neg (fun hh => hh.elim (fun h => h h4) fun h => h h5), if_neg (fun hh => hh h6), if_neg h]
end
end Go.Sl
namespace Go.Sl
theorem names5_len (c : Change) : (names5 c).length ≤ 3 := by
  have key : ∀ out s, (nstep c out s).length ≤ out.length + 1 := fun out s => by
    unfold nstep; split
    · exact put1_len _ _
    · omega
  have h1 := key [] c.node
  have h2 := key (nstep c [] c.node) c.par
  have h3 := key (nstep c (nstep c [] c.node) c.par) c.aft
  simp only [names5, List.foldl_cons, List.foldl_nil]
  simp at h1
  omega
end Go.Sl
namespace Go.Sl
theorem cfold_le : ∀ (l : List Change) (out : List Int) (i : Int), (∀ x ∈ out, 0 ≤ x ∧ x ≤ i) → ∀ x ∈ l.foldl cstep out, 0 ≤ x ∧ x ≤ i + l.length
  | [], out, i, h => fun x hx => by have := h x hx; simp; omega
  | c :: r, out, i, h => fun x hx => by
    have := cfold_le r (cstep out c) (i + 1) (cstep_le h) x hx
    simp only [List.length_cons]
    omega
theorem trim_mem {a : List Int} {x : Int} (h : x ∈ trim a) : x ∈ a := by
  have h1 : x ∈ a.reverse.dropWhile (· == (0 : Int)) := by simpa [trim] using h
  have := (List.dropWhile_sublist (· == (0 : Int)) (l := a.reverse)).subset h1
  simpa using this
theorem at2_all {d : List Int} {n : Int} (h : ∀ x ∈ d, 0 ≤ x ∧ x ≤ n) (hn : 0 ≤ n) (r : Int) : 0 ≤ at2 d r ∧ at2 d r ≤ n := by
  by_cases hr : r < 0 ∨ (d.length : Int) ≤ r
  · rw [at2_out hr]; omega
  · rw [at2_in (by omega) (by omega)]; exact h _ (nth_mem (by omega) (by omega))
theorem at2_clock (l : List Change) (r : Int) : 0 ≤ at2 (clockR l) r ∧ at2 (clockR l) r ≤ l.length :=
  at2_all (fun x hx => by
    have := cfold_le l (List.replicate 64 0) 0 (fun y hy => by have := List.eq_of_mem_replicate hy; omega) x (trim_mem hx)
    omega) (by omega) r
end Go.Sl
namespace Go.Sl
def lackR (l : List Change) (known : List Int) : List Change := l.filter fun c => !decide (within c known)
def sinceE (known : List Int) (most : Int) : Int := if ¬ chk2 known = 0 then chk2 known else if most < 1 then 1 else 0
def sinceL (l : List Change) (known : List Int) (most : Int) : List Change := if ¬ chk2 known = 0 ∨ most < 1 then [] else tk (lackR l known) most
abbrev sinceM (l : List Change) (known : List Int) (most : Int) : Prop := chk2 known = 0 ∧ ¬ most < 1 ∧ most < (lackR l known).length
theorem lackR_len (l : List Change) (known : List Int) : (lackR l known).length ≤ l.length := List.length_filter_le _ _
end Go.Sl
namespace Go.Sl
theorem subC (c : List Change) (n : Int) : sub c 0 n = tk c n := by simp [sub, tk]
end Go.Sl
namespace Go.Sl
theorem two_zero {a b : List Int} (h : (if ¬ chk2 a = 0 then chk2 a else chk2 b) = 0) : chk2 a = 0 ∧ chk2 b = 0 := by
  split at h
  · exact absurd h (by assumption)
  · rename_i hh; exact ⟨Classical.not_not.1 hh, h⟩
theorem chk2_all {c : List Int} (h : chk2 c = 0) : ∀ n ∈ c, okN n := by
  unfold chk2 at h
  split at h
  · cases h
  · split at h
    · assumption
    · cases h
theorem chk2_le {c : List Int} (h : chk2 c = 0) : c.length ≤ 64 := by
  unfold chk2 at h
  split at h
  · cases h
  · omega
theorem at2_chk {c : List Int} (h : chk2 c = 0) (r : Int) : 0 ≤ at2 c r ∧ at2 c r ≤ 1099511627776 := at2_all (chk2_all h) (by decide) r
def mgo (a b : List Int) (n : Nat) : List Int := (List.range n).map fun r : Nat => max (at2 a r) (at2 b r)
theorem mgo_snoc (a b : List Int) {i : Int} (h0 : 0 ≤ i) : mgo a b (i + 1).toNat = mgo a b i.toNat ++ [max (at2 a i) (at2 b i)] := by
  rw [show (i + 1).toNat = i.toNat + 1 by omega]
  simp only [mgo, List.range_succ, List.map_append, List.map_cons, List.map_nil]
  rw [Int.toNat_of_nonneg h0]
theorem mgo_len (a b : List Int) (n : Nat) : (mgo a b n).length = n := by simp [mgo]
def mergeR (a b : List Int) : List Int := trim (mgo a b 64)
end Go.Sl
namespace Go.Sl
/-- Rising by stamps. -/
def Rising (l : List Change) : Prop := ∀ i j : Int, 0 ≤ i → i < j → j < l.length → less (nth l i).at_ (nth l j).at_
/-- How many are ahead of a stamp. -/
noncomputable def posAt (l : List Change) (s : Stamp) : Int := if fidx l.length (fun j => ¬ less (nth l j).at_ s) = -1 then l.length else fidx l.length (fun j => ¬ less (nth l j).at_ s)
theorem posAt_eq {l : List Change} {s : Stamp} {n : Int} (h0 : 0 ≤ n) (h1 : n ≤ l.length) (hl : Up n fun j => less (nth l j).at_ s) (hg : n < l.length → ¬ less (nth l n).at_ s) : posAt l s = n := by
  have hn : Up n (fun j => ¬ ¬ less (nth l j).at_ s) := hl.mono fun j _ _ h hh => hh h
  unfold posAt
  by_cases hlt : n < l.length
  · rw [fidx_hit h0 hlt (hg hlt) hn, if_neg (by omega)]
  · rw [fidx_none (hn.full (by omega)), if_pos rfl]; omega
theorem found_yes {l : List Change} {s : Stamp} {n : Int} (h0 : 0 ≤ n) (h1 : n < l.length) (he : (nth l n).at_ = s) : 0 ≤ findAt l s := by
  rcases fidx_cases l.length (fun j => eqs (nth l j).at_ s) with ⟨h, hu⟩ | ⟨h, _⟩
  · exact absurd (eqs_iff.1 he) (hu n h0 h1)
  · exact h
theorem found_no {l : List Change} {s : Stamp} {n : Int} (hr : Rising l) (h0 : 0 ≤ n) (hl : Up n fun j => less (nth l j).at_ s) (hg : n < l.length → ¬ less (nth l n).at_ s) (hne : n < l.length → ¬ (nth l n).at_ = s) : ¬ 0 ≤ findAt l s := by
  intro h
  rcases fidx_cases l.length (fun j => eqs (nth l j).at_ s) with ⟨h2, hu⟩ | ⟨h1, h2, h3, _⟩
  · have : findAt l s = -1 := h2
    omega
  · generalize fidx l.length (fun j => eqs (nth l j).at_ s) = k at h1 h2 h3
    rcases Int.lt_trichotomy k n with hk | hk | hk
    · have := hl k h1 hk; simp only at this; omega
    · subst hk; exact hne h2 (eqs_iff.2 h3)
    · have h4 := hr n k h0 hk h2
      have h5 := hg (by omega)
      have h6 := hne (by omega)
      rw [eqs_iff] at h6
      omega
end Go.Sl
namespace Go.Sl
theorem lo_up {l : List Change} {s : Stamp} {i h : Int} (hr : Rising l) (hlo : Up i fun q => less (nth l q).at_ s) (h0 : 0 ≤ i) (h1 : i ≤ h) (h2 : h < l.length) (h3 : h + 1 = h + 1) (hh : less (nth l h).at_ s) : Up (h + 1) fun q => less (nth l q).at_ s := fun q hq0 hq1 => by
  by_cases hq : q = h
  · rw [hq]; exact hh
  · have := hr q h hq0 (by omega) h2
    omega
theorem hi_up {l : List Change} {s : Stamp} {h : Int} {i : Int} (hr : Rising l) (h0 : 0 ≤ i) (h1 : i ≤ h) (h2 : h < l.length) (hh : ¬ less (nth l h).at_ s) : ∀ q : Int, h ≤ q → q < l.length → ¬ less (nth l q).at_ s := fun q hq0 hq1 => by
  by_cases hq : q = h
  · rw [hq]; exact hh
  · have := hr h q (by omega) (by omega) hq1
    omega
end Go.Sl

/- Plain words: a log as it may be, what its rows say, and why a change may not be added, told by the rows. No program in sight. -/
namespace Go.Sl
section
variable {p q : Int → Prop} {n i : Int}
theorem fidx_pos : 0 ≤ fidx n p ↔ ∃ j, 0 ≤ j ∧ j < n ∧ p j := by
  rcases fidx_cases n p with ⟨h, hu⟩ | ⟨h1, h2, h3, _⟩
  · constructor
    · intro h0; omega
    · rintro ⟨j, h0, h1, hp⟩; exact absurd hp (hu j h0 h1)
  · exact ⟨fun _ => ⟨_, h1, h2, h3⟩, fun _ => h1⟩
theorem fidx_at (h : 0 ≤ fidx n p) : fidx n p < n ∧ p (fidx n p) := by
  rcases fidx_cases n p with ⟨h1, _⟩ | ⟨h1, h2, h3, _⟩
  · omega
  · exact ⟨h2, h3⟩
end
section
variable {l : List Change} {s : Stamp} {r q : Int} {c : Change}
theorem findAt_pos : 0 ≤ findAt l s ↔ ∃ c ∈ l, c.at_ = s := by
  rw [findAt, fidx_pos]
  constructor
  · rintro ⟨j, h0, h1, h⟩; exact ⟨nth l j, nth_mem h0 h1, eqs_iff.2 h⟩
  · rintro ⟨c, hc, rfl⟩
    obtain ⟨j, h0, h1, rfl⟩ := mem_nth.1 hc
    exact ⟨j, h0, h1, eqs_iff.1 rfl⟩
theorem findAt_at (h : 0 ≤ findAt l s) : findAt l s < l.length ∧ (nth l (findAt l s)).at_ = s := by
  have := fidx_at h
  exact ⟨this.1, eqs_iff.2 this.2⟩
theorem ownAt_pos : 0 ≤ ownAt l r q ↔ ∃ c ∈ l, c.at_.r = r ∧ c.seq = q := by
  rw [ownAt, fidx_pos]
  constructor
  · rintro ⟨j, h0, h1, h⟩; exact ⟨nth l j, nth_mem h0 h1, h⟩
  · rintro ⟨c, hc, h⟩
    obtain ⟨j, h0, h1, rfl⟩ := mem_nth.1 hc
    exact ⟨j, h0, h1, h⟩
theorem ownAt_at (h : 0 ≤ ownAt l r q) : ownAt l r q < l.length ∧ (nth l (ownAt l r q)).at_.r = r ∧ (nth l (ownAt l r q)).seq = q := fidx_at h
end
/-- A replica's changes. -/
def mine (l : List Change) (r : Int) : List Change := l.filter fun c => decide (c.at_.r = r)
/-- .. their stamps. -/
def rowS (l : List Change) (r : Int) : List Stamp := (mine l r).map (·.at_)
theorem rowS_len (l : List Change) (r : Int) : (rowS l r).length = (mine l r).length := by simp [rowS]
theorem mem_mine {l : List Change} {r : Int} {c : Change} : c ∈ mine l r ↔ c ∈ l ∧ c.at_.r = r := by simp [mine]
theorem mine_le (l : List Change) (r : Int) : (mine l r).length ≤ l.length := List.length_filter_le _ _
/-- A log as it may be. -/
structure Good (l : List Change) : Prop where
  rise : Rising l
  ok : ∀ c ∈ l, chk5 c = 0
  seqs : ∀ (r : Int) (j : Nat) (h : j < (mine l r).length), ((mine l r)[j]).seq = (j : Int) + 1
theorem Good.nil : Good [] := ⟨fun i j h0 h1 h2 => by simp at h2; omega, fun c hc => by simp at hc, fun r j h => by simp [mine] at h⟩
theorem rising_iff {l : List Change} : Rising l ↔ l.Pairwise fun x y => less x.at_ y.at_ := by
  rw [List.pairwise_iff_getElem]
  constructor
  · intro h i j hi hj hij
    have := h i j (by omega) (by omega) (by omega)
    rwa [nth_get l i (by simpa using hi), nth_get l j (by simpa using hj)] at this
  · intro h i j h0 hij hj
    have := h i.toNat j.toNat (by omega) (by omega) (by omega)
    rwa [← nth_get l i (by omega), ← nth_get l j (by omega)] at this
theorem chk5_ok {c : Change} (h : chk5 c = 0) : (1 ≤ c.kind ∧ c.kind ≤ 5) ∧ right c.at_ ∧ 1 ≤ c.seq ∧ c.seq ≤ c.at_.c ∧ deps5 c = 0 ∧ nodeOk c ∧ placeOk c ∧ words5 c = 0 := by
  unfold chk5 at h
  split at h
  · cases h
  split at h
  · cases h
  split at h
  · cases h
  split at h
  · exact absurd h (by assumption)
  split at h
  · cases h
  rename_i h1 h2 h3 h4 h5
  have h4' : deps5 c = 0 := Classical.not_not.1 h4
  refine ⟨by omega, Classical.not_not.1 h2, by omega, by omega, h4', Classical.byContradiction fun hn => h5 (.inl hn), Classical.byContradiction fun hn => h5 (.inr hn), h⟩
theorem deps5_ok {c : Change} (h : deps5 c = 0) : chk2 c.deps = 0 ∧ trimmed c.deps ∧ at2 c.deps c.at_.r = c.seq - 1 := by
  unfold deps5 at h
  split at h
  · exact absurd h (by assumption)
  split at h
  · cases h
  rename_i h1 h2
  exact ⟨Classical.not_not.1 h1, Classical.byContradiction fun hn => h2 (.inl hn), Classical.byContradiction fun hn => h2 (.inr hn)⟩
/-! ### what the clock says -/
theorem counts_snoc (l : List Change) (c : Change) : counts (l ++ [c]) = cstep (counts l) c := by simp [counts]
theorem counts_len (l : List Change) : (counts l).length = 64 := by
  have key : ∀ (l : List Change) (o : List Int), (l.foldl cstep o).length = o.length := by
    intro l
    induction l with
    | nil => intro o; rfl
    | cons c r ih => intro o; rw [List.foldl_cons, ih, cstep_len]
  rw [counts, key]; simp
theorem nth_set {xs : List Int} {i j u : Int} (h0 : 0 ≤ i) (hj : 0 ≤ j) (h1 : i < xs.length) : nth (xs.set i.toNat u) j = if j = i then u else nth xs j := by
  simp only [nth, List.getD_eq_getElem?_getD, List.getElem?_set]
  by_cases h : j = i
  · subst h
    have : j.toNat < xs.length := by omega
    simp [this]
  · have : ¬ i.toNat = j.toNat := by omega
    simp [h, this]
theorem foldl_mine (r : Int) (h0 : 0 ≤ r) : ∀ (l : List Change) (o : List Int), r < o.length → nth (l.foldl cstep o) r = nth o r + (mine l r).length := by
  intro l
  induction l with
  | nil => intro o _; simp [mine]
  | cons c t ih =>
    intro o ho
    rw [List.foldl_cons, ih _ (by rw [cstep_len]; exact ho)]
    by_cases hc : c.at_.r = r
    · have h1 : nth (cstep o c) r = nth o r + 1 := by
        rw [cstep_yes (by omega) (by omega), nth_set (by omega) h0 (by omega), if_pos hc.symm, hc]
      rw [h1]
      simp [mine, List.filter_cons, hc]; omega
    · have h1 : nth (cstep o c) r = nth o r := by
        by_cases hy : 0 ≤ c.at_.r ∧ c.at_.r < o.length
        · rw [cstep_yes hy.1 hy.2, nth_set hy.1 h0 hy.2, if_neg (fun h => hc h.symm)]
        · rw [cstep_no hy]
      rw [h1]
      simp [mine, List.filter_cons, hc]
theorem nth_counts (l : List Change) {r : Int} (h0 : 0 ≤ r) (h1 : r < 64) : nth (counts l) r = (mine l r).length := by
  have h := foldl_mine r h0 l (List.replicate 64 0) (by simp; omega)
  rw [counts, h]
  have : nth (List.replicate 64 (0 : Int)) r = 0 := by
    rw [nth_get _ _ (by rw [List.length_replicate]; omega), List.getElem_replicate]
  omega
theorem trim_pre (d : List Int) : ∃ k : Nat, d = trim d ++ List.replicate k 0 := by
  have key : ∀ n : Nat, ∀ d : List Int, d.length = n → ∃ k : Nat, d = trim d ++ List.replicate k 0 := by
    intro n
    induction n with
    | zero => intro d hd; rw [List.eq_nil_of_length_eq_zero hd]; exact ⟨0, by simp [trim]⟩
    | succ n ih =>
      intro d hd
      rcases List.eq_nil_or_concat d with rfl | ⟨a, x, rfl⟩
      · simp at hd
      · rw [List.concat_eq_append] at hd ⊢
        by_cases hx : x = 0
        · subst hx
          obtain ⟨k, hk⟩ := ih a (by simpa using hd)
          refine ⟨k + 1, ?_⟩
          rw [trim_zero, List.replicate_succ', ← List.append_assoc, ← hk]
        · exact ⟨0, by rw [trim_last a hx]; simp⟩
  exact key _ d rfl
theorem at2_trim (d : List Int) (r : Int) : at2 (trim d) r = at2 d r := by
  obtain ⟨k, hk⟩ := trim_pre d
  generalize trim d = t at *
  subst hk
  by_cases h1 : r < 0
  · rw [at2_out (.inl h1), at2_out (.inl h1)]
  · by_cases h2 : r < t.length
    · rw [at2_in (by omega) h2, at2_in (by omega) (by simp; omega), nth_append_left (by omega) h2]
    · rw [at2_out (by omega)]
      by_cases h3 : r < (t ++ List.replicate k 0).length
      · rw [at2_in (by omega) h3, nth_append_right (by omega)]
        simp only [List.length_append, List.length_replicate] at h3
        rw [nth_get _ _ (by rw [List.length_replicate]; omega), List.getElem_replicate]
      · rw [at2_out (by omega)]
theorem Good.clock {l : List Change} (hg : Good l) (r : Int) : at2 (clockR l) r = (mine l r).length := by
  rw [clockR, at2_trim]
  by_cases h : 0 ≤ r ∧ r < 64
  · rw [at2_in h.1 (by rw [counts_len]; exact h.2), nth_counts l h.1 h.2]
  · rw [at2_out (by rw [counts_len]; omega)]
    have : mine l r = [] := by
      refine List.eq_nil_iff_forall_not_mem.2 fun c hc => ?_
      have hc2 := mem_mine.1 hc
      have := (chk5_ok (hg.ok c hc2.1)).2.1
      omega
    rw [this]; rfl
theorem Good.own {l : List Change} (hg : Good l) {r q : Int} : 0 ≤ ownAt l r q ↔ 1 ≤ q ∧ q ≤ (rowS l r).length := by
  rw [ownAt_pos, rowS_len]
  constructor
  · rintro ⟨c, hc, hr, rfl⟩
    obtain ⟨j, hj, he⟩ := List.getElem_of_mem (mem_mine.2 ⟨hc, hr⟩)
    have := hg.seqs r j hj
    rw [he] at this
    omega
  · rintro ⟨h1, h2⟩
    have hj : (q - 1).toNat < (mine l r).length := by omega
    have hm := mem_mine.1 (List.getElem_mem hj)
    exact ⟨_, hm.1, hm.2, by rw [hg.seqs r _ hj]; omega⟩
theorem Good.own_at {l : List Change} (hg : Good l) {r q : Int} (h1 : 1 ≤ q) (h2 : q ≤ (rowS l r).length) : (nth l (ownAt l r q)).at_ = nth (rowS l r) (q - 1) := by
  obtain ⟨hl, hr, hs⟩ := ownAt_at (hg.own.2 ⟨h1, h2⟩)
  have h0 := hg.own.2 ⟨h1, h2⟩
  obtain ⟨j, hj, he⟩ := List.getElem_of_mem (mem_mine.2 ⟨nth_mem h0 hl, hr⟩)
  have := hg.seqs r j hj
  rw [he, hs] at this
  have hjq : j = (q - 1).toNat := by omega
  rw [nth_get (rowS l r) _ (by omega)]
  simp only [rowS, List.getElem_map]
  subst hjq
  rw [he]
/-! ### why a change may not be added, by the rows -/
noncomputable def knownP (l : List Change) (c : Change) : Int := if 0 ≤ findAt l c.at_ then (if nth l (findAt l c.at_) = c then 5 else 7) else if c.seq ≤ (rowS l c.at_.r).length then 7 else 0
abbrev depP (l : List Change) (c : Change) (r : Int) : Prop := ¬ 0 < nth c.deps r ∨ less (nth (rowS l r) (nth c.deps r - 1)) c.at_
abbrev nameP (l : List Change) (c : Change) (s : Stamp) : Prop := 0 ≤ findAt l s ∧ (nth l (findAt l s)).seq ≤ at2 c.deps s.r
noncomputable def readyP (l : List Change) (c : Change) : Int :=
  if ¬ c.seq = (rowS l c.at_.r).length + 1 then 4 else if ¬ Up c.deps.length (fun r => nth c.deps r ≤ (rowS l r).length) then 4 else if ¬ Up c.deps.length (depP l c) then 2 else
  if ¬ Up (names5 c).length (fun k => nameP l c (nth (names5 c) k)) then 2 else 0
theorem Good.why {l : List Change} (hg : Good l) {c : Change} {room : Int} (hc : chk5 c = 0) : whyR l room c = if ¬ knownP l c = 0 then knownP l c else if ¬ readyP l c = 0 then readyP l c else if room ≤ l.length then 6 else 0 := by
  obtain ⟨_, hr, hs1, hs2, hd, _⟩ := chk5_ok hc
  obtain ⟨hd1, _, hd3⟩ := deps5_ok hd
  have hdn : ∀ r : Int, 0 ≤ r → r < c.deps.length → 0 ≤ nth c.deps r := fun r h0 h1 => (chk2_all hd1 _ (nth_mem h0 h1)).1
  by_cases h1 : 0 ≤ findAt l c.at_
  · by_cases h2 : nth l (findAt l c.at_) = c
    · rw [why_2 hc ⟨h1, h2⟩]; simp [knownP, h1, h2]
    · rw [why_3 hc (fun h => h2 h.2) (.inl h1)]; simp [knownP, h1, h2]
  by_cases h3 : c.seq ≤ (rowS l c.at_.r).length
  · rw [why_3 hc (fun h => h1 h.1) (.inr (hg.own.2 ⟨hs1, h3⟩))]; simp [knownP, h1, h3]
  have hk : knownP l c = 0 := by simp [knownP, h1, h3]
  have h13 : ¬ (0 ≤ findAt l c.at_ ∨ 0 ≤ ownAt l c.at_.r c.seq) := fun h => h.elim h1 fun h => h3 (hg.own.1 h).2
  rw [if_neg (by rw [hk]; simp)]
  rcases Classical.em (¬ c.seq = (rowS l c.at_.r).length + 1) with h4 | h4
  · rw [why_4 hc h13 (.inl (by rw [hg.clock, ← rowS_len]; exact h4))]; simp [readyP, h4]
  have h4 := Classical.not_not.1 h4
  have h4' : c.seq = at2 (clockR l) c.at_.r + 1 := by rw [hg.clock, ← rowS_len]; exact h4
  have hu : under c.deps (clockR l) ↔ Up c.deps.length (fun r => nth c.deps r ≤ (rowS l r).length) := by
    unfold under Up
    simp only [hg.clock, rowS_len]
  rcases Classical.em (¬ Up c.deps.length (fun r => nth c.deps r ≤ (rowS l r).length)) with h5 | h5
  · rw [why_4 hc h13 (.inr (fun h => h5 (hu.1 h)))]; simp [readyP, h4, h5]
  have h5 := Classical.not_not.1 h5
  have hb : behindOk l c ↔ Up c.deps.length (depP l c) ∧ Up (names5 c).length (fun k => nameP l c (nth (names5 c) k)) := by
    have e1 : ∀ r : Int, 0 ≤ r → r < c.deps.length → (depOk l c r ↔ depP l c r) := fun r h0 hlt => by
      have a1 := hdn r h0 hlt
      have a2 := h5 r h0 hlt
      simp only [depOk, depP]
      by_cases hz : nth c.deps r = 0
      · simp [hz]
      · have b1 : 1 ≤ nth c.deps r := by omega
        simp only at a2
        have b2 := hg.own.2 ⟨b1, a2⟩
        have b3 := hg.own_at b1 a2
        rw [b3]
        constructor
        · rintro (h | ⟨_, h⟩)
          · exact absurd h hz
          · exact .inr h
        · rintro (h | h)
          · omega
          · exact .inr ⟨b2, h⟩
    have e2 : ∀ s, nameIn l c s ↔ nameP l c s := fun s => by
      simp only [nameIn, nameP, within]
      constructor
      · rintro ⟨h0, h⟩; rw [(findAt_at h0).2] at h; exact ⟨h0, h⟩
      · rintro ⟨h0, h⟩; refine ⟨h0, ?_⟩; rw [(findAt_at h0).2]; exact h
    unfold behindOk Up
    constructor
    · rintro ⟨ha, hb⟩; exact ⟨fun j h0 h1 => (e1 j h0 h1).1 (ha j h0 h1), fun j h0 h1 => (e2 _).1 (hb j h0 h1)⟩
    · rintro ⟨ha, hb⟩; exact ⟨fun j h0 h1 => (e1 j h0 h1).2 (ha j h0 h1), fun j h0 h1 => (e2 _).2 (hb j h0 h1)⟩
  rcases Classical.em (¬ behindOk l c) with h6 | h6
  · rw [why_5 hc h13 h4' (hu.2 h5) h6]
    rw [hb] at h6
    by_cases h7 : Up c.deps.length (depP l c)
    · have h8 : ¬ Up (names5 c).length (fun k => nameP l c (nth (names5 c) k)) := fun h => h6 ⟨h7, h⟩
      have : readyP l c = 2 := by unfold readyP; rw [if_neg (by simp [h4]), if_neg (by simp [h5]), if_neg (by simp [h7]), if_pos h8]
      simp [this]
    · have : readyP l c = 2 := by unfold readyP; rw [if_neg (by simp [h4]), if_neg (by simp [h5]), if_pos h7]
      simp [this]
  have h6 := Classical.not_not.1 h6
  have h7 := hb.1 h6
  have hre : readyP l c = 0 := by unfold readyP; rw [if_neg (by simp [h4]), if_neg (by simp [h5]), if_neg (by simp [h7.1]), if_neg (by simp [h7.2])]
  rw [if_neg (by rw [hre]; simp)]
  by_cases h8 : room ≤ l.length
  · rw [why_6 hc h13 h4' (hu.2 h5) h6 h8, if_pos h8]
  · rw [why_0 hc h13 h4' (hu.2 h5) h6 h8, if_neg h8]
/-- What no reason stands against. -/
theorem why_zero {l : List Change} {room : Int} {c : Change} (h : whyR l room c = 0) : chk5 c = 0 ∧ ¬ 0 ≤ findAt l c.at_ ∧ ¬ 0 ≤ ownAt l c.at_.r c.seq ∧ c.seq = at2 (clockR l) c.at_.r + 1 ∧ under c.deps (clockR l) ∧ behindOk l c ∧ ¬ room ≤ l.length := by
  unfold whyR at h
  split at h
  · exact absurd h (by assumption)
  split at h
  · cases h
  split at h
  · cases h
  split at h
  · cases h
  split at h
  · cases h
  split at h
  · cases h
  rename_i h1 h2 h3 h4 h5 h6
  exact ⟨Classical.not_not.1 h1, fun h => h3 (.inl h), fun h => h3 (.inr h), Classical.byContradiction fun h => h4 (.inl h), Classical.byContradiction fun h => h4 (.inr h), Classical.not_not.1 h5, h6⟩
theorem tw_mem {α : Type} {p : α → Bool} : ∀ {l : List α} {y : α}, y ∈ l.takeWhile p → p y = true
  | [], y, h => by simp at h
  | z :: r, y, h => by
    by_cases hz : p z = true
    · simp only [List.takeWhile, hz, List.mem_cons] at h
      rcases h with rfl | h
      · exact hz
      · exact tw_mem h
    · simp [List.takeWhile, hz] at h
theorem dw_head {α : Type} {p : α → Bool} : ∀ {l : List α} {z : α} {t : List α}, l.dropWhile p = z :: t → p z = false
  | [], z, t, h => by simp at h
  | x :: r, z, t, h => by
    by_cases hx : p x = true
    · simp only [List.dropWhile, hx] at h
      exact dw_head h
    · simp only [List.dropWhile, Bool.eq_false_iff.2 hx, List.cons.injEq] at h
      rw [← h.1]; simpa using hx
theorem putC_split {l : List Change} (hr : Rising l) (c : Change) : ∃ a b, l = a ++ b ∧ putC l c = a ++ c :: b ∧ (∀ y ∈ a, ¬ less c.at_ y.at_) ∧ (∀ y ∈ b, less c.at_ y.at_) := by
  refine ⟨l.takeWhile (fun y => !decide (less c.at_ y.at_)), l.dropWhile (fun y => !decide (less c.at_ y.at_)), (List.takeWhile_append_dropWhile ..).symm, rfl, ?_, ?_⟩
  · intro y hy
    have h1 := tw_mem hy
    exact fun hl => by rw [decide_eq_true hl] at h1; cases h1
  · have hp := rising_iff.1 hr
    generalize hd : l.dropWhile (fun y => !decide (less c.at_ y.at_)) = d
    have hpd : d.Pairwise fun x y => less x.at_ y.at_ := hd ▸ hp.sublist (List.dropWhile_sublist _)
    cases d with
    | nil => intro y hy; cases hy
    | cons z t =>
      have hz : less c.at_ z.at_ := by
        have h1 := dw_head hd
        exact Classical.byContradiction fun hn => by rw [decide_eq_false hn] at h1; cases h1
      intro y hy
      rcases List.mem_cons.1 hy with rfl | hy
      · exact hz
      · have := (List.pairwise_cons.1 hpd).1 y hy
        omega
end Go.Sl

/- Plain words: what a row has behind the one of two that are alike is struck; a log that has grown. No program in sight. -/
namespace Go.Sl
section
variable {xs ys : List Stamp} {k i j : Int} {s : Stamp}
theorem dup_mem (h0 : 1 ≤ k) (h1 : k < xs.length) (he : eqs (nth xs k) (nth xs (k - 1))) (s : Stamp) : s ∈ tk xs k ↔ s ∈ tk xs (k + 1) := by
  rw [tk_snoc (by omega) h1, List.mem_append, List.mem_singleton]
  constructor
  · exact .inl
  · rintro (h | h)
    · exact h
    · have h2 := tk_snoc (l := xs) (i := k - 1) (by omega) (by omega)
      rw [show k - 1 + 1 = k by omega] at h2
      rw [h2, h, eqs_iff.2 he]
      simp
theorem nth_setS {v : Stamp} {q : Int} (h0 : 0 ≤ j) (hq : j < q) : nth (ys.set j.toNat v) q = nth ys q := by
  simp only [nth, List.getD_eq_getElem?_getD, List.getElem?_set]
  have : ¬ j.toNat = q.toNat := by omega
  simp [this]
theorem tk_set {v : Stamp} (h0 : 0 ≤ j) (h1 : j < ys.length) : tk (ys.set j.toNat v) (j + 1) = tk ys j ++ [v] := by
  have h2 := tk_snoc (l := ys.set j.toNat v) (i := j) h0 (by rw [List.length_set]; exact h1)
  have h3 : nth (ys.set j.toNat v) j = v := by
    rw [nth_get _ _ (by rw [List.length_set]; omega)]; simp
  have h4 : tk (ys.set j.toNat v) j = tk ys j := by
    simp only [tk]
    rw [List.take_set_of_le (Nat.le_refl _)]
  rw [h2, h3, h4]
theorem put_mem {v x : Stamp} (h0 : 0 ≤ j) (h1 : j < ys.length) (hi : 0 ≤ i) (h2 : i < xs.length) (hm : ∀ s, s ∈ tk ys j ↔ s ∈ tk xs i) (hv : v = nth xs i) (s : Stamp) : s ∈ tk (ys.set j.toNat v) (j + 1) ↔ s ∈ tk xs (i + 1) := by
  rw [tk_set h0 h1, tk_snoc hi h2, List.mem_append, List.mem_append, hm s, hv]
theorem put_mem2 (h0 : 0 ≤ j) (h1 : j + 1 ≤ k + i) (hl : ys.length = xs.length) (h2 : k + i < xs.length) (hm : ∀ s, s ∈ tk ys j ↔ s ∈ tk xs (k + i)) (hs : ∀ q : Int, k + i - 1 ≤ q → q < xs.length → nth ys q = nth xs q) (s : Stamp) : s ∈ tk (ys.set j.toNat (nth ys (k + i))) (j + 1) ↔ s ∈ tk xs (k + (i + 1)) := by
  rw [show k + (i + 1) = k + i + 1 by omega]
  exact put_mem (x := s) h0 (by omega) (by omega) (by omega) hm (hs _ (by omega) (by omega)) s
theorem skip_mem (h1 : 1 ≤ k + i) (h2 : k + i < xs.length) (hm : ∀ s, s ∈ tk ys j ↔ s ∈ tk xs (k + i)) (hs : ∀ q : Int, k + i - 1 ≤ q → q < xs.length → nth ys q = nth xs q) (he : eqs (nth ys (k + i)) (nth ys (k + (i - 1)))) (s : Stamp) : s ∈ tk ys j ↔ s ∈ tk xs (k + (i + 1)) := by
  rw [show k + (i - 1) = k + i - 1 by omega, hs _ (by omega) (by omega), hs _ (by omega) (by omega)] at he
  rw [hm s, show k + (i + 1) = k + i + 1 by omega]
  exact dup_mem (by omega) h2 he s
theorem tk_sub {l : List Stamp} {i : Int} (h : s ∈ tk l i) : s ∈ l := List.mem_of_mem_take h
end
/-- The stamps that a change names. -/
abbrev isName (c : Change) (s : Stamp) : Prop := right s ∧ ¬ eqs s c.at_
def nameL (c : Change) (l : List Stamp) : List Stamp := l.filter fun s => decide (isName c s)
theorem mem_put1 {l : List Stamp} {x s : Stamp} : s ∈ put1 l x ↔ s = x ∨ s ∈ l := by
  unfold put1
  split
  · rename_i h
    constructor
    · exact .inr
    · rintro (rfl | h2)
      · exact h
      · exact h2
  · exact mem_insBy
theorem mem_nfold {c : Change} {s : Stamp} : ∀ (l out : List Stamp), s ∈ l.foldl (nstep c) out ↔ s ∈ nameL c l ∨ s ∈ out
  | [], out => by simp [nameL]
  | x :: r, out => by
    rw [List.foldl_cons, mem_nfold r]
    by_cases h : isName c x
    · rw [nstep_yes h.1 h.2, mem_put1]
      simp only [nameL, List.filter_cons, decide_eq_true h, if_true, List.mem_cons]
      grind
    · have : nstep c out x = out := if_neg h
      rw [this]
      simp only [nameL, List.filter_cons, decide_eq_false h]
      simp
theorem mem_names5 {c : Change} {s : Stamp} : s ∈ names5 c ↔ s ∈ nameL c [c.node, c.par, c.aft] := by
  rw [names5, mem_nfold]; simp
theorem nameL_yes {c : Change} {l : List Stamp} {i : Int} (h0 : 0 ≤ i) (h1 : i < l.length) (h : isName c (nth l i)) : nameL c (tk l (i + 1)) = nameL c (tk l i) ++ [nth l i] := by
  rw [tk_snoc h0 h1]; simp only [nameL, List.filter_append, List.filter_cons, decide_eq_true h]; simp
theorem nameL_no {c : Change} {l : List Stamp} {i : Int} (h0 : 0 ≤ i) (h1 : i < l.length) (h : ¬ isName c (nth l i)) : nameL c (tk l (i + 1)) = nameL c (tk l i) := by
  rw [tk_snoc h0 h1]; simp only [nameL, List.filter_append, List.filter_cons, decide_eq_false h]; simp
end Go.Sl

/- A small logic over the fenced walk: a log that is read. -/
namespace Go.Sl
open Go Go.RowKit
/-- A map, wherever the blocks of F lie as in W. -/
def MapAt (W : World) (F : Nat → Prop) (g : Nat) (kv : List (Stamp × Value)) : Prop := ∀ u : World, (∀ b, F b → u.heap[b]? = W.heap[b]?) → ∃ es clock, u.heap[g]? = some (.map es clock) ∧ MapIs es kv
theorem MapAt.mono {W : World} {F F' : Nat → Prop} {g : Nat} {kv : List (Stamp × Value)} (h : MapAt W F g kv) (hF : ∀ b, F b → F' b) : MapAt W F' g kv := fun u hu => h u fun b hb => hu b (hF b hb)
theorem MapAt.at_ {W W' : World} {F : Nat → Prop} {g : Nat} {kv : List (Stamp × Value)} (h : MapAt W F g kv) (hw : ∀ b, F b → W'.heap[b]? = W.heap[b]?) : MapAt W' F g kv := fun u hu => h u fun b hb => (hu b hb).trans (hw b hb)
/-- Where a log's parts lie. -/
structure LogP where
  A : Option Addr
  c : Nat
  gm : Nat
  vs : List Value
  kv : List (Stamp × Value)
/-- The number that a log has of a stamp. -/
noncomputable def seqAt (xs : List Change) (s : Stamp) : Int := if 0 ≤ findAt xs s then (nth xs (findAt xs s)).seq else 0
def KeyOk (kv : List (Stamp × Value)) (xs : List Change) : Prop := ∀ s, aget kv s = if 0 ≤ findAt xs s then some (.agg [.int .i64 (nth xs (findAt xs s)).seq].toArray) else none
def logCells (p : LogP) (room : Int) (n : Nat) : List Value := .int .i64 room :: .slice p.A n p.c :: .map (some p.gm) :: p.vs
/-- A log, read. -/
structure LogR (w : World) (F : Nat → Prop) (g : Nat) (p : LogP) (room : Int) (xs : List Change) : Prop where
  box : BoxAt w F g (logCells p room xs.length)
  all : RdF (tSl tCh) w F [.slice p.A xs.length p.c] xs
  len : p.vs.length = 64
  row : ∀ r : Int, 0 ≤ r → r < 64 → RdF (tSl tSt) w F [nth p.vs r] (rowS xs r)
  map : MapAt w F p.gm p.kv
  key : KeyOk p.kv xs
  good : Good xs
  room : InR room
  le : xs.length ≤ 1073741824
section
variable {w w' W : World} {F F' : Nat → Prop} {g : Nat} {p : LogP} {room : Int} {xs : List Change}
theorem LogR.mono (h : LogR w F g p room xs) (hF : ∀ b, F b → F' b) : LogR w F' g p room xs := ⟨h.box.mono hF, h.all.mono hF, h.len, fun r h0 h1 => (h.row r h0 h1).mono hF, h.map.mono hF, h.key, h.good, h.room, h.le⟩
theorem LogR.at_ (h : LogR w F g p room xs) (hw : ∀ b, F b → w'.heap[b]? = w.heap[b]?) : LogR w' F g p room xs := ⟨h.box.at_ hw, h.all.at_ hw, h.len, fun r h0 h1 => (h.row r h0 h1).at_ hw, h.map.at_ hw, h.key, h.good, h.room, h.le⟩
theorem LogR.kp (h : LogR w (lt_ w) g p room xs) (hk : Kp no w w') : LogR w' (lt_ w') g p room xs := (h.at_ fun b hb => hk.blk b hb id).mono fun b hb => Nat.lt_of_lt_of_le hb hk.size
theorem LogR.rowAt (h : LogR w F g p room xs) (r : Int) (h0 : 0 ≤ r) (h1 : r < 64) : ∃ A c, nth p.vs r = .slice A (rowS xs r).length c ∧ RdF (tSl tSt) w F [.slice A (rowS xs r).length c] (rowS xs r) ∧ (rowS xs r).length ≤ 1073741824 := by
  have hr := h.row r h0 h1
  obtain ⟨A, c, he, _⟩ := hr.slice
  refine ⟨A, c, he, he ▸ hr, ?_⟩
  have := mine_le xs r
  rw [rowS_len]
  exact Nat.le_trans this h.le
theorem LogR.cget (h : LogR w F g p room xs) (r : Int) (h0 : 0 ≤ r) (h1 : r < 64) {n : Nat} : cget (logCells p room n) (3 + r.toNat * 1) = some (nth p.vs r) := by
  rw [cget_eq, Nat.mul_one, Nat.add_comm 3, logCells]
  simp only [List.getElem?_cons_succ]
  have : r.toNat < p.vs.length := by rw [h.len]; omega
  rw [nth_get _ _ this, List.getElem?_eq_getElem this]
theorem rowS_mem {s : Stamp} {r : Int} (h : s ∈ rowS xs r) : ∃ c ∈ xs, c.at_ = s ∧ s.r = r := by
  simp only [rowS, List.mem_map] at h
  obtain ⟨c, hc, rfl⟩ := h
  have := mem_mine.1 hc
  exact ⟨c, this.1, rfl, this.2⟩
end
section
variable {P : Program} {k t e : TypeId} {w w0 : World} {o : Oper} {E : Env} {x y : Operand} {z' : Value} {s : Stamp} {kv : List (Stamp × Value)} {g : Nat} {xs : List Change}
theorem Q_lookAt (K : StKey P k) (hM : ∃ es clock, w.heap[g]? = some (.map es clock) ∧ MapIs es kv) (ht : P.underlying t = some (.map k e)) (hz : ∀ w, (zeroValue e).run P w = .ok z' w) (ho : o.op = .lookup t x y true) (hx : evalE E x = some (.map (some g))) (hy : evalE E y = some (akey s)) :
    Qt P o E w (.tuple #[(aget kv s).getD z', .bool (aget kv s).isSome]) := by
  have hS : St w w [(0, mapL g kv)] := ⟨rfl, rfl, rfl, Nat.le_refl _, fun x hx => by simp at hx; subst hx; exact hM, fun x hx b hb => by
    simp at hx; subst hx
    obtain ⟨es, c, h, _⟩ := hM
    have hb' : b = g := hb
    subst hb'
    exact (Array.getElem?_eq_some_iff.1 h).1, by simp⟩
  exact Q_look (j := 0) true K hS rfl ht hz ho hx hy
/-- A stamp's number, looked up. -/
theorem Q_lookL (K : StKey P k) (hM : ∃ es clock, w.heap[g]? = some (.map es clock) ∧ MapIs es kv) (hk : KeyOk kv xs) (ht : P.underlying t = some (.map k e)) (hz : ∀ w, (zeroValue e).run P w = .ok (.agg #[.int .i64 0]) w) (ho : o.op = .lookup t x y true) (hx : evalE E x = some (.map (some g))) (hy : evalE E y = some (akey s)) :
    Qt P o E w (.tuple #[.agg #[.int .i64 (seqAt xs s)], .bool (decide (0 ≤ findAt xs s))]) := by
  have h := Q_lookAt K hM ht hz ho hx hy
  rw [hk s] at h
  unfold seqAt
  by_cases hf : 0 ≤ findAt xs s
  · simpa [hf] using h
  · simpa [hf] using h
end
end Go.Sl

/- Plain words: what a log's methods answer. No program in sight. -/
namespace Go.Sl
section
variable {l x : List Change} {s : Stamp} {c : Change} {r q : Int}
theorem posAt_le (l : List Change) (s : Stamp) : 0 ≤ posAt l s ∧ posAt l s ≤ l.length := by
  unfold posAt
  have h := fidx_lt (n := (l.length : Int)) (p := fun j => ¬ less (nth l j).at_ s) (by omega)
  split <;> omega
theorem pos_find (hr : Rising l) (s : Stamp) (h : 0 ≤ findAt l s) : posAt l s = findAt l s := by
  obtain ⟨h1, h2⟩ := findAt_at h
  refine posAt_eq h (by omega) (fun j h0 hj => ?_) (fun _ => ?_)
  · have := hr j (findAt l s) h0 hj h1
    rw [h2] at this
    exact this
  · rw [h2]; omega
theorem knownP_5 (h : 0 ≤ findAt l c.at_) (h2 : nth l (findAt l c.at_) = c) : knownP l c = 5 := by rw [knownP, if_pos h, if_pos h2]
theorem knownP_7 (h : 0 ≤ findAt l c.at_) (h2 : ¬ nth l (findAt l c.at_) = c) : knownP l c = 7 := by rw [knownP, if_pos h, if_neg h2]
theorem knownP_7b (h : ¬ 0 ≤ findAt l c.at_) (h2 : c.seq ≤ (rowS l c.at_.r).length) : knownP l c = 7 := by rw [knownP, if_neg h, if_pos h2]
theorem knownP_0 (h : ¬ 0 ≤ findAt l c.at_) (h2 : ¬ c.seq ≤ (rowS l c.at_.r).length) : knownP l c = 0 := by rw [knownP, if_neg h, if_neg h2]
abbrev depLe (l : List Change) (c : Change) (r : Int) : Prop := nth c.deps r ≤ (rowS l r).length
theorem ready_1 (h : ¬ c.seq = (rowS l c.at_.r).length + 1) : readyP l c = 4 := by rw [readyP, if_pos h]
theorem ready_2 (h1 : c.seq = (rowS l c.at_.r).length + 1) (h : ¬ Up c.deps.length (depLe l c)) : readyP l c = 4 := by rw [readyP, if_neg (fun hh => hh h1), if_pos h]
theorem ready_3 (h1 : c.seq = (rowS l c.at_.r).length + 1) (h2 : Up c.deps.length (depLe l c)) (h : ¬ Up c.deps.length (depP l c)) : readyP l c = 2 := by rw [readyP, if_neg (fun hh => hh h1), if_neg (fun hh => hh h2), if_pos h]
theorem ready_4 (h1 : c.seq = (rowS l c.at_.r).length + 1) (h2 : Up c.deps.length (depLe l c)) (h3 : Up c.deps.length (depP l c)) {s : Stamp} (hs : s ∈ names5 c) (h : ¬ nameP l c s) : readyP l c = 2 := by
  rw [readyP, if_neg (fun hh => hh h1), if_neg (fun hh => hh h2), if_neg (fun hh => hh h3), if_pos]
  intro hu
  obtain ⟨j, h0, h4, rfl⟩ := mem_nth.1 hs
  exact h (hu j h0 h4)
theorem ready_0 (h1 : c.seq = (rowS l c.at_.r).length + 1) (h2 : Up c.deps.length (depLe l c)) (h3 : Up c.deps.length (depP l c)) (h : ∀ s ∈ names5 c, nameP l c s) : readyP l c = 0 := by
  rw [readyP, if_neg (fun hh => hh h1), if_neg (fun hh => hh h2), if_neg (fun hh => hh h3), if_neg]
  exact fun hh => hh fun j h0 h4 => h _ (nth_mem h0 h4)
theorem nameP_of (h : 0 ≤ findAt l s) (h2 : ¬ at2 c.deps s.r < seqAt l s) : nameP l c s := ⟨h, by rw [seqAt, if_pos h] at h2; omega⟩
theorem nameP_no1 (h : ¬ 0 ≤ findAt l s) : ¬ nameP l c s := fun hh => h hh.1
theorem nameP_no2 (h2 : at2 c.deps s.r < seqAt l s) : ¬ nameP l c s := fun hh => by rw [seqAt, if_pos hh.1] at h2; have := hh.2; omega
/-! ### the greatest count, the clock -/
theorem last_fold : ∀ (l : List Change) (n : Int), (l.Pairwise fun x y => less x.at_ y.at_) → (∀ c ∈ l, n ≤ c.at_.c) → l ≠ [] → l.foldl (fun n c => max n c.at_.c) n = (nth l ((l.length : Int) - 1)).at_.c
  | [], n, _, _, h => absurd rfl h
  | [c], n, _, hn, _ => by
    have := hn c (by simp)
    simp only [List.foldl_cons, List.foldl_nil, List.length_cons, List.length_nil]
    have h1 : nth [c] 0 = c := nth_one
    rw [show (((0 + 1 : Nat) : Int) - 1) = 0 by omega, h1]; omega
  | c :: d :: t, n, hp, hn, _ => by
    have hp1 := List.pairwise_cons.1 hp
    have h2 : max n c.at_.c = c.at_.c := by have := hn c (by simp); omega
    rw [List.foldl_cons, h2, last_fold (d :: t) c.at_.c hp1.2 (fun e he => by have := hp1.1 e he; omega) (by simp)]
    have h3 := nth_append_right (a := [c]) (b := d :: t) (j := ((c :: d :: t).length : Int) - 1) (by simp; omega)
    simp only [List.singleton_append] at h3
    rw [h3, show ((c :: d :: t).length : Int) - 1 - ([c].length : Int) = ((d :: t).length : Int) - 1 by simp only [List.length_cons, List.length_nil]; omega]
theorem Good.last (hg : Good x) (h : ¬ (x.length : Int) = 0) : lastC x = (nth x ((x.length : Int) - 1)).at_.c := by
  refine last_fold x 0 (rising_iff.1 hg.rise) (fun c hc => ?_) (fun h0 => by rw [h0] at h; simp at h)
  have := (chk5_ok (hg.ok c hc)).2.1
  omega
theorem last_nil (h : (x.length : Int) = 0) : lastC x = 0 := by
  have : x = [] := List.eq_nil_of_length_eq_zero (by omega)
  rw [this]; rfl
def rowsN (x : List Change) (n : Nat) : List Int := (List.range n).map fun r : Nat => ((rowS x r).length : Int)
theorem rowsN_snoc (x : List Change) {i : Int} (h0 : 0 ≤ i) : rowsN x (i + 1).toNat = rowsN x i.toNat ++ [((rowS x i).length : Int)] := by
  rw [show (i + 1).toNat = i.toNat + 1 by omega]
  simp only [rowsN, List.range_succ, List.map_append, List.map_cons, List.map_nil]
  rw [Int.toNat_of_nonneg h0]
theorem rowsN_len (x : List Change) (n : Nat) : (rowsN x n).length = n := by simp [rowsN]
theorem counts_rows (x : List Change) : counts x = rowsN x 64 := by
  refine List.ext_getElem (by rw [counts_len, rowsN_len]) fun i h1 h2 => ?_
  rw [counts_len] at h1
  have h3 := nth_counts x (r := i) (by omega) (by omega)
  rw [nth_get _ _ (by rw [counts_len]; omega)] at h3
  simp only [Int.toNat_natCast] at h3
  rw [h3]
  simp [rowsN, rowS_len]
/-! ### a change that is found -/
def zeroCh : Change := ⟨⟨0, 0⟩, 0, [], 0, ⟨0, 0⟩, ⟨0, 0⟩, ⟨0, 0⟩, nostr, nostr⟩
theorem zeroCh_ok : ChOk zeroCh := ⟨by decide, by decide, by decide, by decide, by decide, by decide, by decide, by decide⟩
noncomputable def findC (x : List Change) (s : Stamp) : Change := if 0 ≤ findAt x s then nth x (findAt x s) else zeroCh
theorem findC_yes (h : 0 ≤ findAt x s) : findC x s = nth x (findAt x s) := if_pos h
theorem findC_no (h : ¬ 0 ≤ findAt x s) : findC x s = zeroCh := if_neg h
noncomputable def ownE (x : List Change) (r q : Int) : Int := if r < 0 ∨ 64 ≤ r then 1 else if q < 1 ∨ (rowS x r).length < q then 4 else 0
noncomputable def ownC (x : List Change) (r q : Int) : Change := if ownE x r q = 0 then findC x (nth (rowS x r) (q - 1)) else zeroCh
theorem ownE_1 (h : r < 0 ∨ 64 ≤ r) : ownE x r q = 1 := if_pos h
theorem ownE_4 (h : ¬ (r < 0 ∨ 64 ≤ r)) (h2 : q < 1 ∨ (rowS x r).length < q) : ownE x r q = 4 := by rw [ownE, if_neg h, if_pos h2]
theorem ownE_0 (h : ¬ (r < 0 ∨ 64 ≤ r)) (h2 : ¬ (q < 1 ∨ (rowS x r).length < q)) : ownE x r q = 0 := by rw [ownE, if_neg h, if_neg h2]
theorem ownC_0 (h : ownE x r q = 0) : ownC x r q = findC x (nth (rowS x r) (q - 1)) := if_pos h
theorem ownC_no (h : ¬ ownE x r q = 0) : ownC x r q = zeroCh := if_neg h
/-- What a log hands over of what somebody lacks. -/
noncomputable def eachL (x : List Change) (known : List Int) : List Change := if chk2 known = 0 then lackR x known else []
theorem eachL_yes {known : List Int} (h : chk2 known = 0) : eachL x known = lackR x known := if_pos h
theorem eachL_no {known : List Int} (h : ¬ chk2 known = 0) : eachL x known = [] := if_neg h
theorem eachL_len (x : List Change) (known : List Int) : (eachL x known).length ≤ x.length := by
  unfold eachL; split
  · exact lackR_len x known
  · simp
theorem Good.each_nil (hg : Good x) : eachL x [] = x := by
  rw [eachL_yes (by rfl), lackR]
  refine List.filter_eq_self.2 fun c hc => ?_
  have h1 := (chk5_ok (hg.ok c hc)).2.2.1
  have h2 : ¬ within c [] := by
    simp only [within, at2_out (c := []) (r := c.at_.r) (by simp; omega)]; omega
  simp [h2]
end
end Go.Sl

/- Plain words: a log that has one change more is a log. No program in sight. -/
namespace Go.Sl
section
variable {l a b : List Change} {c : Change} {room : Int} {r : Int}
/-- All of a replica's are ahead of its next one. -/
theorem Good.before (hg : Good l) (hw : whyR l room c = 0) : ∀ y ∈ mine l c.at_.r, less y.at_ c.at_ := by
  obtain ⟨hc, h1, h2, h3, h4, h5, h6⟩ := why_zero hw
  intro y hy
  obtain ⟨_, hr, hs1, _, hd, _⟩ := chk5_ok hc
  obtain ⟨hd1, _, hd3⟩ := deps5_ok hd
  rw [hg.clock] at h3
  have hn : 0 < (mine l c.at_.r).length := List.length_pos_of_mem hy
  have hr2 : 0 ≤ c.at_.r ∧ c.at_.r < c.deps.length := by
    refine Classical.byContradiction fun hh => ?_
    rw [at2_out (by omega)] at hd3
    omega
  rw [at2_in hr2.1 hr2.2] at hd3
  have hdep := h5.1 c.at_.r hr2.1 hr2.2
  simp only [depOk] at hdep
  rcases hdep with hz | ⟨ho, hl⟩
  · omega
  have hlen : nth c.deps c.at_.r = (rowS l c.at_.r).length := by rw [rowS_len]; omega
  rw [hlen] at ho hl
  have hb := hg.own_at (r := c.at_.r) (q := (rowS l c.at_.r).length) (by rw [rowS_len]; omega) (by omega)
  rw [hb] at hl
  have hp : (mine l c.at_.r).Pairwise (fun x y => less x.at_ y.at_) := (rising_iff.1 hg.rise).sublist List.filter_sublist
  obtain ⟨j, hj, rfl⟩ := List.getElem_of_mem hy
  have hlast : nth (rowS l c.at_.r) (((rowS l c.at_.r).length : Int) - 1) = ((mine l c.at_.r)[(mine l c.at_.r).length - 1]'(by omega)).at_ := by
    rw [nth_get _ _ (by rw [rowS_len]; omega)]
    simp only [rowS, List.getElem_map]
    congr 2
    simp
  rw [hlast] at hl
  by_cases hjl : j = (mine l c.at_.r).length - 1
  · subst hjl; exact hl
  · have := List.pairwise_iff_getElem.1 hp j ((mine l c.at_.r).length - 1) hj (by omega) (by omega)
    omega
theorem filter_none {p : Change → Bool} : (∀ y ∈ l, p y = false) → l.filter p = [] := by
  intro h; rw [List.filter_eq_nil_iff]; intro y hy; rw [h y hy]; decide
theorem Good.mine_put (hg : Good l) (hw : whyR l room c = 0) (r : Int) : mine (putC l c) r = if r = c.at_.r then mine l r ++ [c] else mine l r := by
  obtain ⟨a, b, hl, hp, h1, h2⟩ := putC_split hg.rise c
  have hbf := hg.before hw
  rw [hp]
  by_cases hr : r = c.at_.r
  · subst hr
    have hb : mine b c.at_.r = [] := by
      refine List.eq_nil_iff_forall_not_mem.2 fun y hy => ?_
      obtain ⟨hy1, hy2⟩ := mem_mine.1 hy
      have h3 := hbf y (mem_mine.2 ⟨by rw [hl]; exact List.mem_append_right _ hy1, hy2⟩)
      have h4 := h2 y hy1
      omega
    simp only [if_true]
    have e1 : mine (a ++ c :: b) c.at_.r = mine a c.at_.r ++ (c :: mine b c.at_.r) := by simp [mine, List.filter_append, List.filter_cons]
    have e2 : mine l c.at_.r = mine a c.at_.r ++ mine b c.at_.r := by rw [hl]; simp [mine, List.filter_append]
    rw [e1, e2, hb]; simp
  · rw [if_neg hr, hl]
    have hr' : ¬ c.at_.r = r := fun h => hr h.symm
    simp [mine, List.filter_append, List.filter_cons, hr']
theorem Good.rowS_put (hg : Good l) (hw : whyR l room c = 0) (r : Int) : rowS (putC l c) r = if r = c.at_.r then rowS l r ++ [c.at_] else rowS l r := by
  simp only [rowS, hg.mine_put hw]
  split <;> simp
theorem mem_putC {y : Change} : y ∈ putC l c ↔ y = c ∨ y ∈ l := mem_insBy
theorem putC_len : (putC l c).length = l.length + 1 := insBy_len
theorem Good.put (hg : Good l) (hw : whyR l room c = 0) : Good (putC l c) := by
  obtain ⟨hc, h1, h2, h3, h4, h5, h6⟩ := why_zero hw
  have hne : ∀ y ∈ l, ¬ y.at_ = c.at_ := fun y hy he => h1 (findAt_pos.2 ⟨y, hy, he⟩)
  refine ⟨?_, fun y hy => ?_, fun r j hj => ?_⟩
  · obtain ⟨a, b, hl, hp, ha, hb⟩ := putC_split hg.rise c
    have hpw := rising_iff.1 hg.rise
    rw [hl, List.pairwise_append] at hpw
    rw [rising_iff, hp, List.pairwise_append]
    refine ⟨hpw.1, List.pairwise_cons.2 ⟨hb, hpw.2.1⟩, fun x hx y hy => ?_⟩
    have hxl : x ∈ l := by rw [hl]; exact List.mem_append_left _ hx
    have hx1 := ha x hx
    have hx2 := hne x hxl
    rw [eqs_iff] at hx2
    rcases List.mem_cons.1 hy with rfl | hy
    · omega
    · exact hpw.2.2 x hx y hy
  · rcases mem_putC.1 hy with rfl | hy
    · exact hc
    · exact hg.ok y hy
  · have hm := hg.mine_put hw r
    by_cases hr : r = c.at_.r
    · rw [if_pos hr] at hm
      have hj' : j < (mine l r ++ [c]).length := by rw [← hm]; exact hj
      have e : (mine (putC l c) r)[j] = (mine l r ++ [c])[j] := by congr 1
      rw [e]
      by_cases hlt : j < (mine l r).length
      · rw [List.getElem_append_left hlt]; exact hg.seqs r j hlt
      · have hje : j = (mine l r).length := by simp at hj'; omega
        subst hje
        rw [List.getElem_append_right (Nat.le_refl _)]
        simp only [Nat.sub_self, List.getElem_cons_zero]
        rw [h3, hg.clock, ← hr]
    · rw [if_neg hr] at hm
      have hj' : j < (mine l r).length := by rw [← hm]; exact hj
      have e : (mine (putC l c) r)[j] = (mine l r)[j] := by congr 1
      rw [e]; exact hg.seqs r j hj'
/-- Where a change goes. -/
theorem Good.put_at (hg : Good l) (hw : whyR l room c = 0) : putC l c = l.take (posAt l c.at_).toNat ++ c :: l.drop (posAt l c.at_).toNat := by
  obtain ⟨hc, h1, _⟩ := why_zero hw
  have hne : ∀ y ∈ l, ¬ y.at_ = c.at_ := fun y hy he => h1 (findAt_pos.2 ⟨y, hy, he⟩)
  obtain ⟨a, b, hl, hp, ha, hb⟩ := putC_split hg.rise c
  have hpos : posAt l c.at_ = a.length := by
    refine posAt_eq (by omega) (by rw [hl]; simp; omega) (fun j h0 hj => ?_) (fun hlt => ?_)
    · have hm : nth l j ∈ a := by rw [hl, nth_append_left h0 hj]; exact nth_mem h0 hj
      have hx1 := ha _ hm
      have hll : (j : Int) < l.length := by rw [hl, List.length_append]; omega
      have hx2 := hne (nth l j) (nth_mem h0 hll)
      rw [eqs_iff] at hx2
      omega
    · have hm : nth l a.length ∈ b := by
        rw [hl, nth_append_right (Int.le_refl _)]
        refine nth_mem (by omega) ?_
        rw [hl] at hlt; simp at hlt; omega
      have := hb _ hm
      omega
  rw [hpos, hp]
  simp [hl]
/-! ### the numbers -/
theorem find_put (hf : ¬ 0 ≤ findAt l c.at_) (s : Stamp) : (0 ≤ findAt (putC l c) s ↔ s = c.at_ ∨ 0 ≤ findAt l s) := by
  simp only [findAt_pos, mem_putC]
  constructor
  · rintro ⟨y, rfl | hy, h⟩
    · exact .inl h.symm
    · exact .inr ⟨y, hy, h⟩
  · rintro (rfl | ⟨y, hy, h⟩)
    · exact ⟨c, .inl rfl, rfl⟩
    · exact ⟨y, .inr hy, h⟩
theorem at_uniq (hr : Rising l) {x y : Change} (hx : x ∈ l) (hy : y ∈ l) (h : x.at_ = y.at_) : x = y := by
  obtain ⟨i, h0, h1, rfl⟩ := mem_nth.1 hx
  obtain ⟨j, h2, h3, rfl⟩ := mem_nth.1 hy
  rcases Int.lt_trichotomy i j with h4 | h4 | h4
  · have := hr i j h0 h4 h3; rw [h] at this; omega
  · rw [h4]
  · have := hr j i h2 h4 h1; rw [h] at this; omega
theorem find_mem {s : Stamp} (h : 0 ≤ findAt l s) : nth l (findAt l s) ∈ l := nth_mem h (findAt_at h).1
theorem Good.key_put (hg : Good l) (hw : whyR l room c = 0) {kv : List (Stamp × Value)} (hk : KeyOk kv l) : KeyOk (aput kv c.at_ (.agg [.int .i64 c.seq].toArray)) (putC l c) := by
  obtain ⟨hc, h1, _⟩ := why_zero hw
  have hput : ∀ (kv : List (Stamp × Value)) (s k : Stamp) (v : Value), aget (aput kv s v) k = if k = s then some v else aget kv k := by
    intro kv
    induction kv with
    | nil => intro s k v; simp [aput, aget]
    | cons p t ih =>
      intro s k v
      obtain ⟨k0, u⟩ := p
      simp only [aput]
      by_cases h : s = k0
      · subst h
        simp only [if_true, aget]
        split <;> rfl
      · simp only [h, if_false, aget, ih]
        by_cases h2 : k = k0
        · have : ¬ k = s := fun h3 => h (h3 ▸ h2)
          simp [h2, this]
          intro h4; exact absurd h4 (h2 ▸ this)
        · simp [h2]
  have hg2 := hg.put hw
  intro s
  rw [hput]
  by_cases hs : s = c.at_
  · subst hs
    have hf : 0 ≤ findAt (putC l c) c.at_ := (find_put h1 _).2 (.inl rfl)
    rw [if_pos rfl, if_pos hf]
    have := at_uniq hg2.rise (find_mem hf) (mem_putC.2 (.inl rfl)) (findAt_at hf).2
    rw [this]
  · rw [if_neg hs, hk s]
    by_cases hf : 0 ≤ findAt l s
    · have hf2 : 0 ≤ findAt (putC l c) s := (find_put h1 _).2 (.inr hf)
      rw [if_pos hf, if_pos hf2]
      have := at_uniq hg2.rise (find_mem hf2) (mem_putC.2 (.inr (find_mem hf))) ((findAt_at hf2).2.trans (findAt_at hf).2.symm)
      rw [this]
    · have hf2 : ¬ 0 ≤ findAt (putC l c) s := fun h => ((find_put h1 _).1 h).elim hs hf
      rw [if_neg hf, if_neg hf2]
end
end Go.Sl

/- A small logic over the fenced walk: a log of one's own: its block, its row of changes, its map, its sixty-four rows of stamps. -/
namespace Go.Sl
open Go Go.RowKit
/-- Rows of stamps, but row i. -/
structure RowsOk (i : Nat) (vs : List Value) (ss : List (List Stamp)) (w : World) : Prop where
  len : vs.length = ss.length
  row : ∀ j v s, j ≠ i → vs[j]? = some v → ss[j]? = some s → w.ownsRow 0 23 2 v s.length (flS s)
  sep : ∀ j k v u b, j ≠ i → k ≠ i → j ≠ k → vs[j]? = some v → vs[k]? = some u → v.ownBlock = some b → u.ownBlock = some b → False
theorem ownsRow_st {w w' : World} {e : TypeId} {sz n : Nat} {v : Value} {fl : List Value} (h : w.ownsRow 0 e sz v n fl) (hk : ∀ b, v.ownBlock = some b → w'.heap[b]? = w.heap[b]?) : w'.ownsRow 0 e sz v n fl := (own e sz v n fl).st hk h
def rowsH (i : Nat) (vs : List Value) (ss : List (List Stamp)) : Ent :=
  { fp := fun b => ∃ j v, j ≠ i ∧ vs[j]? = some v ∧ v.ownBlock = some b
    ok := RowsOk i vs ss
    st := fun h hw => ⟨hw.len, fun j v s hj hv hs => ownsRow_st (hw.row j v s hj hv hs) fun b hb => h b ⟨j, v, hj, hv, hb⟩, hw.sep⟩ }
section
variable {w w0 w' : World} {L : Hp} {k : Nat} {vs : List Value} {ss : List (List Stamp)} {i : Nat} {v v' : Value} {s s' : List Stamp}
/-- Row i is taken out. -/
theorem St.rowOut (hS : St w0 w ((k, rowsH 64 vs ss) :: L)) (j : Nat) (hl : vs.length = 64) (hi : i < 64) (hv : vs[i]? = some v) (hs : ss[i]? = some s) : St w0 w ((k, rowsH i vs ss) :: (j, own 23 2 v s.length (flS s)) :: L) := by
  have ho : RowsOk 64 vs ss w := hS.ok _ List.mem_cons_self
  have h64 : ∀ {q : Nat} {u : Value}, vs[q]? = some u → q ≠ 64 := fun h e => by
    have := (List.getElem?_eq_some_iff.1 h).1
    omega
  refine hS.part j ⟨ho.len, fun q u t hq hu ht => ho.row q u t (h64 hu) hu ht, fun a b u x y h1 h2 h3 h4 h5 => ho.sep a b u x y (h64 h4) (h64 h5) h3 h4 h5⟩ (ho.row i v s (by omega) hv hs) ?_ ?_ ?_
  · rintro b ⟨q, u, hq, hu, hb⟩
    exact ⟨q, u, h64 hu, hu, hb⟩
  · exact fun b hb => ⟨i, v, h64 hv, hv, hb⟩
  · rintro b ⟨q, u, hq, hu, hb⟩ hb2
    exact ho.sep q i u v b (h64 hu) (h64 hv) hq hu hv hb hb2
/-- .. and put back, turned. -/
theorem St.rowIn {j : Nat} (hS : St w0 w ((k, rowsH i vs ss) :: (j, own 23 2 v' s'.length (flS s')) :: L)) (hl : vs.length = 64) (hi : i < 64) : St w0 w ((k, rowsH 64 (vs.set i v') (ss.set i s')) :: L) := by
  have ho : RowsOk i vs ss w := hS.ok _ List.mem_cons_self
  have hw : w.ownsRow 0 23 2 v' s'.length (flS s') := hS.ok _ (List.mem_cons_of_mem _ List.mem_cons_self)
  have hd : ∀ b, (∃ j v, j ≠ i ∧ vs[j]? = some v ∧ v.ownBlock = some b) → v'.ownBlock = some b → False := (List.pairwise_cons.1 hS.sep).1 _ List.mem_cons_self
  have hls := ho.len
  refine hS.fuse ⟨by simp [ho.len], fun q u t hq hu ht => ?_, fun q r u x b h1 h2 h3 h4 h5 h6 h7 => ?_⟩ fun b hb => ?_
  · by_cases h : i = q
    · subst h
      rw [List.getElem?_set_self (by omega)] at hu ht
      cases hu; cases ht; exact hw
    · rw [List.getElem?_set_ne h] at hu ht
      exact ho.row q u t (fun e => h e.symm) hu ht
  · by_cases hq : i = q
    · subst hq
      rw [List.getElem?_set_self (by omega)] at h4
      cases h4
      rw [List.getElem?_set_ne h3] at h5
      exact hd b ⟨r, x, fun e => h3 e.symm, h5, h7⟩ h6
    · rw [List.getElem?_set_ne hq] at h4
      by_cases hr : i = r
      · subst hr
        rw [List.getElem?_set_self (by omega)] at h5
        cases h5
        exact hd b ⟨q, u, h3, h4, h6⟩ h7
      · rw [List.getElem?_set_ne hr] at h5
        exact ho.sep q r u x b (fun e => hq e.symm) (fun e => hr e.symm) h3 h4 h5 h6 h7
  · obtain ⟨q, u, hq, hu, hb⟩ := hb
    by_cases h : i = q
    · subst h
      rw [List.getElem?_set_self (by omega)] at hu
      cases hu; exact .inr hb
    · rw [List.getElem?_set_ne h] at hu
      exact .inl ⟨q, u, fun e => h e.symm, hu, hb⟩
theorem St.rebase (hS : St w0 w L) : St w w L := ⟨rfl, rfl, rfl, Nat.le_refl _, hS.ok, hS.lt, hS.sep⟩
/-- Whatever else there is, beside what is told. -/
theorem St.beside {F : Nat → Prop} (hS : St w w L) (hF : ∀ x ∈ L, ∀ b, x.2.fp b → F b) : St w w ((0, fz w fun b => b < w.heap.size ∧ ¬ F b) :: L) :=
  ⟨rfl, rfl, rfl, Nat.le_refl _, fun x hx => by
    rcases List.mem_cons.1 hx with rfl | hx
    · exact fun _ _ => rfl
    · exact hS.ok x hx, fun x hx b hb => by
    rcases List.mem_cons.1 hx with rfl | hx
    · exact hb.1
    · exact hS.lt x hx b hb, List.pairwise_cons.2 ⟨fun x hx b hb hb' => hb.2 (hF x hx b hb'), hS.sep⟩⟩
end
/-! ### A log of one's own -/
def rowsL (xs : List Change) : List (List Stamp) := (List.range 64).map fun r : Nat => rowS xs r
theorem rowsL_get (xs : List Change) {i : Nat} (hi : i < 64) : (rowsL xs)[i]? = some (rowS xs i) := by
  simp [rowsL, hi]
def logL (g : Nat) (p : LogP) (fl : List Value) (W : World) (G : Nat → Prop) (room : Int) (xs : List Change) : Hp :=
  [(1, blkL g (logCells p room xs.length) 117), (2, own 55 13 (.slice p.A xs.length p.c) xs.length fl), (3, fz W G), (4, mapL p.gm p.kv), (5, rowsH 64 p.vs (rowsL xs))]
/-- What of a log is no memory. -/
structure LogF (p : LogP) (fl : List Value) (W : World) (G : Nat → Prop) (room : Int) (xs : List Change) : Prop where
  reps : Reps tCh W G xs fl
  len : p.vs.length = 64
  key : KeyOk p.kv xs
  good : Good xs
  room0 : 0 ≤ room
  roomLe : room ≤ 4096
  le : (xs.length : Int) ≤ room
structure LogO (w : World) (F : Nat → Prop) (g : Nat) (p : LogP) (fl : List Value) (W : World) (G : Nat → Prop) (room : Int) (xs : List Change) : Prop where
  st : St w w (logL g p fl W G room xs)
  fp : ∀ x ∈ logL g p fl W G room xs, ∀ b, x.2.fp b → F b
  lt : ∀ b, F b → b < w.heap.size
  f : LogF p fl W G room xs
def LogAt (w : World) (F : Nat → Prop) (g : Nat) (room : Int) (xs : List Change) : Prop := ∃ p fl W G, LogO w F g p fl W G room xs
section
variable {w w0 w' W : World} {L : Hp} {k g : Nat} {p : LogP} {fl : List Value} {F F' G : Nat → Prop} {room : Int} {xs : List Change}
theorem stOk_of {s : Stamp} (h : right s) : StOk s := ⟨⟨by omega, by omega⟩, ⟨by omega, by omega⟩⟩
theorem Good.stOk (hg : Good xs) {r : Int} : ∀ s ∈ rowS xs r, StOk s := fun s hs => by
  obtain ⟨c, hc, rfl, _⟩ := rowS_mem hs
  exact stOk_of (chk5_ok (hg.ok c hc)).2.1
/-- A log of one's own may be read. -/
theorem LogF.logR (hf : LogF p fl W G room xs) (hS : St w0 w L) (h1 : look L 1 = some (blkL g (logCells p room xs.length) 117)) (h2 : look L 2 = some (own 55 13 (.slice p.A xs.length p.c) xs.length fl)) (h3 : look L 3 = some (fz W G)) (h4 : look L 4 = some (mapL p.gm p.kv)) (h5 : look L 5 = some (rowsH 64 p.vs (rowsL xs))) :
    LogR w (lt_ w) g p room xs := by
  have hle := hf.le
  have hro := hf.roomLe
  refine ⟨fun u hu => ?_, ?_, hf.len, fun r h0 h1 => ?_, fun u hu => ?_, hf.key, hf.good, ⟨by have := hf.room0; omega, by omega⟩, by omega⟩
  · have hb := hS.get h1
    have := CellsAt.of_blk ((hu g (hS.fpLt h1 g rfl)).trans hb)
    simpa using this
  · exact (own_rd (d := tCh) (hS.get h2) rfl hf.reps (by unfold maxL; omega) (hS.get h3)).mono fun b hb => hb.elim (hS.fpLt h3 b) (hS.fpLt h2 b)
  · have ho : RowsOk 64 p.vs (rowsL xs) w := hS.get h5
    have hl : r.toNat < p.vs.length := by rw [hf.len]; omega
    have hv : p.vs[r.toNat]? = some (nth p.vs r) := by rw [nth_get _ _ hl]; exact List.getElem?_eq_getElem hl
    have hs := rowsL_get xs (i := r.toNat) (by omega)
    rw [Int.toNat_of_nonneg h0] at hs
    have hrow := ho.row r.toNat _ _ (by omega) hv hs
    have hm := mine_le xs r
    refine (own_rd (d := tSt) (F := no) (W := w) hrow rfl (flS_reps hf.good.stOk) (by rw [rowS_len]; unfold maxL; omega) (fun _ hb => False.elim hb)).mono fun b hb => hb.elim (fun h => False.elim h) fun h => hS.fpLt h5 b ⟨r.toNat, _, by omega, hv, h⟩
  · obtain ⟨es, clock, h, hm⟩ := hS.get h4
    exact ⟨es, clock, (hu _ (hS.fpLt h4 _ rfl)).trans h, hm⟩
theorem LogO.begin_ (h : LogO w F g p fl W G room xs) : St w w ((0, fz w fun b => b < w.heap.size ∧ ¬ F b) :: logL g p fl W G room xs) := h.st.beside h.fp
/-- What a log's blocks are. -/
def fpAll (L : Hp) : Nat → Prop := fun b => ∃ x ∈ L, x.2.fp b
theorem LogF.close (hf : LogF p fl W G room xs) (hS : St w0 w ((0, fz w0 fun b => b < w0.heap.size ∧ ¬ F b) :: logL g p fl W G room xs)) : ∃ F', (∀ b, F' b → F b ∨ nw w0 w b) ∧ LogAt w F' g room xs := by
  obtain ⟨s1, s2⟩ := List.pairwise_cons.1 hS.sep
  refine ⟨fpAll (logL g p fl W G room xs), ?_, p, fl, W, G, ⟨⟨rfl, rfl, rfl, Nat.le_refl _, fun x hx => hS.ok x (List.mem_cons_of_mem _ hx), fun x hx => hS.lt x (List.mem_cons_of_mem _ hx), s2⟩, fun x hx b hb => ⟨x, hx, hb⟩, ?_, hf⟩⟩
  · rintro b ⟨x, hx, hb⟩
    rcases Nat.lt_or_ge b w0.heap.size with hlt | hge
    · refine .inl (Classical.byContradiction fun hn => s1 x hx b ⟨hlt, hn⟩ hb)
    · exact .inr ⟨hge, hS.lt x (List.mem_cons_of_mem _ hx) b hb⟩
  · rintro b ⟨x, hx, hb⟩
    exact hS.lt x (List.mem_cons_of_mem _ hx) b hb
theorem LogAt.lt (h : LogAt w F g room xs) : ∀ b, F b → b < w.heap.size := by obtain ⟨p, fl, W, G, ho⟩ := h; exact ho.lt
theorem LogAt.stable (h : LogAt w F g room xs) (hk : ∀ b, F b → w'.heap[b]? = w.heap[b]?) : LogAt w' F g room xs := by
  obtain ⟨p, fl, W, G, ho⟩ := h
  have hlt' : ∀ b, F b → b < w'.heap.size := fun b hb => by
    have h1 := ho.lt b hb
    have h2 := hk b hb
    rw [Array.getElem?_eq_getElem h1] at h2
    exact (Array.getElem?_eq_some_iff.1 h2).1
  exact ⟨p, fl, W, G, ⟨⟨rfl, rfl, rfl, Nat.le_refl _, fun x hx => x.2.st (fun b hb => hk b (ho.fp x hx b hb)) (ho.st.ok x hx), fun x hx b hb => hlt' b (ho.fp x hx b hb), ho.st.sep⟩, ho.fp, hlt', ho.f⟩⟩
/-- A log, as an entry. -/
def logE (F : Nat → Prop) (g : Nat) (room : Int) (xs : List Change) : Ent := { fp := F, ok := fun w => LogAt w F g room xs, st := fun h hw => hw.stable h }
theorem LogAt.logR (h : LogAt w F g room xs) : ∃ p, LogR w F g p room xs := by
  obtain ⟨p, fl, W, G, ho⟩ := h
  have hr := ho.f.logR ho.st rfl rfl rfl rfl rfl
  refine ⟨p, ⟨fun u hu => ?_, fun u hu => ?_, hr.len, fun r h0 h1 u hu => ?_, fun u hu => ?_, hr.key, hr.good, hr.room, hr.le⟩⟩
  all_goals
    have hst : LogAt u F g room xs := (show LogAt w F g room xs from ⟨p, fl, W, G, ho⟩).stable hu
    have hlt' : ∀ b, F b → b < u.heap.size := hst.lt
    have hS : St u u (logL g p fl W G room xs) := ⟨rfl, rfl, rfl, Nat.le_refl _, fun x hx => x.2.st (fun b hb => hu b (ho.fp x hx b hb)) (ho.st.ok x hx), fun x hx b hb => hlt' b (ho.fp x hx b hb), ho.st.sep⟩
    have hr2 := ho.f.logR hS rfl rfl rfl rfl rfl
  · exact hr2.box u fun _ _ => rfl
  · exact hr2.all.here
  · exact (hr2.row r h0 h1).here
  · exact hr2.map u fun _ _ => rfl
end
end Go.Sl

/- A small logic over the fenced walk: a row of one's own into which something is put at its place (slices.Insert). -/
namespace Go.Sl
open Go Go.RowKit
section
variable {w0 w : World} {L : Hp} {k g sz n cap : Nat} {fl rest cs es d : List Value} {e : TypeId}
theorem ins_cells {k s : Nat} (hk : k ≤ fl.length) (hr : s ≤ rest.length) (hc : cs.length = s) : putL (putL (fl ++ rest) (k + s) (fl.drop k)) k cs = (fl.take k ++ cs ++ fl.drop k) ++ rest.drop s := by
  have hd : (fl.drop k).length = fl.length - k := List.length_drop
  have l1 : (fl ++ rest).length = fl.length + rest.length := List.length_append
  have e1 : putL (fl ++ rest) (k + s) (fl.drop k) = (fl ++ rest).take (k + s) ++ fl.drop k ++ rest.drop s := by
    rw [putL_eq _ _ _ (by omega)]
    congr 1
    rw [hd, show k + s + (fl.length - k) = fl.length + s by omega, List.drop_append, List.drop_of_length_le (by omega), List.nil_append, Nat.add_sub_cancel_left]
  have l2 : ((fl ++ rest).take (k + s)).length = k + s := by rw [List.length_take]; omega
  have l3 : ((fl ++ rest).take (k + s) ++ fl.drop k ++ rest.drop s).length = k + s + (fl.length - k) + (rest.length - s) := by
    rw [List.length_append, List.length_append, l2, hd, List.length_drop]
  rw [e1, putL_eq _ _ _ (by omega), hc]
  have e2 : ((fl ++ rest).take (k + s) ++ fl.drop k ++ rest.drop s).drop (k + s) = fl.drop k ++ rest.drop s := by
    rw [List.append_assoc, List.drop_append, List.drop_of_length_le (by omega), l2, Nat.sub_self]; simp
  have e3 : ((fl ++ rest).take (k + s) ++ fl.drop k ++ rest.drop s).take k = fl.take k := by
    rw [List.append_assoc, List.take_append_of_le_length (by omega), List.take_take, Nat.min_eq_left (by omega), List.take_append_of_le_length hk]
  rw [e2, e3]
  simp [List.append_assoc]
theorem ins_cells2 {k s : Nat} (hk : es.length = k) (hc : cs.length = s) (hr : s + d.length ≤ rest.length) : putL (putL (es ++ rest) k cs) (k + s) d = (es ++ cs ++ d) ++ rest.drop (s + d.length) := by
  have l1 : (es ++ rest).length = k + rest.length := by rw [List.length_append, hk]
  have e1 : putL (es ++ rest) k cs = es ++ cs ++ rest.drop s := by
    rw [putL_eq _ _ _ (by omega), hc]
    congr 1
    · rw [List.take_append_of_le_length (by omega), List.take_of_length_le (by omega)]
    · rw [List.drop_append, List.drop_of_length_le (by omega), List.nil_append, hk, Nat.add_sub_cancel_left]
  have l2 : (es ++ cs).length = k + s := by rw [List.length_append, hk, hc]
  rw [e1, putL_eq _ _ _ (by rw [List.length_append, l2, List.length_drop]; omega)]
  have e2 : (es ++ cs ++ rest.drop s).take (k + s) = es ++ cs := by rw [List.take_append_of_le_length (by omega), List.take_of_length_le (by omega)]
  have e3 : (es ++ cs ++ rest.drop s).drop (k + s + d.length) = rest.drop (s + d.length) := by
    rw [List.drop_append, List.drop_of_length_le (by omega), List.nil_append, l2, List.drop_drop]; congr 1; omega
  rw [e2, e3]
theorem blkSub (hS : St w0 w L) (k : Nat) (hl : look L k = some (blkL g cs e)) (o m : Nat) : CellsAt w ⟨g, o, none⟩ ((cs.drop o).take m) := by
  have := (CellsAt.of_blk (hS.get hl)).sub o m
  rw [add_g, Nat.zero_add] at this
  simpa using this
theorem ownSub (h : w.ownsRow 0 e sz (.slice (some ⟨g, 0, none⟩) n cap) n fl) (o : Nat) : CellsAt w ⟨g, o, none⟩ (fl.drop o) := by
  have := (own_cells h).sub o (fl.drop o).length
  rw [add_g, Nat.zero_add, List.take_of_length_le (Nat.le_refl _)] at this
  exact this
theorem ownPre (h : w.ownsRow 0 e sz (.slice (some ⟨g, 0, none⟩) n cap) n fl) (m : Nat) : CellsAt w ⟨g, 0, none⟩ (fl.take m) := fun j v hv => by
  rw [List.getElem?_take] at hv
  split at hv
  · exact own_cells h j v hv
  · cases hv
/-- What reads as elements, with one more at its place. -/
theorem Reps.ins {α : Type} {d : Ty α} {W : World} {F : Nat → Prop} {xs : List α} {x : α} (h : Reps d W F xs fl) (hx : RdF d W F es x) (i : Nat) (hi : i ≤ xs.length) : Reps d W F (xs.take i ++ x :: xs.drop i) (fl.take (i * d.sz) ++ es ++ fl.drop (i * d.sz)) := by
  have hp := d.pos
  have hfl := h.1
  have h1 : Reps d W F (xs.take i) (fl.take (i * d.sz)) := by
    refine ⟨?_, fun j y hy => ?_⟩
    · rw [List.length_take, List.length_take, hfl, Nat.min_eq_left hi, Nat.min_eq_left (Nat.mul_le_mul_right _ hi)]
    · rw [List.getElem?_take] at hy
      split at hy
      · rename_i hj
        have := h.2 j y hy
        have hle : j * d.sz + d.sz ≤ i * d.sz := by rw [← Nat.succ_mul]; exact Nat.mul_le_mul_right _ hj
        rw [List.drop_take, List.take_take, Nat.min_eq_left (by omega)]
        exact this
      · cases hy
  have h2 : Reps d W F (xs.drop i) (fl.drop (i * d.sz)) := by
    refine ⟨by rw [List.length_drop, List.length_drop, hfl, Nat.sub_mul], fun j y hy => ?_⟩
    rw [List.getElem?_drop] at hy
    have := h.2 _ y hy
    rw [List.drop_drop, ← Nat.add_mul]
    exact this
  have := (h1.append (Reps.one hx)).append h2
  simpa using this
theorem reps_one {α : Type} {d : Ty α} {W : World} {F : Nat → Prop} {xs : List α} (h : Reps d W F xs fl) : ∀ u ∈ fl, u.oneCell' = true := by
  intro u hu
  obtain ⟨q, hq, rfl⟩ := List.getElem_of_mem hu
  have hlt : q / d.sz < xs.length := by rw [Nat.div_lt_iff_lt_mul d.pos, ← h.1]; exact hq
  have hrd := (h.2 _ _ (List.getElem?_eq_getElem hlt)).here
  have hdm := Nat.div_add_mod q d.sz
  have hml := Nat.mod_lt q d.pos
  refine d.one hrd _ ?_
  have : ((fl.drop (q / d.sz * d.sz)).take d.sz)[q % d.sz]? = some fl[q] := by
    rw [List.getElem?_take, if_pos hml, List.getElem?_drop, Nat.mul_comm, hdm, List.getElem?_eq_getElem hq]
  exact List.mem_of_getElem? this
theorem own_shape (h : w.ownsRow 0 e sz (.slice (some ⟨g, 0, none⟩) n cap) n fl) : w.shape? g = some (e, cap * sz) ∧ cap ≤ maxLen := by
  rcases h.2 with ⟨h1, _⟩ | ⟨g', cap', cur, h1, _, hh, _, hm, hs, _⟩
  · cases h1
  · cases h1
    exact ⟨by simp [World.shape?, hh, hs], hm⟩
theorem blk_shape (h : w.heap[g]? = some (.cells cs.toArray e (0, 0))) : w.shape? g = some (e, cs.length) ∧ ∀ o, w.frozen? ⟨g, o, none⟩ = false := ⟨by simp [World.shape?, h], fun o => by simp [World.frozen?, h]⟩
theorem newOr {Q : Nat → Prop} {ee : Ent} {b : Nat} (hS : St w0 w L) (h0 : look L 0 = some (fz w0 fun b => b < w0.heap.size ∧ ¬ Q b)) (k : Nat) (hk : look L k = some ee) (hne : Nat.beq 0 k = false) (hb : ee.fp b) : Q b ∨ nw w0 w b := by
  rcases Nat.lt_or_ge b w0.heap.size with hlt | hge
  · refine .inl (Classical.byContradiction fun hn => hS.disj h0 hk hne b ⟨hlt, hn⟩ hb)
  · exact .inr ⟨hge, hS.fpLt hk b hb⟩
theorem freshB {e1 ee : Ent} {b : Nat} (hS : St w0 w L) (h0 : look L 0 = some (fz w0 fun b => b < w0.heap.size ∧ ¬ e1.fp b)) (j : Nat) (hj : look L j = some e1) (k : Nat) (hk : look L k = some ee) (hne : Nat.beq 0 k = false) (hjk : Nat.beq j k = false) (hb : ee.fp b) : nw w0 w b :=
  (newOr hS h0 k hk hne hb).elim (fun h => (hS.disj hj hk hjk b h hb).elim) id
end
end Go.Sl

/- A small logic over the fenced walk: a change is put into a log of one's own. -/
namespace Go.Sl
open Go Go.RowKit
section
variable {w w0 w' W Wc : World} {L : Hp} {k g : Nat} {p : LogP} {fl es fl' : List Value} {F N G : Nat → Prop} {room : Int} {xs : List Change} {c : Change} {v v' : Value} {n : Nat}
theorem own_some {e : TypeId} {sz : Nat} (h : w.ownsRow 0 e sz v (n + 1) fl) : ∃ g cap, v = .slice (some ⟨g, 0, none⟩) (n + 1) cap := by
  rcases own_form h with ⟨_, h0⟩ | ⟨g, cap, h1, _⟩
  · omega
  · exact ⟨g, cap, h1⟩
theorem rowsL_getI (xs : List Change) {r : Int} (h0 : 0 ≤ r) (h1 : r < 64) : (rowsL xs)[r.toNat]? = some (rowS xs r) := by
  rw [rowsL_get xs (by omega), Int.toNat_of_nonneg h0]
theorem vs_getI {vs : List Value} (hl : vs.length = 64) {r : Int} (h0 : 0 ≤ r) (h1 : r < 64) : vs[r.toNat]? = some (nth vs r) := by
  rw [nth_get vs r (by omega)]; exact List.getElem?_eq_getElem (by omega)
theorem cgetI (hl : p.vs.length = 64) {r : Int} (h0 : 0 ≤ r) (h1 : r < 64) {m : Nat} : cget (logCells p room m) (3 + r.toNat * 1) = some (nth p.vs r) := by
  rw [cget_eq, Nat.mul_one, Nat.add_comm 3, logCells]
  simp only [List.getElem?_cons_succ]
  exact vs_getI hl h0 h1
theorem logSet (hl : p.vs.length = 64) {r : Int} (h0 : 0 ≤ r) (h1 : r < 64) {m q cp : Nat} {A : Option Addr} : putL (logCells p room m) (3 + r.toNat * 1) (cl (.slice A q cp)) = logCells { p with vs := p.vs.set r.toNat (.slice A q cp) } room m := by
  have hr : r.toNat < p.vs.length := by omega
  rw [Nat.mul_one, Nat.add_comm 3]
  simp only [cl]
  rw [set_list _ _ _ (by simp [logCells]; omega)]
  simp [logCells]
theorem logBle (hl : p.vs.length = 64) {r : Int} (h0 : 0 ≤ r) (h1 : r < 64) {m : Nat} : Nat.ble (3 + r.toNat * 1 + 1) (logCells p room m).length = true := by
  rw [Nat.ble_eq]; simp [logCells]; omega
theorem logBle1 {m : Nat} : Nat.ble (1 + 1) (logCells p room m).length = true := by
  rw [Nat.ble_eq]; simp [logCells]
theorem rowsL_put (hg : Good xs) (hw : whyR xs room c = 0) (h0 : 0 ≤ c.at_.r) (h1 : c.at_.r < 64) : rowsL (putC xs c) = (rowsL xs).set c.at_.r.toNat (rowS xs c.at_.r ++ [c.at_]) := by
  refine List.ext_getElem? fun i => ?_
  by_cases hi : i < 64
  · rw [rowsL_get _ hi, List.getElem?_set]
    have hlen : (rowsL xs).length = 64 := by simp [rowsL]
    by_cases he : c.at_.r.toNat = i
    · rw [if_pos he, if_pos (by omega), hg.rowS_put hw, if_pos (by omega)]
      congr 2
      have : (i : Int) = c.at_.r := by omega
      rw [this]
    · rw [if_neg he, rowsL_get _ hi, hg.rowS_put hw, if_neg (by omega)]
  · rw [List.getElem?_eq_none (by simp [rowsL]; omega), List.getElem?_eq_none (by simp [rowsL]; omega)]
theorem LogF.addDone {gi ci : Nat} {A' : Option Addr} {cp : Nat} {fl2 : List Value} (hf : LogF p fl W G room xs) (hw : whyR xs room c = 0) (h0 : 0 ≤ c.at_.r) (h1 : c.at_.r < 64)
    (hS : St w0 w [(3, fz W G), (61, fz Wc N), (5, rowsH c.at_.r.toNat p.vs (rowsL xs)), (60, own 23 2 (.slice A' ((rowS xs c.at_.r).length + 1) cp) ((rowS xs c.at_.r).length + 1) (flS (rowS xs c.at_.r) ++ stL c.at_)), (0, fz w0 fun b => b < w0.heap.size ∧ ¬ F b),
      (1, blkL g (logCells { p with A := some ⟨gi, 0, none⟩, c := ci, vs := p.vs.set c.at_.r.toNat (.slice A' ((rowS xs c.at_.r).length + 1) cp) } room (xs.length + 1)) 117), (2, own 55 13 (.slice (some ⟨gi, 0, none⟩) (xs.length + 1) ci) (xs.length + 1) fl2), (4, mapL p.gm (aput p.kv c.at_ (.agg [.int .i64 c.seq].toArray)))])
    (hc : RdF tCh Wc N es c) (hfl2 : fl2 = fl.take ((posAt xs c.at_).toNat * 13) ++ es ++ fl.drop ((posAt xs c.at_).toNat * 13)) :
    ∃ F', (∀ b, F' b → F b ∨ nw w0 w b) ∧ LogAt w F' g room (putC xs c) := by
  have hg := hf.good
  obtain ⟨_, _, _, _, _, _, hroom⟩ := why_zero hw
  have e1 : (flS (rowS xs c.at_.r) ++ stL c.at_) = flS (rowS xs c.at_.r ++ [c.at_]) := by rw [flS_append]; simp [flS]
  have e2 : (rowS xs c.at_.r).length + 1 = (rowS xs c.at_.r ++ [c.at_]).length := by simp
  have g3 : ∀ b, G b → w.heap[b]? = W.heap[b]? := hS.get (k := 3) rfl
  have g61 : ∀ b, N b → w.heap[b]? = Wc.heap[b]? := hS.get (k := 61) rfl
  have hS1 := hS.fuse (e := fz w (or_ G N)) (fun _ _ => rfl) (fun b hb => hb)
  have hS2 : St w0 w ((5, rowsH c.at_.r.toNat p.vs (rowsL xs)) :: (60, own 23 2 (.slice A' ((rowS xs c.at_.r).length + 1) cp) (rowS xs c.at_.r ++ [c.at_]).length (flS (rowS xs c.at_.r ++ [c.at_]))) :: (3, fz w (or_ G N)) :: (0, fz w0 fun b => b < w0.heap.size ∧ ¬ F b) ::
      (1, blkL g (logCells { p with A := some ⟨gi, 0, none⟩, c := ci, vs := p.vs.set c.at_.r.toNat (.slice A' ((rowS xs c.at_.r).length + 1) cp) } room (xs.length + 1)) 117) :: (2, own 55 13 (.slice (some ⟨gi, 0, none⟩) (xs.length + 1) ci) (xs.length + 1) fl2) :: (4, mapL p.gm (aput p.kv c.at_ (.agg [.int .i64 c.seq].toArray))) :: []) := by
    rw [← e1, ← e2]
    exact hS1.pick [5, 60, 3, 0, 1, 2, 4] ⟨rfl, rfl, rfl, rfl, rfl, rfl, rfl, rfl, rfl, rfl, rfl, rfl, rfl, rfl, trivial⟩
  have hS3 := hS2.rowIn hf.len (by omega)
  rw [← rowsL_put hg hw h0 h1] at hS3
  have hput := hg.put_at hw
  have hpl := posAt_le xs c.at_
  have hlen : (putC xs c).length = xs.length + 1 := putC_len
  have hreps : Reps tCh w (or_ G N) (putC xs c) fl2 := by
    rw [hput, hfl2]
    have k1 : Reps tCh w (or_ G N) xs fl := (hf.reps.at_ g3).mono fun b hb => .inl hb
    have k2 : RdF tCh w (or_ G N) es c := (hc.at_ g61).mono fun b hb => .inr hb
    exact k1.ins k2 _ (by omega)
  have hF : LogF { p with A := some ⟨gi, 0, none⟩, c := ci, vs := p.vs.set c.at_.r.toNat (.slice A' ((rowS xs c.at_.r).length + 1) cp), kv := aput p.kv c.at_ (.agg [.int .i64 c.seq].toArray) } fl2 w (or_ G N) room (putC xs c) :=
    ⟨hreps, by simp [hf.len], hg.key_put hw hf.key, hg.put hw, hf.room0, hf.roomLe, by rw [hlen]; omega⟩
  refine hF.close ?_
  unfold logL
  rw [hlen]
  exact hS3.pick [0, 1, 2, 3, 4, 5] ⟨rfl, rfl, rfl, rfl, rfl, rfl, rfl, rfl, rfl, rfl, rfl, rfl, trivial⟩
end
end Go.Sl

/- A small logic over the fenced walk: a new log; logs that go by letters. -/
namespace Go.Sl
open Go Go.RowKit
/-- A log that goes from round to round. -/
structure LgV where
  F : Nat → Prop
  l : List Change
/-- Changes added as far as they can be. -/
noncomputable def addAll (room : Int) (l : List Change) : List Change := l.foldl (fun x c => if whyR x room c = 0 then putC x c else x) []
theorem addAll_snoc {room : Int} {l : List Change} {i : Int} (h0 : 0 ≤ i) (h1 : i < l.length) : addAll room (tk l (i + 1)) = if whyR (addAll room (tk l i)) room (nth l i) = 0 then putC (addAll room (tk l i)) (nth l i) else addAll room (tk l i) := by
  rw [addAll, tk_snoc h0 h1, List.foldl_append]; rfl
theorem addAll_zero {room : Int} {l : List Change} : addAll room (tk l 0) = [] := by simp [addAll, tk]
section
variable {w w0 w' : World} {L : Hp} {k j g gm : Nat} {F : Nat → Prop} {room : Int} {xs : List Change} {e1 e2 : Ent}
theorem LogAt.f (h : LogAt w F g room xs) : Good xs ∧ 0 ≤ room ∧ room ≤ 4096 ∧ (xs.length : Int) ≤ room := by
  obtain ⟨p, fl, W, G, ho⟩ := h
  exact ⟨ho.f.good, ho.f.room0, ho.f.roomLe, ho.f.le⟩
/-- Two things that are new. -/
theorem St.new2 (hS : St w0 w L) (hk : Kp no w w') (k j : Nat) (h1 : e1.ok w') (h2 : e2.ok w') (f1 : ∀ b, e1.fp b → nw w w' b) (f2 : ∀ b, e2.fp b → nw w w' b) (hd : ∀ b, e1.fp b → e2.fp b → False) : St w0 w' ((k, e1) :: (j, e2) :: L) := by
  have ha := hS.new hk j e2 h2 f2
  refine ⟨ha.os, ha.tape, ha.out, ha.size, ?_, ?_, List.pairwise_cons.2 ⟨fun x hx b hb hb' => ?_, ha.sep⟩⟩
  · intro x hx
    rcases List.mem_cons.1 hx with rfl | hx
    · exact h1
    · exact ha.ok x hx
  · intro x hx b hb
    rcases List.mem_cons.1 hx with rfl | hx
    · exact (f1 b hb).2
    · exact ha.lt x hx b hb
  · rcases List.mem_cons.1 hx with rfl | hx
    · exact hd b hb hb'
    · have h3 := (f1 b hb).1
      have h4 := hS.lt x hx b hb'
      omega
theorem nil_rows (w : World) : RowsOk 64 (List.replicate 64 (.slice none 0 0)) (rowsL []) w := by
  refine ⟨by simp [rowsL], fun j v s hj hv hs => ?_, fun a b v u c h1 h2 h3 h4 h5 h6 h7 => ?_⟩
  · have hv' := List.eq_of_mem_replicate (List.mem_of_getElem? hv)
    subst hv'
    have hs' : s = [] := by
      have hj2 : j < 64 := by have := (List.getElem?_eq_some_iff.1 hv).1; simpa using this
      rw [rowsL_get [] hj2] at hs
      cases hs
      simp [rowS, mine]
    subst hs'
    exact ⟨rfl, .inl ⟨rfl, rfl⟩⟩
  · have hv' := List.eq_of_mem_replicate (List.mem_of_getElem? h4)
    subst hv'
    cases h6
/-- A log of no changes. -/
theorem newLog {a b : Nat} (hS : St w0 w ((a, blkL g (logCells ⟨none, 0, gm, List.replicate 64 (.slice none 0 0), []⟩ room 0) 117) :: (b, mapL gm []) :: (0, fz w0 (lt_ w0)) :: [])) (ha : Nat.beq 0 a = false) (hb : Nat.beq 0 b = false) (hab : Nat.beq a b = false) (h0 : 0 ≤ room) (h1 : room ≤ 4096) : ∃ F, (∀ b, F b → nw w0 w b) ∧ LogAt w F g room [] := by
  have hS1 : St w0 w ((1, blkL g (logCells ⟨none, 0, gm, List.replicate 64 (.slice none 0 0), []⟩ room 0) 117) :: (4, mapL gm []) :: (0, fz w0 (lt_ w0)) :: []) := by
    have hba : Nat.beq b a = false := by cases h : Nat.beq b a; rfl; rw [beq_of h] at hab; rw [Nat.beq_refl] at hab; cases hab
    have ha0 : Nat.beq a 0 = false := by cases h : Nat.beq a 0; rfl; rw [beq_of h] at ha; cases ha
    have hb0 : Nat.beq b 0 = false := by cases h : Nat.beq b 0; rfl; rw [beq_of h] at hb; cases hb
    refine hS.pick [a, b, 0] ⟨by simp [look, Nat.beq_refl], ?_, ?_, ?_, ?_, ?_, trivial⟩
    · simp [hab, ha0]
    · simp [look, hab, Nat.beq_refl]
    · simp [hb0]
    · simp only [look, ha0, hb0, Nat.beq_refl]
    · rfl
  have hS2 := (hS1.nil 2 55 13).none 3
  have hS3 := hS2.new (Kp.refl _ _) 5 (rowsH 64 (List.replicate 64 (.slice none 0 0)) (rowsL [])) (nil_rows w) (by
    rintro b ⟨j, v, _, hv, hb⟩
    have hv' := List.eq_of_mem_replicate (List.mem_of_getElem? hv)
    subst hv'
    cases hb)
  have hF : LogF ⟨none, 0, gm, List.replicate 64 (.slice none 0 0), []⟩ [] w no room [] := ⟨Reps.nil _ _ _, by simp, fun s => by
    have : ¬ 0 ≤ findAt [] s := fun h => by obtain ⟨c, hc, _⟩ := findAt_pos.1 h; cases hc
    rw [if_neg this]; rfl, Good.nil, h0, h1, by simp; omega⟩
  obtain ⟨F', hf, hl⟩ := hF.close (F := no) (g := g) (w0 := w0) (by
    have hS4 := hS3.pick [0, 1, 2, 3, 4, 5] (L' := (0, fz w0 (lt_ w0)) :: logL g ⟨none, 0, gm, List.replicate 64 (.slice none 0 0), []⟩ [] w no room []) ⟨rfl, rfl, rfl, rfl, rfl, rfl, rfl, rfl, rfl, rfl, rfl, rfl, trivial⟩
    exact hS4.shrink 0 rfl (fun b hb => hb.1) (fun _ _ => rfl))
  exact ⟨F', fun b hb => (hf b hb).elim (fun h => False.elim h) id, hl⟩
end
end Go.Sl
namespace Go.Sl
open Go Go.RowKit
section
variable {P : Program} {o : Oper} {E : Env} {w : World} {x y : Operand} {t e : TypeId} {b c : Bool}
theorem Q_eqlB' (ht : P.underlying t = some .bool) (ho : o.op = .binOp .eql t x y e) (hx : evalE E x = some (.bool b)) (hy : evalE E y = some (.bool c)) : Qt P o E w (.bool (b == c)) := fun nt D a ha => by
  unfold execOp; rw [ho]; simp [ha.eval hx, ha.eval hy, eqGuard, run_eql_bool w t b c ht]
theorem Q_eqlNilFn {f : Fn} {p q : Array Value} (ho : o.op = .binOp .eql t x y e) (hx : evalE E x = some (.func f p q)) (hy : evalE E y = some .nilFunc) (ht : ∃ a b c, P.underlying t = some (.func a b c)) : Qt P o E w (.bool false) := fun nt D a ha => by
  obtain ⟨a1, b1, c1, ht⟩ := ht
  have hq : ∀ n, (Op.equalIn (n + 1) t (.func f p q) .nilFunc).run P w = .ok false w := fun n => by simp [Op.equalIn, underlying, ht]
  unfold execOp; rw [ho]; simp [ha.eval hx, ha.eval hy, eqGuard, binOp, Op.equal]
  have h2 : (Op.equalIn Op.maxDepth t (.func f p q) .nilFunc).run P w = .ok false w := hq 9999
  rw [h2]
  rfl
end
end Go.Sl

/- Plain words: the first change of all. No program in sight. -/
namespace Go.Sl
def firstC : Change := ⟨⟨1, 0⟩, 1, [], 1, ⟨1, 0⟩, ⟨0, 0⟩, ⟨0, 0⟩, ⟨#[112]⟩, nostr⟩
theorem firstC_ok : ChOk firstC := ⟨by decide, by decide, by decide, by decide, by decide, by decide, by decide, by decide⟩
theorem first_chk : chk5 firstC = 0 := by
  have hn : nameOk firstC.name := by
    refine ⟨by decide, by decide, fun j h0 h1 => ?_⟩
    have h2 : ((firstC.name.size : Int)) = 1 := rfl
    have hj : j = 0 := by omega
    subst hj
    exact .inl ⟨by decide, by decide⟩
  have hd : deps5 firstC = 0 := deps5_0 (by rfl) (.inl rfl) (by rfl)
  rw [chk5_6 (by decide) (by decide) (by decide) hd (.inl ⟨rfl, by decide⟩) (.inr ⟨.inl rfl, .inr (by decide), by decide, by decide, .inl (by decide)⟩)]
  unfold words5
  have h1 : named firstC := .inl rfl
  rw [if_neg (fun h => h.elim (fun h => h.2 hn) (fun h => h.1 h1)), if_neg (by decide), if_neg (fun h => h.2 rfl)]
theorem findAt_nil (s : Stamp) : ¬ 0 ≤ findAt [] s := fun h => by obtain ⟨c, hc, _⟩ := findAt_pos.1 h; cases hc
theorem first_names : names5 firstC = [] := by
  refine List.eq_nil_iff_forall_not_mem.2 fun s hs => ?_
  rw [mem_names5] at hs
  simp only [nameL, List.mem_filter, decide_eq_true_eq] at hs
  obtain ⟨h1, h2, h3⟩ := hs
  simp only [firstC, List.mem_cons, List.mem_nil_iff, or_false] at h1
  rcases h1 with rfl | rfl | rfl
  · exact h3 ⟨rfl, rfl⟩
  · have := h2.1; simp at this
  · have := h2.1; simp at this
theorem first_0 {room : Int} (h : 1 ≤ room) : whyR [] room firstC = 0 := by
  rw [Good.nil.why first_chk]
  have hk : knownP [] firstC = 0 := knownP_0 (findAt_nil _) (by decide)
  have hr : readyP [] firstC = 0 := ready_0 (by decide) (fun j h0 h1 => by simp [firstC] at h1; omega) (fun j h0 h1 => by simp [firstC] at h1; omega) (fun s hs => by rw [first_names] at hs; cases hs)
  rw [if_neg (by rw [hk]; decide), if_neg (by rw [hr]; decide), if_neg (by simp; omega)]
theorem put_first : putC [] firstC = [firstC] := rfl
theorem find_first : findAt [firstC] firstC.at_ = 0 := fidx_hit (by decide) (by decide) ⟨rfl, rfl⟩ Up.zero
theorem first_5 {room : Int} : whyR [firstC] room firstC = 5 := why_2 first_chk ⟨by rw [find_first]; decide, by rw [find_first]; rfl⟩
theorem awake_1 : whyR [] 3 firstC = 0 := first_0 (by decide)
theorem awake_x : (if whyR [] 3 firstC = 0 then putC [] firstC else []) = [firstC] := by rw [if_pos awake_1, put_first]
end Go.Sl

/- The contracts of the kit's library at this program, laid in plain words (layplain.py). -/
namespace Go.Proofs.Ytceeellnjckmiaa
open Go Go.Shelf Go.RowKit Go.Lib Go.Sort
def Try.sortSt_ren : Go.Shelf.Ren := ⟨fun | 6 => 125 | 15 => 95 | 14 => 139 | 28 => 121 | 29 => 122 | 20 => 142 | 21 => 143 | 22 => 144 | 23 => 145 | 24 => 146 | 25 => 147 | 26 => 148 | 27 => 149 | 46 => 150 | 47 => 135 | 48 => 136 | 49 => 151 | 50 => 152 | 57 => 153 | n => n, fun | 22 => 36 | 24 => 23 | 25 => 112 | 3 => 3 | 39 => 88 | 0 => 0 | 53 => 155 | 55 => 157 | 4 => 4 | 46 => 149 | 45 => 148 | 50 => 104 | 5 => 5 | 9 => 9 | 66 => 161 | 70 => 165 | 76 => 169 | 77 => 170 | n => n, fun | n => n⟩
theorem Try.sortSt : Go.Proofs.SlLaysF0.n6 Try.prog Try.sortSt_ren := {
  mixed := by kernel_rfl
  f6 := ⟨Try.f125.name, by decide, Try.func125.trans (congrArg some (by kernel_rfl))⟩
  f14 := ⟨Try.f139.name, by decide, Try.func139.trans (congrArg some (by kernel_rfl))⟩
  f15 := Try.func95.trans (congrArg some (by kernel_rfl))
  f20 := ⟨Try.f142.name, by decide, Try.func142.trans (congrArg some (by kernel_rfl))⟩
  f21 := ⟨Try.f143.name, by decide, Try.func143.trans (congrArg some (by kernel_rfl))⟩
  f22 := ⟨Try.f144.name, by decide, Try.func144.trans (congrArg some (by kernel_rfl))⟩
  f23 := ⟨Try.f145.name, by decide, Try.func145.trans (congrArg some (by kernel_rfl))⟩
  f24 := ⟨Try.f146.name, by decide, Try.func146.trans (congrArg some (by kernel_rfl))⟩
  f25 := ⟨Try.f147.name, by decide, Try.func147.trans (congrArg some (by kernel_rfl))⟩
  f26 := ⟨Try.f148.name, by decide, Try.func148.trans (congrArg some (by kernel_rfl))⟩
  f27 := ⟨Try.f149.name, by decide, Try.func149.trans (congrArg some (by kernel_rfl))⟩
  f28 := Try.func121.trans (congrArg some (by kernel_rfl))
  f29 := Try.func122.trans (congrArg some (by kernel_rfl))
  f46 := ⟨Try.f150.name, by decide, Try.func150.trans (congrArg some (by kernel_rfl))⟩
  f47 := Try.func135.trans (congrArg some (by kernel_rfl))
  f48 := Try.func136.trans (congrArg some (by kernel_rfl))
  f49 := ⟨Try.f151.name, by decide, Try.func151.trans (congrArg some (by kernel_rfl))⟩
  f50 := ⟨Try.f152.name, by decide, Try.func152.trans (congrArg some (by kernel_rfl))⟩
  f57 := ⟨Try.f153.name, by decide, Try.func153.trans (congrArg some (by kernel_rfl))⟩
  t0 := Try.underlying0
  a0 := Try.isAgg0
  z0 := Try.sizeOf0
  v0 := Try.zeroValue0
  t3 := Try.underlying3
  a3 := Try.isAgg3
  z3 := Try.sizeOf3
  v3 := Try.zeroValue3
  t4 := Try.underlying4
  a4 := Try.isAgg4
  z4 := Try.sizeOf4
  v4 := Try.zeroValue4
  t5 := Try.underlying5
  a5 := Try.isAgg5
  z5 := Try.sizeOf5
  v5 := Try.zeroValue5
  t9 := Try.underlying9
  a9 := Try.isAgg9
  z9 := Try.sizeOf9
  v9 := Try.zeroValue9
  t22 := Try.underlying36
  a22 := Try.isAgg36
  z22 := Try.sizeOf36
  v22 := Try.zeroValue36
  t25 := Try.underlying112
  a25 := Try.isAgg112
  z25 := Try.sizeOf112
  v25 := Try.zeroValue112
  t39 := Try.underlying88
  a39 := Try.isAgg88
  z39 := Try.sizeOf88
  v39 := Try.zeroValue88
  t45 := Try.underlying148
  a45 := Try.isAgg148
  z45 := Try.sizeOf148
  v45 := Try.zeroValue148
  t46 := Try.underlying149
  a46 := Try.isAgg149
  z46 := Try.sizeOf149
  v46 := Try.zeroValue149
  t50 := Try.underlying104
  a50 := Try.isAgg104
  z50 := Try.sizeOf104
  v50 := Try.zeroValue104
  t53 := Try.underlying155
  a53 := Try.isAgg155
  z53 := Try.sizeOf155
  v53 := Try.zeroValue155
  t55 := Try.underlying157
  a55 := Try.isAgg157
  z55 := Try.sizeOf157
  v55 := Try.zeroValue157
  t66 := Try.underlying161
  a66 := Try.isAgg161
  z66 := Try.sizeOf161
  v66 := Try.zeroValue161
  t70 := Try.underlying165
  a70 := Try.isAgg165
  z70 := Try.sizeOf165
  v70 := Try.zeroValue165
  t76 := Try.underlying169
  a76 := Try.isAgg169
  z76 := Try.sizeOf169
  v76 := Try.zeroValue169
  t77 := Try.underlying170
  a77 := Try.isAgg170
  z77 := Try.sizeOf170
  v77 := Try.zeroValue170 }
end Go.Proofs.Ytceeellnjckmiaa

