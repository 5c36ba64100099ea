/- A small logic over the fenced walk: rows of one's own, read and written by place; results of every form. -/
import Derived.Test.YtceeellnjckmiaaSl9
set_option linter.unusedVariables false
set_option linter.unusedSimpArgs false
namespace Go.Sl
open Go Go.RowKit
section
variable {P : Program} {o : Oper} {E : Env} {w w0 : World} {v : Value} {x y z : Operand} {t e : TypeId} {L : Hp} {g k j n m cap sz : Nat} {fl cs : List Value} {K : Value → World → Prop}
/-! ### 20. Rows of one's own, by place -/
theorem own_cells (h : w.ownsRow 0 e sz (.slice (some ⟨g, 0, none⟩) n cap) m fl) : CellsAt w ⟨g, 0, none⟩ fl := by
  rcases h.2 with ⟨h1, _⟩ | ⟨g', cap', cur, h1, _, hh, _, _, _, ht⟩
  · cases h1
  · cases h1
    intro j u hu
    refine CellsAt.of_blk hh j u ?_
    rw [← ht, List.getElem?_take] at hu
    split at hu
    · exact hu
    · cases hu
theorem Does.of_q (h : Qt P o E w v) (hK : K v w) : Does P o E w K := fun nt D a ha => ⟨.value v, v, w, h nt D a ha, .inl rfl, hK⟩
theorem putL_nil (l : List Value) (j : Nat) : putL l j [] = l := by cases l <;> simp [putL]
theorem putL_take : ∀ (l : List Value) (j : Nat) (us : List Value) (m : Nat), j + us.length ≤ m → (putL l j us).take m = putL (l.take m) j us
  | l, j, [], m, _ => by rw [putL_nil, putL_nil]
  | [], j, u :: us, m, _ => by simp [putL]
  | v :: r, 0, u :: us, m, h => by
    cases m with
    | zero => simp at h
    | succ m => simp only [putL, List.take_succ_cons]; rw [putL_take r 0 us m (by simp at h; omega)]
  | v :: r, j + 1, u :: us, m, h => by
    cases m with
    | zero => simp at h
    | succ m => simp only [putL, List.take_succ_cons]; rw [putL_take r j (u :: us) m (by simp at h ⊢; omega)]
/-- A store into a row of one's own. -/
theorem D_storeO (hS : St w0 w L) (hl : look L k = some (own e sz (.slice (some ⟨g, 0, none⟩) n cap) m fl)) (ho : o.op = .store t x y) (hx : evalE E x = some (.pointer (some ((⟨g, 0, none⟩ : Addr).add j))))
    (hy : evalE E y = some v) {q : Nat} (hs : ∀ w, (sizeOf t).run P w = .ok q w) (hn : (cl v).length = q) (h1 : (cl v).all (·.oneCell') = true) (hj : Nat.ble (j + q) fl.length = true)
    (h : ∀ w', St w0 w' (upd L k (own e sz (.slice (some ⟨g, 0, none⟩) n cap) m (putL fl j (cl v)))) → K undef w') : Does P o E w K := fun nt D a ha => by
  have hown := hS.get hl
  have hjl := Nat.le_of_ble_eq_true hj
  obtain ⟨hlen, ⟨h0, _⟩ | ⟨g', cap', cur, h0, hb0, hh, hc, hm, hsz, ht⟩⟩ := hown
  · cases h0
  · cases h0
    have hfl : fl.length ≤ cur.size := by rw [← ht, List.length_take]; simp; omega
    obtain ⟨w', hr, hb', hk⟩ := run_storeCells (P := P) (g := g) (cl v) w cur.toList e j 0 (by simpa using hh) (fun u hu => List.all_eq_true.1 h1 u hu) (by simp; omega)
    have hown' : w'.ownsRow 0 e sz (.slice (some ⟨g, 0, none⟩) n cap) n (putL fl j (cl v)) := by
      refine ⟨by rw [putL_length]; exact hlen, .inr ⟨g, cap, _, rfl, hb0, hb', hc, hm, by simp [putL_length, hsz], ?_⟩⟩
      have := putL_take cur.toList j (cl v) (n * sz) (by omega)
      rw [ht] at this
      simpa using this
    refine ⟨.skip, undef, w', ?_, .inr ⟨rfl, rfl⟩, h w' (hS.upd hl ?_ hown' fun b hb => .inl hb)⟩
    · unfold execOp; rw [ho]
      have hn' : v.cells.size = q := by rw [cl_cells]; simpa using hn
      rw [add_g, Nat.zero_add] at hx
      have hr' : (storeCells (⟨g, j, none⟩ : Addr) v.cells.toList).run P w = .ok () w' := by rw [cl_cells]; exact hr
      simp [ha.eval hx, ha.eval hy, Instr.storeAt, Instr.sureAddr, storeVar, hs, hn', hr']
    · exact hk.mono fun b hb => by
        show some g = some b
        rw [hb]
theorem D_storeO' (hS : St w0 w L) (hl : look L k = some (own e sz (.slice (some ⟨g, 0, none⟩) n cap) m fl)) (ho : o.op = .store t x y) (hx : evalE E x = some (.pointer (some ⟨g, 0, none⟩)))
    (hy : evalE E y = some v) {q : Nat} (hs : ∀ w, (sizeOf t).run P w = .ok q w) (hn : (cl v).length = q) (h1 : (cl v).all (·.oneCell') = true) (hj : Nat.ble (0 + q) fl.length = true)
    (h : ∀ w', St w0 w' (upd L k (own e sz (.slice (some ⟨g, 0, none⟩) n cap) m (putL fl 0 (cl v)))) → K undef w') : Does P o E w K :=
  D_storeO hS hl ho (by rw [hx, add_zero_]) hy hs hn h1 hj h
/-! ### 21. Results -/
def ResOk (P : Program) (E : Env) (w : World) : ResultVar → Value → Prop
  | .tmp t, v => E.get t = some v
  | .cell a t, v => ∃ ad, E.get a = some (.pointer (some ad)) ∧ (loadVar t ad).run P w = .ok v w
def ResAll (P : Program) (E : Env) (w : World) : List ResultVar → List Value → Prop
  | [], [] => True
  | r :: rs, v :: vs => ResOk P E w r v ∧ ResAll P E w rs vs
  | _, _ => False
def tupOf : List Value → Value
  | [v] => v
  | vs => .tuple vs.toArray
theorem rT {t : Nat} (h : E.get t = some v) : ResOk P E w (.tmp t) v := h
theorem rC1 {a : Nat} {es : List Value} {b : Addr} (hc : CellsAt w b es) (h : E.get a = some (.pointer (some b))) (ht : ∀ w, (isAgg t).run P w = .ok false w) (hv : cget es 0 = some v) : ResOk P E w (.cell a t) v :=
  ⟨b, h, by have := hc 0 v (by rw [← cget_eq]; exact hv); rw [add_zero_] at this; simp [loadVar, ht, this]⟩
theorem rCK {a : Nat} {es : List Value} {b : Addr} (es0 : List Value) (hc : CellsAt w b es) (h : E.get a = some (.pointer (some b))) (ht : ∀ w, (isAgg t).run P w = .ok true w) (hs : ∀ w, (sizeOf t).run P w = .ok n w) (hv : subL es 0 n = es0) (hn : es0.length = n) : ResOk P E w (.cell a t) (.agg es0.toArray) :=
  ⟨b, h, run_loadVar_agg ht (by rw [hn]; exact hs) (by have := hc.sub 0 n; rw [← subL_eq, hv, add_zero_] at this; exact this)⟩
theorem blk_cells {cs : List Value} {t' : TypeId} (hS : St w0 w L) (hl : look L k = some (blkL g cs t')) : CellsAt w ⟨g, 0, none⟩ cs := by
  have := CellsAt.of_blk (hS.get hl)
  simpa using this
def resOf (tmps : Array Value) : ResultVar → Sem Value
  | .tmp t => pure (tmps.getD t undef)
  | .cell q t => do loadVar t (← asAddr (tmps.getD q undef))
theorem run_resG {nt : Nat} {D : List Deferred} {a : Act} (ha : Ag nt D E a) : ∀ (rs : List ResultVar) (vs : List Value), ResAll P E w rs vs → (rs.mapM (resOf a.tmps)).run P w = .ok vs w
  | [], [], _ => by simp
  | [], _ :: _, h => h.elim
  | _ :: _, [], h => h.elim
  | r :: rs, v :: vs, h => by
    have ih := run_resG ha rs vs h.2
    cases r with
    | tmp t =>
      have h1 : a.tmps.getD t undef = v := ha.get t v h.1
      simp only [List.mapM_cons, resOf, Sem.run_bind, h1, Sem.run_pure, Result.andThen_ok, ih]
    | cell q t =>
      obtain ⟨ad, h1, h2⟩ := h.1
      have h3 : a.tmps.getD q undef = .pointer (some ad) := ha.get q _ h1
      simp only [List.mapM_cons, resOf, Sem.run_bind, h3, asAddr, Sem.run_pure, Result.andThen_ok, h2, ih]
theorem resG {fn : Func} {nt : Nat} {D : List Deferred} {rs : List ResultVar} {vs : List Value} (hr : fn.results = rs.toArray) (h : ResAll P E w rs vs) : ∀ a, Ag nt D E a → (results fn a.tmps).run P w = .ok (tupOf vs) w := fun a ha => by
  have := run_resG ha rs vs h
  have he : results fn a.tmps = (do let vs ← fn.results.mapM (resOf a.tmps); pure (if h : vs.size = 1 then vs[0] else .tuple vs)) := by
    unfold results
    congr 1
  rw [he, hr]
  simp only [List.mapM_toArray, Sem.run_bind, Sem.run_map, this, Result.andThen_ok, map_eq_pure_bind, Sem.run_pure]
  congr 1
  match vs with
  | [] => rfl
  | [v] => rfl
  | _ :: _ :: _ => simp [tupOf]
end
end Go.Sl
