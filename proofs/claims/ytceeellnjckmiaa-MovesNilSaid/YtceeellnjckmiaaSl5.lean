/- A small logic over the fenced walk: rows of one's own, and the kinds of data of this program. -/
import Derived.Test.YtceeellnjckmiaaSl4
set_option linter.unusedVariables false
set_option linter.unusedSimpArgs false
namespace Go.Sl
open Go Go.RowKit

/-! ### 11. Elements by place -/
def nth {α : Type} [Inhabited α] (xs : List α) (i : Int) : α := xs.getD i.toNat default
theorem nth_get {α : Type} [Inhabited α] (xs : List α) (i : Int) (h : i.toNat < xs.length) : nth xs i = xs[i.toNat] := by
  simp [nth, List.getD_eq_getElem?_getD, List.getElem?_eq_getElem h]
theorem RdF.nth {α : Type} [Inhabited α] {d : Ty α} {W : World} {F : Nat → Prop} {xs : List α} {A : Option Addr} {n cap : Nat} (h : RdF (tSl d) W F [.slice A n cap] xs) (i : Int) (h0 : 0 ≤ i) (h1 : i < xs.length) :
    ∃ ad es, A = some ad ∧ RdF d W F es (Sl.nth xs i) ∧ ∀ w : World, (∀ b, F b → w.heap[b]? = W.heap[b]?) → CellsAt w (ad.add (i.toNat * d.sz)) es := by
  have hi : i.toNat < xs.length := by omega
  rw [nth_get xs i hi]
  exact h.elem i.toNat hi

/-! ### 12. Rows of one's own -/
/-- The cells of a row and what they read as. -/
def Reps {α : Type} (d : Ty α) (W : World) (F : Nat → Prop) (xs : List α) (fl : List Value) : Prop :=
  fl.length = xs.length * d.sz ∧ ∀ i x, xs[i]? = some x → RdF d W F ((fl.drop (i * d.sz)).take d.sz) x
section
variable {α : Type} {d : Ty α} {W W' w w0 : World} {F F' : Nat → Prop} {xs ys : List α} {x : α} {fl gl es : List Value} {L : Hp} {k m : Nat} {e : TypeId} {v : Value} {n : Nat}
theorem Reps.nil (d : Ty α) (W : World) (F : Nat → Prop) : Reps d W F [] [] := ⟨by simp, fun i x h => by simp at h⟩
theorem Reps.mono (h : Reps d W F xs fl) (hF : ∀ b, F b → F' b) : Reps d W F' xs fl := ⟨h.1, fun i x hx => (h.2 i x hx).mono hF⟩
theorem Reps.at_ (h : Reps d W F xs fl) (hw : ∀ b, F b → W'.heap[b]? = W.heap[b]?) : Reps d W' F xs fl := ⟨h.1, fun i x hx => (h.2 i x hx).at_ hw⟩
theorem Reps.append (h : Reps d W F xs fl) (k : Reps d W F ys gl) : Reps d W F (xs ++ ys) (fl ++ gl) := by
  refine ⟨by rw [List.length_append, h.1, k.1, List.length_append, Nat.add_mul], fun i x hx => ?_⟩
  rcases Nat.lt_or_ge i xs.length with hi | hi
  · rw [List.getElem?_append_left hi] at hx
    have := h.2 i x hx
    have hle : i * d.sz + d.sz ≤ fl.length := by
      rw [h.1, ← Nat.succ_mul]; exact Nat.mul_le_mul_right _ hi
    rw [List.drop_append_of_le_length (by omega), List.take_append_of_le_length (by rw [List.length_drop]; omega)]
    exact this
  · rw [List.getElem?_append_right hi] at hx
    have := k.2 _ x hx
    have he : i * d.sz = fl.length + (i - xs.length) * d.sz := by rw [h.1, ← Nat.add_mul]; congr 1; omega
    rw [he, List.drop_append]
    have h1 : fl.drop (fl.length + (i - xs.length) * d.sz) = [] := List.drop_of_length_le (by omega)
    rw [h1, List.nil_append, Nat.add_sub_cancel_left]
    exact this
theorem Reps.one (h : RdF d W F es x) : Reps d W F [x] es := by
  refine ⟨by simp [h.len], fun i y hy => ?_⟩
  cases i with
  | zero =>
    simp at hy
    subst hy
    rw [Nat.zero_mul, List.drop_zero, List.take_of_length_le (by rw [h.len]; exact Nat.le_refl _)]
    exact h
  | succ i => simp at hy
theorem Reps.snoc (h : Reps d W F xs fl) (k : RdF d W F es x) : Reps d W F (xs ++ [x]) (fl ++ es) := h.append (Reps.one k)
/-- Whatever reads in no block reads so anywhere. -/
theorem RdF.any (h : RdF d W no es x) : RdF d W' F es x := fun w _ => h w fun b hb => hb.elim
theorem Reps.any (h : Reps d W no xs fl) : Reps d W' F xs fl := ⟨h.1, fun i x hx => (h.2 i x hx).any⟩
/-- The cells of a slice that is read. -/
theorem RdF.flat {A : Option Addr} {cap : Nat} (h : RdF (tSl d) W F [.slice A n cap] xs) : ∃ fl, Reps d W F xs fl ∧ (0 < xs.length → ∃ ad, A = some ad ∧ ∀ w : World, (∀ b, F b → w.heap[b]? = W.heap[b]?) → CellsAt w ad fl) := by
  suffices key : ∀ j, j ≤ xs.length → ∃ fl, Reps d W F (xs.take j) fl ∧ (0 < j → ∃ ad, A = some ad ∧ ∀ w : World, (∀ b, F b → w.heap[b]? = W.heap[b]?) → CellsAt w ad fl) by
    obtain ⟨fl, h1, h2⟩ := key xs.length (Nat.le_refl _)
    rw [List.take_length] at h1
    exact ⟨fl, h1, h2⟩
  intro j
  induction j with
  | zero => exact fun _ => ⟨[], by simpa using Reps.nil d W F, fun h => absurd h (by omega)⟩
  | succ j ih =>
    intro hj
    obtain ⟨fl, h1, h2⟩ := ih (by omega)
    obtain ⟨ad, es, ha, hr, hc⟩ := h.elem j (by omega)
    refine ⟨fl ++ es, ?_, fun _ => ⟨ad, ha, fun w hw i v hv => ?_⟩⟩
    · rw [List.take_succ_eq_append_getElem (by omega)]
      exact h1.snoc hr
    · have hl : fl.length = j * d.sz := by rw [h1.1, List.length_take, Nat.min_eq_left (by omega)]
      rcases Nat.lt_or_ge i fl.length with hi | hi
      · rw [List.getElem?_append_left hi] at hv
        have hj0 : 0 < j := by
          rcases Nat.eq_zero_or_pos j with h0 | h0
          · rw [h0, Nat.zero_mul] at hl; omega
          · exact h0
        obtain ⟨ad', ha', hc'⟩ := h2 hj0
        rw [ha] at ha'
        cases ha'
        exact hc' w hw i v hv
      · rw [List.getElem?_append_right hi] at hv
        have := hc w hw _ v hv
        rw [add_add] at this
        rwa [show i = j * d.sz + (i - fl.length) by omega]
/-- A row of one's own, read. -/
theorem own_rd (hw : w.ownsRow 0 e d.sz v n fl) (hn : n = xs.length) (hr : Reps d W F xs fl) (hm : xs.length ≤ maxL) (hF : ∀ q, F q → w.heap[q]? = W.heap[q]?) : RdF (tSl d) w (or_ F fun b => v.ownBlock = some b) [v] xs := by
  subst hn
  intro w2 hw2
  have hF2 : ∀ b, F b → w2.heap[b]? = W.heap[b]? := fun b hb => (hw2 b (.inl hb)).trans (hF b hb)
  rcases hw.2 with ⟨rfl, h0⟩ | ⟨g, cap, cur, rfl, _, hh, hc, hm', hs, ht⟩
  · have : xs = [] := List.eq_nil_of_length_eq_zero h0
    subst this
    exact ⟨none, 0, rfl, by simp, by simp, fun i x hx => by simp at hx⟩
  · refine ⟨some ⟨g, 0, none⟩, cap, rfl, hc, hm, fun i x hx => ⟨_, _, rfl, ?_, hr.2 i x hx w2 hF2⟩⟩
    have hg : w2.heap[g]? = some (.cells cur e (0, 0)) := (hw2 g (.inr rfl)).trans hh
    have hfl : CellsAt w2 ⟨g, 0, none⟩ fl := fun j u hu => by
      refine CellsAt.of_blk hg j u ?_
      rw [← ht, List.getElem?_take] at hu
      split at hu
      · exact hu
      · cases hu
    exact hfl.sub _ _
/-- What is new since the function began. -/
theorem St.fresh {ee : Ent} (hS : St w0 w L) (h0 : look L 0 = some (fz w0 (lt_ w0))) (hk : look L k = some ee) (hne : Nat.beq 0 k = false) : ∀ b, ee.fp b → nw w0 w b := fun b hb => by
  refine ⟨?_, hS.fpLt hk b hb⟩
  rcases Nat.lt_or_ge b w0.heap.size with hlt | hge
  · exact (hS.disj h0 hk hne b hlt hb).elim
  · exact hge
/-- A row of one's own is handed back: what its elements read in is told by entry m. -/
theorem St.giveF (hS : St w0 w L) (h0 : look L 0 = some (fz w0 (lt_ w0))) (k : Nat) (hk : look L k = some (own e d.sz v n fl)) (hne : Nat.beq 0 k = false) (m : Nat) (hm : look L m = some (fz W F)) (hmne : Nat.beq 0 m = false) (hn : n = xs.length) (hr : Reps d W F xs fl) (hl : xs.length ≤ maxL) :
    RdF (tSl d) w (nw w0 w) [v] xs :=
  (own_rd (hS.get hk) hn hr hl (hS.get hm)).mono fun b hb => hb.elim (fun h => hS.fresh h0 hm hmne b h) fun h => hS.fresh h0 hk hne b h
theorem St.give (hS : St w0 w L) (h0 : look L 0 = some (fz w0 (lt_ w0))) (k : Nat) (hk : look L k = some (own e d.sz v n fl)) (hne : Nat.beq 0 k = false) (hn : n = xs.length) (hr : Reps d W no xs fl) (hl : xs.length ≤ maxL) :
    RdF (tSl d) w (nw w0 w) [v] xs :=
  (own_rd (F := no) (hS.get hk) hn (hr.any (W' := w)) hl (fun b hb => hb.elim)).mono fun b hb => hb.elim (fun h => h.elim) fun h => hS.fresh h0 hk hne b h
/-- nil is a row of one's own. -/
theorem St.nil (hS : St w0 w L) (k : Nat) (e : TypeId) (sz : Nat) : St w0 w ((k, own e sz (.slice none 0 0) 0 []) :: L) :=
  hS.new (Kp.refl _ _) k _ ⟨by simp, .inl ⟨rfl, rfl⟩⟩ fun b hb => by
    have : (none : Option Nat) = some b := hb
    cases this
/-- A literal is a row of one's own. -/
theorem St.lit {g sz : Nat} {cs : List Value} (hS : St w0 w L) (k : Nat) (hk : look L k = some (blkL g cs e)) (n : Nat) (hn : cs.length = n * sz) (hm : n ≤ maxL) : St w0 w (Sl.upd L k (own e sz (.slice (some ⟨g, 0, none⟩) n n) n cs)) :=
  hS.upd hk (Kp.refl _ _) ⟨hn, .inr ⟨g, n, cs.toArray, rfl, Nat.zero_le _, hS.get hk, Nat.le_refl _, by simp only [maxLen]; unfold maxL at hm; omega, by simpa using hn, by simp [← hn]⟩⟩ fun b hb => .inl (by
    have h1 : some g = some b := hb
    cases h1
    exact rfl)
end
section
variable {P : Program} {o : Oper} {E : Env} {w w0 : World} {v : Value} {x y : Operand} {t e e' : TypeId} {L : Hp} {K : Value → World → Prop} {k j g n bytes sz : Nat} {fl cs : List Value} {i : TypeInfo} {z : Value}
/-- What append asks of the element's type. -/
structure AppOk (P : Program) (t e : TypeId) (sz bytes : Nat) : Prop where
  ht : P.underlying t = some (.slice e)
  info : ∃ i z, P.info? e = some i ∧ i.zero = some z ∧ i.size = sz ∧ i.bytes = bytes ∧ z.cells.size = sz
  pos : 0 < sz
theorem D_app {m c : Nat} {ad : Addr} (hA : AppOk P t e sz bytes) (hS : St w0 w L) (hl : look L k = some (own e sz v n fl)) (ho : o.op = .call { callee := .builtin .append, args := #[x, y], argTypes := #[t, t] }) (hx : evalE E x = some v) (hy : evalE E y = some (.slice (some ad) m c))
    (hc : CellsAt w ad cs) (hcs : cs.length = m * sz) (h1 : ∀ u ∈ cs, u.oneCell' = true) (hb : (n + m) * bytes ≤ 140737488355328) (hn : n + m ≤ maxL) (hm : 0 < m)
    (h : ∀ g' cap' w', St w0 w' (upd L k (own e sz (.slice (some ⟨g', 0, none⟩) (n + m) cap') (n + m) (fl ++ cs))) → K (.slice (some ⟨g', 0, none⟩) (n + m) cap') w') : Does P o E w K := fun nt D a ha => by
  obtain ⟨ht, ⟨i, z, hi, hz, hsz, hby, hzs⟩, hpos⟩ := hA
  have hown := hS.get hl
  obtain ⟨v', w', hr, hown', hg, _, hat⟩ := run_append_own_at (P := P) w 0 t o.type e i z sz bytes ht hi hz hsz hby hzs hpos v n fl hown ad m c cs hcs hc h1 (by simp only [maxLen]; unfold maxL at hn; omega) hb (Nat.zero_le _)
  have hst : St w0 w' (upd L k (own e sz v' (n + m) (fl ++ cs))) := by
    refine hS.upd hl ((Kp.of_grown hg).mono fun b hb => hb) hown' fun b hb => ?_
    have hb : v'.ownBlock = some b := hb
    rcases hat with hat | hat
    · refine .inl ?_
      show v.ownBlock = some b
      rw [← hat]
      exact hb
    · rw [hat] at hb
      cases hb
      refine .inr ⟨Nat.le_refl _, ?_⟩
      rcases hown'.2 with ⟨rfl, _⟩ | ⟨g, cap, cur, rfl, _, hh, _⟩
      · simp [Value.ownBlock] at hat
      · have : g = w.heap.size := by simpa [Value.ownBlock] using hat
        subst this
        exact (Array.getElem?_eq_some_iff.1 hh).1
  have hform : ∃ g' cap', v' = .slice (some ⟨g', 0, none⟩) (n + m) cap' := by
    rcases hown'.2 with ⟨_, h0⟩ | ⟨g, cap, cur, rfl, _⟩
    · omega
    · exact ⟨g, cap, rfl⟩
  obtain ⟨g', cap', rfl⟩ := hform
  refine ⟨.value _, _, w', ?_, .inl rfl, h g' cap' w' hst⟩
  unfold execOp; rw [ho]; simp [resolve, invoke, builtin, ha.eval hx, ha.eval hy, hr]
/-- append(v, x): the element lies in a block of its own. -/
theorem D_app1 (hA : AppOk P t e sz bytes) (hS : St w0 w L) (k : Nat) (hl : look L k = some (own e sz v n fl)) (j : Nat) (hj : look L j = some (blkL g cs e')) (ho : o.op = .call { callee := .builtin .append, args := #[x, y], argTypes := #[t, t] }) (hx : evalE E x = some v) (hy : evalE E y = some (.slice (some ⟨g, 0, none⟩) 1 1))
    (hcs : cs.length = sz) (h1 : cs.all (·.oneCell') = true) (hb : (n + 1) * bytes ≤ 140737488355328) (hn : n + 1 ≤ maxL)
    (h : ∀ g' cap' w', St w0 w' (upd L k (own e sz (.slice (some ⟨g', 0, none⟩) (n + 1) cap') (n + 1) (fl ++ cs))) → K (.slice (some ⟨g', 0, none⟩) (n + 1) cap') w') : Does P o E w K := by
  refine D_app hA hS hl ho hx hy (fun i u hu => ?_) (by omega) (fun u hu => List.all_eq_true.1 h1 u hu) hb hn Nat.one_pos h
  refine CellsAt.of_blk (hS.get hj) i u ?_
  simpa using hu
/-- append(v, ys...): ys are read. -/
theorem D_appS {α : Type} {d : Ty α} {W : World} {F : Nat → Prop} {ys : List α} {A : Option Addr} {c : Nat} (hA : AppOk P t e d.sz bytes) (hS : St w0 w L) (k : Nat) (hl : look L k = some (own e d.sz v n fl)) (j : Nat) (hj : look L j = some (fz W F)) (ho : o.op = .call { callee := .builtin .append, args := #[x, y], argTypes := #[t, t] }) (hx : evalE E x = some v) (hy : evalE E y = some (.slice A ys.length c))
    (hys : RdF (tSl d) W F [.slice A ys.length c] ys) (hb : (n + ys.length) * bytes ≤ 140737488355328) (hn : n + ys.length ≤ maxL)
    (h : ∀ v' gl w', Reps d W F ys gl → (∃ A' c', v' = .slice A' (n + ys.length) c' ∧ n + ys.length ≤ c') → St w0 w' (upd L k (own e d.sz v' (n + ys.length) (fl ++ gl))) → K v' w') : Does P o E w K := by
  obtain ⟨gl, hr, hcell⟩ := hys.flat
  rcases Nat.eq_zero_or_pos ys.length with h0 | h0
  · intro nt D a ha
    have hg : gl = [] := List.eq_nil_of_length_eq_zero (by rw [hr.1, h0, Nat.zero_mul])
    subst hg
    have hst : St w0 w (upd L k (own e d.sz v (n + ys.length) (fl ++ []))) := by
      rw [h0, Nat.add_zero, List.append_nil]
      exact hS.upd hl (Kp.refl _ _) (hS.get hl) fun b hb => .inl hb
    have hown := hS.get hl
    have hform : ∃ A' c', v = .slice A' (n + ys.length) c' ∧ n + ys.length ≤ c' := by
      rw [h0, Nat.add_zero]
      rcases hown.2 with ⟨rfl, rfl⟩ | ⟨g, cap, cur, rfl, _, _, hc, _⟩
      · exact ⟨_, _, rfl, Nat.le_refl _⟩
      · exact ⟨_, _, rfl, hc⟩
    refine ⟨.value v, v, w, ?_, .inl rfl, h v [] w hr hform hst⟩
    obtain ⟨ht, ⟨i, z, hi, hz, hsz, hby, hzs⟩, hpos⟩ := hA
    obtain ⟨A', c', rfl, hc'⟩ := hform
    rw [h0] at hy hc'
    have hu : ∀ w, (underlying t).run P w = .ok (.slice e) w := fun w => by simp [underlying, ht]
    have hs : ∀ w, (sizeOf e).run P w = .ok d.sz w := fun w => by simp [sizeOf, typeInfo, hi, hsz]
    have hf : ∀ w, (Builtin.firstCells d.sz 0 (.slice A 0 c)).run P w = .ok #[] w := fun w => by cases A <;> simp [Builtin.firstCells, loadCells, loadCellsFrom]
    unfold execOp; rw [ho]
    rw [h0] at hx ⊢
    simp only [Nat.add_zero] at hc' hx ⊢
    cases A' <;> simp [resolve, invoke, builtin, ha.eval hx, ha.eval hy, Builtin.append_, hu, hs, Builtin.lenOf, hf, hc', storeCells]
  · obtain ⟨ad, rfl, hc⟩ := hcell h0
    have hones : ∀ u ∈ gl, u.oneCell' = true := by
      intro u hu
      obtain ⟨q, hq, rfl⟩ := List.getElem_of_mem hu
      have hlt : q / d.sz < ys.length := by
        rw [Nat.div_lt_iff_lt_mul d.pos, ← hr.1]; exact hq
      have hrd := (hr.2 _ _ (List.getElem?_eq_getElem hlt)).here
      have hdm := Nat.div_add_mod q d.sz
      have hml := Nat.mod_lt q d.pos
      refine d.one hrd _ ?_
      have : ((gl.drop (q / d.sz * d.sz)).take d.sz)[q % d.sz]? = some gl[q] := by
        rw [List.getElem?_take, if_pos hml, List.getElem?_drop, Nat.mul_comm, hdm, List.getElem?_eq_getElem hq]
      exact List.mem_of_getElem? this
    exact D_app hA hS hl ho hx hy (hc w (hS.get hj)) hr.1 hones hb hn h0 fun g' cap' w' hst => h _ gl w' hr ⟨_, _, rfl, by
      have h1 := (hst.ok _ (look_mem (show look (upd L k (own e d.sz (.slice (some ⟨g', 0, none⟩) (n + ys.length) cap') (n + ys.length) (fl ++ gl))) k = some _ from look_upd hl)))
      rcases h1.2 with ⟨h2, _⟩ | ⟨g2, cap2, cur2, h2, _, _, h3, _⟩
      · cases h2
      · cases h2; exact h3⟩ hst
end
end Go.Sl
