/- The texts Sl1, Sl2, Sl3, Sl4, Sl5, Sl6, Sl7, Sl8, Sl9, Sl10, Sl11, Sl12, Sl13, Sl14, Sl15, Sl16, Sl17, Sl18, Sl19, merged. Proved: what their theorems say, with no condition but those written. -/
import Derived.RangeFuncIn
import Derived.RangeFuncLeaves
import Derived.RangeFuncRecord
import Derived.Below
import Derived.Maps.AppendAt
import Derived.Deep.Draws
import Derived.Laws.World
import Derived.Laws.Pointers
import Derived.Laws.StructEq
import Derived.Laws.Strings
import Derived.OrdersIn
import Derived.Scope
import Derived.LoopNIn
import Derived.MapKept
import Derived.WideKeyRuns
import Derived.Laws.OwnMore
/- A small logic over the fenced walk: named temporaries, blocks told apart, the rules of the statements. -/
set_option linter.unusedVariables false
set_option linter.unusedSimpArgs false
namespace Go.Sl
open Go

/-! ### 1. Named temporaries -/
abbrev Env := List (Nat × Value)
def Env.get : Env → Nat → Option Value
  | [], _ => none
  | (k, v) :: r, t => match Nat.beq k t with
    | true => some v
    | false => Env.get r t
def evalE (E : Env) : Operand → Option Value
  | .tmp t => E.get t
  | .const v => some v
  | .global g => some (.pointer (some ⟨g, 0, none⟩))
  | .func f => some (.func (.func f) #[] #[])
/-- Every binding of the first holds in the second. -/
def SubE : Env → Env → Prop
  | [], _ => True
  | (t, v) :: r, E => E.get t = some v ∧ SubE r E
structure Ag (nt : Nat) (D : List Deferred) (E : Env) (a : Act) : Prop where
  size : a.tmps.size = nt
  defers : a.defers = D
  get : ∀ t v, E.get t = some v → a.tmps.getD t undef = v
theorem get_cons_same (E : Env) (t : Nat) (v : Value) : Env.get ((t, v) :: E) t = some v := by
  simp [Env.get, Nat.beq_refl]
theorem get_cons_other (E : Env) {k t : Nat} (v : Value) (h : k ≠ t) : Env.get ((k, v) :: E) t = Env.get E t := by
  have : Nat.beq k t = false := by
    cases hb : Nat.beq k t
    · rfl
    · exact absurd (Nat.eq_of_beq_eq_true hb) h
  simp [Env.get, this]
theorem SubE.get {E' E : Env} (h : SubE E' E) : ∀ t v, E'.get t = some v → E.get t = some v := by
  induction E' with
  | nil => intro t v hv; simp [Env.get] at hv
  | cons p r ih =>
    obtain ⟨k, u⟩ := p
    intro t v hv
    by_cases e : k = t
    · subst e
      rw [get_cons_same] at hv
      cases hv
      exact h.1
    · rw [get_cons_other _ _ e] at hv
      exact ih h.2 t v hv
section
variable {nt : Nat} {D : List Deferred} {E : Env} {a : Act}
theorem Ag.sub {E' : Env} (h : Ag nt D E a) (hs : SubE E' E) : Ag nt D E' a := ⟨h.size, h.defers, fun t v hv => h.get t v (hs.get t v hv)⟩
theorem Ag.eval (h : Ag nt D E a) {x : Operand} {v : Value} (hx : evalE E x = some v) : a.eval x = v := by
  cases x with
  | tmp t => exact h.get t v hx
  | const u => simpa [evalE, Act.eval] using hx
  | global g => simpa [evalE, Act.eval] using hx
  | func f => simpa [evalE, Act.eval] using hx
theorem Ag.put (h : Ag nt D E a) {d : Nat} (v : Value) (hd : Nat.blt d nt = true) : Ag nt D ((d, v) :: E) (a.put (some d) v) := by
  have hd' : d < a.tmps.size := by rw [h.size]; simpa [Nat.blt_eq] using hd
  refine ⟨by simp [Act.put, h.size], h.defers, fun t u hu => ?_⟩
  by_cases e : d = t
  · subst e
    rw [get_cons_same] at hu
    cases hu
    simp [Act.put, Array.getD_eq_getD_getElem?, hd']
  · rw [get_cons_other _ _ e] at hu
    have := h.get t u hu
    rw [Array.getD_eq_getD_getElem?] at this ⊢
    simp only [Act.put, Array.getElem?_setIfInBounds, e, if_false]
    exact this
theorem Ag.enter {args : Array Value} (k : Nat) (E : Env) (hE : ∀ t v, E.get t = some v → args[t]? = some v) :
    Ag (args.size + k) [] E { tmps := args ++ Array.replicate k undef, defers := [] } := by
  refine ⟨by simp, rfl, fun t v hv => ?_⟩
  have h1 := hE t v hv
  have hlt : t < args.size := by
    rcases Nat.lt_or_ge t args.size with h | h
    · exact h
    · rw [Array.getElem?_eq_none h] at h1; cases h1
  rw [Array.getD_eq_getD_getElem?, Array.getElem?_append_left hlt, h1]
  rfl
end

/-! ### 2. The wide fence, in a round or not -/
def Fw (ro : Option Nat) : Fence := { fn := fun _ => True, depth := none, alive := false, round := ro }
theorem callsIn_fw {P : Program} {f : FuncId} {args : Array Value} {w : World} {R : Ending → World → Prop} : CallsIn (Fw none) 0 P f args w R ↔ Calls P f args w R := callsIn_wide
theorem callsIn_fw_any {P : Program} {f : FuncId} {args : Array Value} {w : World} {R : Ending → World → Prop} (ro : Option Nat) {n : Nat} (h : Calls P f args w R) : CallsIn (Fw ro) n P f args w R := by
  have h1 : CallsIn Fence.wide n P f args w R := callsIn_wide.2 h
  exact h1

/-! ### 3. Operations -/
/-- An operation that reads alone. -/
def Qt (P : Program) (o : Oper) (E : Env) (w : World) (v : Value) : Prop :=
  ∀ (nt : Nat) (D : List Deferred) (a : Act), Ag nt D E a → (execOp a.eval o).run P w = .ok (.value v) w
/-- An operation that turns the world. -/
def Does (P : Program) (o : Oper) (E : Env) (w : World) (K : Value → World → Prop) : Prop :=
  ∀ (nt : Nat) (D : List Deferred) (a : Act), Ag nt D E a → ∃ nx v w', (execOp a.eval o).run P w = .ok nx w' ∧ (nx = .value v ∨ (nx = .skip ∧ v = undef)) ∧ K v w'
/-- An operation that calls. -/
def CallsTo (P : Program) (o : Oper) (E : Env) (w : World) (f : FuncId) (args : Array Value) : Prop :=
  ∀ (nt : Nat) (D : List Deferred) (a : Act), Ag nt D E a → (execOp a.eval o).run P w = .ok (.enter f args) w
def wantsE (ops : Array Oper) (o : Oper) (E : Env) : Option Bool :=
  match o.guard with
  | none => some true
  | some (j, want) => match (ops[j]?).bind (·.dst) with
    | some d => match E.get d with
      | some (.bool b) => some (b == want)
      | some (.tuple _) => some false
      | _ => none
    | none => none
theorem wanted_of {nt : Nat} {D : List Deferred} {E : Env} {a : Act} {ops : Array Oper} {o : Oper} {b : Bool} (h : Ag nt D E a) (hw : wantsE ops o E = some b) (hlt : ∀ j want d, o.guard = some (j, want) → (ops[j]?).bind (·.dst) = some d → d < nt) :
    Region.wanted o (yielded ops a.tmps) = b := by
  unfold wantsE at hw
  unfold Region.wanted
  cases hg : o.guard with
  | none => rw [hg] at hw; simpa using hw
  | some p =>
    obtain ⟨j, want⟩ := p
    rw [hg] at hw
    simp only at hw ⊢
    cases hd : (ops[j]?).bind (·.dst) with
    | none => rw [hd] at hw; cases hw
    | some d =>
      rw [hd] at hw
      simp only at hw
      cases hv : E.get d with
      | none => rw [hv] at hw; cases hw
      | some v =>
        rw [hv] at hw
        have hget := h.get d v hv
        have hlt' : d < a.tmps.size := by rw [h.size]; exact hlt j want d hg hd
        have hat : a.tmps[d]? = some v := by
          rw [Array.getD_eq_getD_getElem?, Array.getElem?_eq_getElem hlt'] at hget
          rw [Array.getElem?_eq_getElem hlt']
          simpa using hget
        cases v <;> simp at hw
        · subst hw
          simp [yielded, hd, hat]
        · subst hw
          simp [yielded, hd, hat]

/-- What is to be shown of a region's operations from here on. -/
def J (ro : Option Nat) (P : Program) (nt : Nat) (D : List Deferred) (ops : Array Oper) (Q : Exit → Act → World → Prop) (l : List Nat) (E : Env) (w : World) : Prop :=
  ∀ a, Ag nt D E a → wpOpsIn (Fw ro) 0 P ops Q l a w
/-- .. of a statement. -/
def C (ro : Option Nat) (P : Program) (nt : Nat) (D : List Deferred) (c : Code) (Q : Exit → Act → World → Prop) (E : Env) (w : World) : Prop :=
  ∀ a, Ag nt D E a → c.wpIn (Fw ro) 0 P Q a w

def guardLt (ops : Array Oper) (o : Oper) (nt : Nat) : Bool :=
  match o.guard with
  | none => true
  | some (j, _) => match (ops[j]?).bind (·.dst) with
    | some d => Nat.blt d nt
    | none => true
theorem guardLt_of {ops : Array Oper} {o : Oper} {nt : Nat} (h : guardLt ops o nt = true) : ∀ j want d, o.guard = some (j, want) → (ops[j]?).bind (·.dst) = some d → d < nt := by
  intro j want d hg hd
  unfold guardLt at h
  rw [hg] at h
  simp only [hd] at h
  simpa [Nat.blt_eq] using h


def notDefer (o : Oper) : Bool := match o.op with
  | .defer _ => false
  | _ => true
/-- What of an operation's shape every rule asks, as one closed fact. -/
def fine (ops : Array Oper) (o : Oper) (nt : Nat) : Bool := notDefer o && guardLt ops o nt && (match o.dst with | some d => Nat.blt d nt | none => true)
/-- The temporaries behind an operation. -/
def after (o : Oper) (v : Value) (E : Env) : Env := match o.dst with
  | some d => (d, v) :: E
  | none => E
section
variable {ro : Option Nat} {P : Program} {nt : Nat} {D : List Deferred} {ops : Array Oper} {Q : Exit → Act → World → Prop} {l : List Nat} {E : Env} {w : World} {i : Nat} {o : Oper} {a : Act}
theorem fine_semAt (h : fine ops o nt = true) (ro : Option Nat) (ρ : Operand → Value) : o.semAt ro ρ = execOp ρ o := by
  refine Oper.semAt_eq ro ρ o fun c hc => ?_
  simp [fine, notDefer, hc] at h
theorem fine_guard (h : fine ops o nt = true) : guardLt ops o nt = true := by
  simp [fine] at h
  exact h.1.2
theorem Ag.after (ha : Ag nt D E a) (v : Value) (h : fine ops o nt = true) : Ag nt D (after o v E) (a.put o.dst v) := by
  unfold Sl.after
  cases hd : o.dst with
  | none => exact ha
  | some d =>
    refine ha.put v ?_
    simp [fine, hd] at h
    rw [Nat.blt_eq]
    exact h.2
theorem J_nil (h : ∀ a, Ag nt D E a → Q .normal a w) : J ro P nt D ops Q [] E w := fun a ha => h a ha
theorem J_q (d : Nat) {v : Value} (ho : ops[i]? = some o) (hf : fine ops o nt = true) (hw : wantsE ops o E = some true) (hd : o.dst = some d)
    (hq : Qt P o E w v) (hk : J ro P nt D ops Q l ((d, v) :: E) w) : J ro P nt D ops Q (i :: l) E w := by
  have hk : J ro P nt D ops Q l (after o v E) w := by unfold Sl.after; rw [hd]; exact hk
  intro a ha
  have h1 := wanted_of ha hw (guardLt_of (fine_guard hf))
  have h2 := hq nt D a ha
  have h3 := hk _ (ha.after v hf)
  simp only [wpOpsIn, ho, h1, if_true, Oper.wpIn, fine_semAt hf, h2, Oper.uponIn]
  exact ⟨fun _ _ => trivial, h3⟩
/-- Its guard does not want it. -/
theorem J_no (ho : ops[i]? = some o) (hf : fine ops o nt = true) (hw : wantsE ops o E = some false)
    (hk : J ro P nt D ops Q l E w) (hn : ∀ d, o.dst = some d → E.get d = none := by exact fun _ h => by cases h; rfl) : J ro P nt D ops Q (i :: l) E w := by
  have hk : J ro P nt D ops Q l (after o undef E) w := by
    unfold Sl.after
    cases hd : o.dst with
    | none => exact hk
    | some d =>
      refine fun a ha => hk a ⟨ha.size, ha.defers, fun t v hv => ha.get t v ?_⟩
      have hne : d ≠ t := fun e => by rw [← e, hn d hd] at hv; cases hv
      rw [get_cons_other _ _ hne]
      exact hv
  intro a ha
  have h1 := wanted_of ha hw (guardLt_of (fine_guard hf))
  have h3 := hk _ (ha.after undef hf)
  simp only [wpOpsIn, ho, h1]
  exact ⟨fun _ _ => trivial, h3⟩
theorem J_noU (d : Nat) (ho : ops[i]? = some o) (hf : fine ops o nt = true) (hw : wantsE ops o E = some false) (hd : o.dst = some d)
    (hk : J ro P nt D ops Q l ((d, undef) :: E) w) : J ro P nt D ops Q (i :: l) E w := by
  have hk : J ro P nt D ops Q l (after o undef E) w := by unfold Sl.after; rw [hd]; exact hk
  intro a ha
  have h1 := wanted_of ha hw (guardLt_of (fine_guard hf))
  have h3 := hk _ (ha.after undef hf)
  simp only [wpOpsIn, ho, h1]
  exact ⟨fun _ _ => trivial, h3⟩
theorem J_do' (ho : ops[i]? = some o) (hf : fine ops o nt = true) (hw : wantsE ops o E = some true)
    (hq : Does P o E w (fun v w' => J ro P nt D ops Q l (after o v E) w')) : J ro P nt D ops Q (i :: l) E w := by
  intro a ha
  have h1 := wanted_of ha hw (guardLt_of (fine_guard hf))
  obtain ⟨nx, v, w', hr, hnx, hK⟩ := hq nt D a ha
  have h3 := hK _ (ha.after v hf)
  simp only [wpOpsIn, ho, h1, if_true, Oper.wpIn, fine_semAt hf, hr]
  rcases hnx with rfl | ⟨rfl, rfl⟩
  · exact ⟨fun _ _ => trivial, h3⟩
  · exact ⟨fun _ _ => trivial, h3⟩
theorem J_do (d : Nat) (ho : ops[i]? = some o) (hf : fine ops o nt = true) (hw : wantsE ops o E = some true) (hd : o.dst = some d)
    (hq : Does P o E w (fun v w' => J ro P nt D ops Q l ((d, v) :: E) w')) : J ro P nt D ops Q (i :: l) E w :=
  J_do' ho hf hw (by unfold Sl.after; simp only [hd]; exact hq)
theorem J_do0 (ho : ops[i]? = some o) (hf : fine ops o nt = true) (hw : wantsE ops o E = some true) (hd : o.dst = none)
    (hq : Does P o E w (fun _ w' => J ro P nt D ops Q l E w')) : J ro P nt D ops Q (i :: l) E w :=
  J_do' ho hf hw (by unfold Sl.after; simp only [hd]; exact hq)
theorem J_call' {f : FuncId} {args : Array Value} {R : Ending → World → Prop} (ho : ops[i]? = some o) (hf : fine ops o nt = true) (hw : wantsE ops o E = some true)
    (hq : CallsTo P o E w f args) (hc : Calls P f args w R)
    (hk : ∀ e w', R e w' → ∃ v, e = .returned v ∧ J ro P nt D ops Q l (after o v E) w') : J ro P nt D ops Q (i :: l) E w := by
  intro a ha
  have h1 := wanted_of ha hw (guardLt_of (fine_guard hf))
  have h2 := hq nt D a ha
  simp only [wpOpsIn, ho, h1, if_true, Oper.wpIn, fine_semAt hf, h2, Oper.uponIn]
  refine ⟨fun _ _ => trivial, fun h => by simp [Fw] at h, ?_⟩
  refine (callsIn_fw_any ro hc).mono ?_
  rintro e w' hR
  obtain ⟨v, rfl, hJ⟩ := hk e w' hR
  exact hJ _ (ha.after v hf)
theorem J_call (d : Nat) {f : FuncId} {args : Array Value} {R : Ending → World → Prop} (ho : ops[i]? = some o) (hf : fine ops o nt = true) (hw : wantsE ops o E = some true) (hd : o.dst = some d)
    (hq : CallsTo P o E w f args) (hc : Calls P f args w R)
    (hk : ∀ e w', R e w' → ∃ v, e = .returned v ∧ J ro P nt D ops Q l ((d, v) :: E) w') : J ro P nt D ops Q (i :: l) E w :=
  J_call' ho hf hw hq hc (by unfold Sl.after; simp only [hd]; exact hk)
/-! ### 4. Statements -/
theorem C_region {id : Nat} (h : J ro P nt D ops Q (List.range ops.size) E w) : C ro P nt D (.region id ops false) Q E w :=
  fun a ha => wpIn_region (h a ha)
theorem C_seq {x y : Code} (h : C ro P nt D x (Exit.then (y.wpIn (Fw ro) 0 P Q) Q) E w) : C ro P nt D (.seq x y) Q E w := fun a ha => wpIn_seq (h a ha)
theorem C_skip (h : ∀ a, Ag nt D E a → Q .normal a w) : C ro P nt D .skip Q E w := fun a ha => wpIn_skip (h a ha)
theorem C_exit {id : Nat} (h : ∀ a, Ag nt D E a → Q (.exit id) a w) : C ro P nt D (.exit id) Q E w := fun a ha => wpIn_exit (h a ha)
theorem C_ret (h : ∀ a, Ag nt D E a → Q .ret a w) : C ro P nt D .ret Q E w := fun a ha => wpIn_ret (h a ha)
theorem C_block {id : Nat} {c : Code} (h : C ro P nt D c (Exit.inBlock id Q) E w) : C ro P nt D (.block id c) Q E w := fun a ha => wpIn_block (h a ha)
theorem C_true {c : Operand} {x y : Code} (hc : evalE E c = some (.bool true)) (h : C ro P nt D x Q E w) : C ro P nt D (.cond c x y) Q E w := fun a ha => wpIn_cond_true (ha.eval hc) (h a ha)
theorem C_false {c : Operand} {x y : Code} (hc : evalE E c = some (.bool false)) (h : C ro P nt D y Q E w) : C ro P nt D (.cond c x y) Q E w := fun a ha => wpIn_cond_false (ha.eval hc) (h a ha)
theorem C_if {c : Operand} {x y : Code} {p : Prop} [Decidable p] (hc : evalE E c = some (.bool (decide p))) (h1 : p → C ro P nt D x Q E w) (h2 : ¬ p → C ro P nt D y Q E w) : C ro P nt D (.cond c x y) Q E w := by
  by_cases h : p
  · exact C_true (by rw [hc, decide_eq_true h]) (h1 h)
  · exact C_false (by rw [hc, decide_eq_false h]) (h2 h)
theorem C_bool {c : Operand} {x y : Code} {b : Bool} (hc : evalE E c = some (.bool b)) (h1 : b = true → C ro P nt D x Q E w) (h2 : b = false → C ro P nt D y Q E w) : C ro P nt D (.cond c x y) Q E w := by
  cases b
  · exact C_false hc (h2 rfl)
  · exact C_true hc (h1 rfl)
/-- Fewer names, the same statement. -/
theorem C_sub {c : Code} {E' : Env} (hs : SubE E' E) (h : C ro P nt D c Q E' w) : C ro P nt D c Q E w := fun a ha => h a (ha.sub hs)
theorem J_sub {E' : Env} (hs : SubE E' E) (h : J ro P nt D ops Q l E' w) : J ro P nt D ops Q l E w := fun a ha => h a (ha.sub hs)
/-- What stands behind a statement of a sequence. -/
theorem K_seq {y : Code} {K : Exit → Act → World → Prop} (h : C ro P nt D y Q E w) : ∀ a, Ag nt D E a → (Exit.then (y.wpIn (Fw ro) 0 P Q) K) .normal a w := fun a ha => h a ha
/-- **A loop.** x: what a round goes by; μ: what every round lowers. -/
theorem C_loop {α : Type} {c : Code} (μ : α → Nat) (Eh : α → Env) (I : α → World → Prop) (x : α) (hI : I x w) (hE : SubE (Eh x) E)
    (round : ∀ x w, I x w → C ro P nt D c (Exit.then (fun a' w' => ∃ x', I x' w' ∧ μ x' < μ x ∧ Ag nt D (Eh x') a') Q) (Eh x) w) : C ro P nt D (.loop c) Q E w := by
  intro a ha b k cs hro hb hr
  have key : ∀ n x a w, μ x = n → I x w → Ag nt D (Eh x) a →
      ∃ e a' w', Q e a' w' ∧ ArrivesIn (Machine.fenced P (Fw ro)) P (lone (b.atR a (.code c :: .inLoop c :: k)) cs w) b k cs e a' w' := by
    intro n
    induction n using Nat.strongRecOn with
    | _ n ih =>
      intro x a w hn hI ha
      obtain ⟨e, a₁, w₁, hq, harr⟩ := round x w hI a ha b (.inLoop c :: k) cs hro hb hr
      cases e with
      | normal =>
        obtain ⟨x', hI', hlt, ha'⟩ := hq
        obtain ⟨e₂, a₂, w₂, hq₂, harr₂⟩ := ih (μ x') (hn ▸ hlt) x' a₁ w₁ rfl hI' ha'
        exact ⟨e₂, a₂, w₂, hq₂, .of_steps (StepsIn.trans harr (.one (fenced_calm hb hr rfl) stepR_inLoop)) harr₂⟩
      | exit id => exact ⟨_, a₁, w₁, hq, .pass (x := .inLoop c) rfl (fun _ _ => .inl (by simp)) harr⟩
      | goto l => exact ⟨_, a₁, w₁, hq, .pass (x := .inLoop c) rfl (fun _ _ => .inl (by simp)) harr⟩
      | ret => exact ⟨_, a₁, w₁, hq, .pass (x := .inLoop c) rfl (fun _ _ => .inl (by simp)) harr⟩
      | panic ch => exact ⟨_, a₁, w₁, hq, .pass (x := .inLoop c) rfl (fun _ _ => .inl (by simp)) harr⟩
      | outgrown => exact ⟨_, a₁, w₁, hq, .pass (x := .inLoop c) rfl (fun _ _ => .inl (by simp)) harr⟩
  obtain ⟨e, a', w', hq, harr⟩ := key _ x a w rfl hI (ha.sub hE)
  exact ⟨e, a', w', hq, .of_steps (.one (fenced_calm hb hr rfl) stepR_loop) harr⟩
/-- The end of a round. -/
theorem K_round {α : Type} {x : α} {μ : α → Nat} {Eh : α → Env} {I : α → World → Prop} (x' : α) (hI : I x' w) (hlt : μ x' < μ x) (hE : SubE (Eh x') E) :
    ∀ a, Ag nt D E a → (Exit.then (fun a' w' => ∃ x', I x' w' ∧ μ x' < μ x ∧ Ag nt D (Eh x') a') Q) .normal a w := fun _ ha => ⟨x', hI, hlt, ha.sub hE⟩
/-- What a function's body owes, as one word. -/
structure Body (P : Program) (fn : Func) (R : Ending → World → Prop) (e : Exit) (a : Act) (w : World) : Prop where
  out : bodyPost P fn R e a w
/-- **A function.** -/
theorem fn_calls {f : FuncId} {fn : Func} {c : Code} {args : Array Value} {R : Ending → World → Prop} (hf : P.funcs[f]? = some fn) (hb : fn.body = some c) (n : Nat) (hn : fn.ntmps = args.size + n) (E : Env)
    (hE : ∀ t v, E.get t = some v → args[t]? = some v) (h : C none P (args.size + n) [] c (bodyPost P fn R) E w) : Calls P f args w R := by
  refine callsIn_fw.1 (callsIn_of_wp (F := Fw none) hf hb trivial ?_ rfl)
  rw [hn, Nat.add_sub_cancel_left]
  exact h _ (Ag.enter n E hE)
def argsE : Nat → List Value → Env
  | _, [] => []
  | k, v :: r => (k, v) :: argsE (k + 1) r
theorem argsE_get : ∀ (l : List Value) (k t : Nat) (v : Value), (argsE k l).get t = some v → k ≤ t ∧ l[t - k]? = some v
  | [], k, t, v, h => by simp [argsE, Env.get] at h
  | u :: r, k, t, v, h => by
    by_cases e : k = t
    · subst e
      rw [argsE, get_cons_same] at h
      cases h
      simp
    · rw [argsE, get_cons_other _ _ e] at h
      obtain ⟨h1, h2⟩ := argsE_get r (k + 1) t v h
      refine ⟨by omega, ?_⟩
      rw [show t - k = (t - (k + 1)) + 1 by omega]
      simpa using h2
/-- .. its arguments named by their places. -/
theorem fn_calls' (nt : Nat) {f : FuncId} {fn : Func} {c : Code} {args : List Value} {R : Ending → World → Prop} (hf : P.funcs[f]? = some fn) (hb : fn.body = some c) (hn : fn.ntmps = nt) (hl : Nat.ble args.length nt = true)
    (h : C none P nt [] c (Body P fn R) (argsE 0 args) w) : Calls P f args.toArray w R := by
  have hl' : args.length ≤ nt := Nat.le_of_ble_eq_true hl
  have e : nt = args.toArray.size + (nt - args.length) := by simp; omega
  refine fn_calls (args := args.toArray) hf hb (nt - args.length) (by rw [hn]; exact e) (argsE 0 args) (fun t v ht => by have := argsE_get args 0 t v ht; simpa using this.2) ?_
  rw [← e]
  exact fun a ha => wpIn_mono (h a ha) fun _ _ _ hq => hq.out
/-- What a return owes. -/
theorem body_ret {fn : Func} {R : Ending → World → Prop} {v : Value} (hr : ∀ a, Ag nt [] E a → (results fn a.tmps).run P w = .ok v w) (hR : R (.returned v) w) : ∀ a, Ag nt [] E a → Body P fn R .ret a w :=
  fun a ha => ⟨⟨ha.defers, v, hr a ha, hR⟩⟩
theorem body_end {fn : Func} {R : Ending → World → Prop} {v : Value} (hr : ∀ a, Ag nt [] E a → (results fn a.tmps).run P w = .ok v w) (hR : R (.returned v) w) : ∀ a, Ag nt [] E a → Body P fn R .normal a w :=
  fun a ha => ⟨⟨ha.defers, v, hr a ha, hR⟩⟩
/-! ### 5. Which way a jump goes -/
section
variable {id id' : Nat} {K : Act → World → Prop}
theorem X_then (h : ∀ a, Ag nt D E a → Q (.exit id) a w) : ∀ a, Ag nt D E a → Exit.then K Q (.exit id) a w := h
theorem X_hit (h : ∀ a, Ag nt D E a → Q .normal a w) : ∀ a, Ag nt D E a → Exit.inBlock id Q (.exit id) a w := fun a ha => by simp only [Exit.inBlock, if_true]; exact h a ha
theorem X_miss (hne : Nat.beq id' id = false) (h : ∀ a, Ag nt D E a → Q (.exit id') a w) : ∀ a, Ag nt D E a → Exit.inBlock id Q (.exit id') a w := fun a ha => by
  have : id' ≠ id := fun e => by rw [e, Nat.beq_refl] at hne; cases hne
  simp only [Exit.inBlock, this, if_false]; exact h a ha
theorem N_blk (h : ∀ a, Ag nt D E a → Q .normal a w) : ∀ a, Ag nt D E a → Exit.inBlock id Q .normal a w := h
theorem R_then (h : ∀ a, Ag nt D E a → Q .ret a w) : ∀ a, Ag nt D E a → Exit.then K Q .ret a w := h
theorem R_blk (h : ∀ a, Ag nt D E a → Q .ret a w) : ∀ a, Ag nt D E a → Exit.inBlock id Q .ret a w := h
end
theorem C_ifT {c : Operand} {x y : Code} {p : Prop} [Decidable p] (hc : evalE E c = some (.bool (decide p))) (hp : p) (h : C ro P nt D x Q E w) : C ro P nt D (.cond c x y) Q E w := C_true (by rw [hc, decide_eq_true hp]) h
theorem C_ifF {c : Operand} {x y : Code} {p : Prop} [Decidable p] (hc : evalE E c = some (.bool (decide p))) (hp : ¬ p) (h : C ro P nt D y Q E w) : C ro P nt D (.cond c x y) Q E w := C_false (by rw [hc, decide_eq_false hp]) h
end
end Go.Sl

/- A small logic over the fenced walk: the heap as blocks told apart, and what values read as. -/
namespace Go.Sl
open Go Go.RowKit

/-! ### 5. What a step keeps -/
structure Kp (M : Nat → Prop) (w w' : World) : Prop where
  os : w'.os = w.os
  tape : w'.tape = w.tape
  out : w'.output = w.output
  size : w.heap.size ≤ w'.heap.size
  blk : ∀ b, b < w.heap.size → ¬ M b → w'.heap[b]? = w.heap[b]?
abbrev no : Nat → Prop := fun _ => False
/-- The blocks that were made between two worlds. -/
def nw (w w' : World) : Nat → Prop := fun b => w.heap.size ≤ b ∧ b < w'.heap.size
def lt_ (w : World) : Nat → Prop := fun b => b < w.heap.size
def or_ (F G : Nat → Prop) : Nat → Prop := fun b => F b ∨ G b
section
variable {M M' : Nat → Prop} {w w1 w2 w' : World}
theorem Kp.refl (M : Nat → Prop) (w : World) : Kp M w w := ⟨rfl, rfl, rfl, Nat.le_refl _, fun _ _ _ => rfl⟩
theorem Kp.mono (h : Kp M w w') (hm : ∀ b, M b → M' b) : Kp M' w w' := ⟨h.os, h.tape, h.out, h.size, fun b hb hn => h.blk b hb fun hM => hn (hm b hM)⟩
theorem Kp.trans (h : Kp M w w1) (k : Kp M' w1 w2) (hm : ∀ b, M' b → M b ∨ w.heap.size ≤ b) : Kp M w w2 :=
  ⟨k.os.trans h.os, k.tape.trans h.tape, k.out.trans h.out, Nat.le_trans h.size k.size, fun b hb hn =>
    (k.blk b (Nat.lt_of_lt_of_le hb h.size) fun hM => (hm b hM).elim hn fun hge => absurd hb (by omega)).trans (h.blk b hb hn)⟩
theorem Kp.trans0 (h : Kp M w w1) (k : Kp no w1 w2) : Kp M w w2 := h.trans k fun _ hb => hb.elim
theorem Kp.alloc (w : World) (o : Obj) : Kp no w (w.alloc o) := ⟨rfl, rfl, rfl, by simp, fun b hb _ => by unfold World.alloc; simp [Array.getElem?_push, Nat.ne_of_lt hb]⟩
theorem Kp.drew (w : World) : Kp no w w.drew := ⟨rfl, rfl, rfl, Nat.le_refl _, fun _ _ _ => rfl⟩
theorem Kp.of_grown {row : Option Nat} (h : w.grownBy w' row) : Kp (fun b => row = some b) w w' := ⟨h.os, h.tape, h.output, h.size, fun b hb hn => h.block b hb fun e => hn e.symm⟩
theorem Kp.grown (h : Kp no w w') (row : Option Nat) : w.grownBy w' row := ⟨h.os, h.tape, h.out, h.size, fun b hb _ => h.blk b hb id⟩
theorem Kp.of_below (h : Below w.heap.size w w') : Kp no w w' := ⟨h.os, h.tape, h.output, h.size, fun b hb _ => h.block b hb⟩
theorem Kp.below (h : Kp no w w') : Below w.heap.size w w' := ⟨h.os, h.tape, h.out, h.size, fun b hb => h.blk b hb id⟩
theorem Kp.setCell (w : World) (a : Addr) (v : Value) : Kp (· = a.block) w (w.setCell a v) :=
  ⟨rfl, rfl, rfl, by simp, fun b _ hn => by simp [World.setCell, Array.getElem?_modify, Ne.symm hn]⟩
end
theorem heap_alloc_new' (w : World) (o : Obj) : (w.alloc o).heap[w.heap.size]? = some o := by unfold World.alloc; simp

/-! ### 6. Blocks told apart -/
structure Ent where
  fp : Nat → Prop
  ok : World → Prop
  st : ∀ {w w' : World}, (∀ b, fp b → w'.heap[b]? = w.heap[b]?) → ok w → ok w'
/-- Block g holds o. -/
def blk (g : Nat) (o : Obj) : Ent := { fp := (· = g), ok := fun w => w.heap[g]? = some o, st := fun h hw => (h g rfl).trans hw }
/-- The blocks of F lie as in W. -/
def fz (W : World) (F : Nat → Prop) : Ent := { fp := F, ok := fun w => ∀ b, F b → w.heap[b]? = W.heap[b]?, st := fun h hw b hb => (h b hb).trans (hw b hb) }
/-- A row of one's own. -/
def own (e : TypeId) (sz : Nat) (v : Value) (n : Nat) (xs : List Value) : Ent :=
  { fp := fun b => v.ownBlock = some b
    ok := fun w => w.ownsRow 0 e sz v n xs
    st := by
      rintro w w' h ⟨h1, h2⟩
      refine ⟨h1, ?_⟩
      rcases h2 with h2 | ⟨g, cap, cur, rfl, hb, hh, hr⟩
      · exact .inl h2
      · exact .inr ⟨g, cap, cur, rfl, hb, (h g rfl).trans hh, hr⟩ }
abbrev Hp := List (Nat × Ent)
def look : Hp → Nat → Option Ent
  | [], _ => none
  | (k, e) :: r, j => match Nat.beq k j with
    | true => some e
    | false => look r j
def upd : Hp → Nat → Ent → Hp
  | [], _, _ => []
  | (k, e) :: r, j, e' => match Nat.beq k j with
    | true => (k, e') :: r
    | false => (k, e) :: upd r j e'
def keyIn : Hp → Nat → Bool
  | [], _ => false
  | (k, _) :: r, j => Nat.beq k j || keyIn r j
structure St (w0 w : World) (L : Hp) : Prop where
  os : w.os = w0.os
  tape : w.tape = w0.tape
  out : w.output = w0.output
  size : w0.heap.size ≤ w.heap.size
  ok : ∀ x ∈ L, x.2.ok w
  lt : ∀ x ∈ L, ∀ b, x.2.fp b → b < w.heap.size
  sep : L.Pairwise fun x y => ∀ b, x.2.fp b → y.2.fp b → False
section
variable {w0 w w' : World} {L : Hp} {k j : Nat} {e e' : Ent} {M : Nat → Prop}
theorem beq_of {k j : Nat} (h : Nat.beq k j = true) : k = j := Nat.eq_of_beq_eq_true h
theorem look_upd : ∀ {L : Hp} {k : Nat} {e e2 : Ent}, look L k = some e → look (upd L k e2) k = some e2
  | (k0, e0) :: r, k, e, e2, h => by
    unfold look at h
    unfold Sl.upd
    cases hb : Nat.beq k0 k with
    | true => simp [look, hb]
    | false =>
      rw [hb] at h
      simp only [look, hb]
      exact look_upd h
theorem look_mem : ∀ {L : Hp} {k : Nat} {e : Ent}, look L k = some e → (k, e) ∈ L
  | (k', e') :: r, k, e, h => by
    unfold look at h
    cases hb : Nat.beq k' k with
    | true =>
      rw [hb] at h
      simp only [Option.some.injEq] at h
      rw [beq_of hb, h]
      exact List.mem_cons_self
    | false =>
      rw [hb] at h
      exact List.mem_cons_of_mem _ (look_mem h)
theorem St.get (h : St w0 w L) (hk : look L k = some e) : e.ok w := h.ok _ (look_mem hk)
theorem St.fpLt (h : St w0 w L) (hk : look L k = some e) : ∀ b, e.fp b → b < w.heap.size := h.lt _ (look_mem hk)
theorem pair_disj : ∀ {L : Hp}, L.Pairwise (fun x y => ∀ b, x.2.fp b → y.2.fp b → False) → look L k = some e → look L j = some e' → Nat.beq k j = false → ∀ b, e.fp b → e'.fp b → False
  | (k', e0) :: r, hp, hk, hj, hne => by
    obtain ⟨h1, h2⟩ := List.pairwise_cons.1 hp
    unfold look at hk hj
    cases hb : Nat.beq k' k with
    | true =>
      rw [hb] at hk
      simp only [Option.some.injEq] at hk
      subst hk
      rw [beq_of hb, hne] at hj
      exact h1 _ (look_mem hj)
    | false =>
      rw [hb] at hk
      cases hb2 : Nat.beq k' j with
      | true =>
        rw [hb2] at hj
        simp only [Option.some.injEq] at hj
        subst hj
        exact fun b x y => h1 _ (look_mem hk) b y x
      | false =>
        rw [hb2] at hj
        exact pair_disj h2 hk hj hne
theorem St.disj (h : St w0 w L) (hk : look L k = some e) (hj : look L j = some e') (hne : Nat.beq k j = false) : ∀ b, e.fp b → e'.fp b → False := pair_disj h.sep hk hj hne
/-- A step that turns nothing that is told. -/
theorem St.kp (h : St w0 w L) (hk : Kp M w w') (hm : ∀ x ∈ L, ∀ b, x.2.fp b → ¬ M b) : St w0 w' L :=
  ⟨hk.os.trans h.os, hk.tape.trans h.tape, hk.out.trans h.out, Nat.le_trans h.size hk.size, fun x hx => x.2.st (fun b hb => hk.blk b (h.lt x hx b hb) (hm x hx b hb)) (h.ok x hx),
    fun x hx b hb => Nat.lt_of_lt_of_le (h.lt x hx b hb) hk.size, h.sep⟩
theorem St.kp0 (h : St w0 w L) (hk : Kp no w w') : St w0 w' L := h.kp hk fun _ _ _ _ => id
/-- .. and something new beside it. -/
theorem St.new (h : St w0 w L) (hk : Kp no w w') (k : Nat) (e : Ent) (he : e.ok w') (hf : ∀ b, e.fp b → nw w w' b) : St w0 w' ((k, e) :: L) := by
  have h' := h.kp0 hk
  refine ⟨h'.os, h'.tape, h'.out, h'.size, ?_, ?_, List.pairwise_cons.2 ⟨fun x hx b hb hb' => ?_, h'.sep⟩⟩
  · intro x hx
    rcases List.mem_cons.1 hx with rfl | hx
    · exact he
    · exact h'.ok x hx
  · intro x hx b hb
    rcases List.mem_cons.1 hx with rfl | hx
    · exact (hf b hb).2
    · exact h'.lt x hx b hb
  · have h1 := (hf b hb).1
    have h2 := h.lt x hx b hb'
    omega
theorem St.alloc (h : St w0 w L) (k : Nat) (o : Obj) : St w0 (w.alloc o) ((k, blk w.heap.size o) :: L) :=
  h.new (Kp.alloc w o) k _ (heap_alloc_new' w o) fun b hb => by
    have : b = w.heap.size := hb
    exact ⟨by omega, by simp; omega⟩
theorem St.call (h : St w0 w L) (hk : Kp no w w') (k : Nat) : St w0 w' ((k, fz w' (nw w w')) :: L) := h.new hk k _ (fun _ _ => rfl) fun _ hb => hb
theorem upd_mem : ∀ {L : Hp} {k : Nat} {e' : Ent} {x : Nat × Ent}, x ∈ upd L k e' → (x = (k, e') ∧ keyIn L k = true) ∨ (x ∈ L)
  | (k0, e0) :: r, k, e', x, hx => by
    unfold upd at hx
    cases hb : Nat.beq k0 k with
    | true =>
      rw [hb] at hx
      rcases List.mem_cons.1 hx with rfl | hx
      · exact .inl ⟨by rw [beq_of hb], by simp [keyIn, hb]⟩
      · exact .inr (List.mem_cons_of_mem _ hx)
    | false =>
      rw [hb] at hx
      rcases List.mem_cons.1 hx with rfl | hx
      · exact .inr List.mem_cons_self
      · rcases upd_mem hx with ⟨h1, h2⟩ | h
        · exact .inl ⟨h1, by simp [keyIn, h2]⟩
        · exact .inr (List.mem_cons_of_mem _ h)
/-- One entry turns: what it turns into lies where it lay, or in new blocks. -/
theorem St.upd (h : St w0 w L) (hl : look L k = some e) (hk : Kp e.fp w w') (he : e'.ok w') (hf : ∀ b, e'.fp b → e.fp b ∨ nw w w' b) : St w0 w' (upd L k e') := by
  have key : ∀ (L : Hp), (∀ x ∈ L, x.2.ok w) → (∀ x ∈ L, ∀ b, x.2.fp b → b < w.heap.size) → L.Pairwise (fun x y => ∀ b, x.2.fp b → y.2.fp b → False) → look L k = some e →
      (∀ x ∈ Sl.upd L k e', x.2.ok w') ∧ (∀ x ∈ Sl.upd L k e', ∀ b, x.2.fp b → b < w'.heap.size) ∧ (Sl.upd L k e').Pairwise (fun x y => ∀ b, x.2.fp b → y.2.fp b → False) ∧
      (∀ b, (∀ x ∈ L, x.2.fp b → False) → ¬ nw w w' b → ∀ x ∈ Sl.upd L k e', x.2.fp b → False) := by
    intro L
    induction L with
    | nil => intro _ _ _ hl; simp [look] at hl
    | cons p r ih =>
      obtain ⟨k0, e0⟩ := p
      intro hok hlt hsep hl
      obtain ⟨s1, s2⟩ := List.pairwise_cons.1 hsep
      unfold look at hl
      unfold Sl.upd
      cases hb : Nat.beq k0 k with
      | true =>
        rw [hb] at hl
        simp only [Option.some.injEq] at hl
        subst hl
        have hrest : ∀ x ∈ r, ∀ b, x.2.fp b → w'.heap[b]? = w.heap[b]? := fun x hx b hb => hk.blk b (hlt x (List.mem_cons_of_mem _ hx) b hb) fun hm => s1 x hx b hm hb
        refine ⟨fun x hx => ?_, fun x hx b hb => ?_, List.pairwise_cons.2 ⟨fun x hx b hb hb' => ?_, s2⟩, fun b hL hn x hx hb => ?_⟩
        · rcases List.mem_cons.1 hx with rfl | hx
          · exact he
          · exact x.2.st (hrest x hx) (hok x (List.mem_cons_of_mem _ hx))
        · rcases List.mem_cons.1 hx with rfl | hx
          · rcases hf b hb with h1 | h1
            · exact Nat.lt_of_lt_of_le (hlt _ List.mem_cons_self b h1) hk.size
            · exact h1.2
          · exact Nat.lt_of_lt_of_le (hlt x (List.mem_cons_of_mem _ hx) b hb) hk.size
        · rcases hf b hb with h1 | h1
          · exact s1 x hx b h1 hb'
          · have := hlt x (List.mem_cons_of_mem _ hx) b hb'
            have := h1.1
            omega
        · rcases List.mem_cons.1 hx with rfl | hx
          · rcases hf b hb with h1 | h1
            · exact hL _ List.mem_cons_self h1
            · exact hn h1
          · exact hL x (List.mem_cons_of_mem _ hx) hb
      | false =>
        rw [hb] at hl
        obtain ⟨i1, i2, i3, i4⟩ := ih (fun x hx => hok x (List.mem_cons_of_mem _ hx)) (fun x hx => hlt x (List.mem_cons_of_mem _ hx)) s2 hl
        have hme := look_mem hl
        refine ⟨fun x hx => ?_, fun x hx b hb => ?_, List.pairwise_cons.2 ⟨fun x hx b hb hb' => ?_, i3⟩, fun b hL hn x hx hb => ?_⟩
        · rcases List.mem_cons.1 hx with rfl | hx
          · exact e0.st (fun b hb => hk.blk b (hlt _ List.mem_cons_self b hb) fun hm => s1 _ hme b hb hm) (hok _ List.mem_cons_self)
          · exact i1 x hx
        · rcases List.mem_cons.1 hx with rfl | hx
          · exact Nat.lt_of_lt_of_le (hlt _ List.mem_cons_self b hb) hk.size
          · exact i2 x hx b hb
        · refine i4 b (fun y hy hyb => s1 y hy b hb hyb) (fun hn => ?_) x hx hb'
          have := hlt _ List.mem_cons_self b hb
          have := hn.1
          omega
        · rcases List.mem_cons.1 hx with rfl | hx
          · exact hL _ List.mem_cons_self hb
          · exact i4 b (fun y hy => hL y (List.mem_cons_of_mem _ hy)) hn x hx hb
  obtain ⟨i1, i2, i3, _⟩ := key L h.ok h.lt h.sep hl
  exact ⟨hk.os.trans h.os, hk.tape.trans h.tape, hk.out.trans h.out, Nat.le_trans h.size hk.size, i1, i2, i3⟩
/-- Chosen entries, under names of their own. -/
def Pick : List Nat → Hp → Hp → Prop
  | [], [], _ => True
  | j :: js, (_, e) :: r, L => look L j = some e ∧ (js.all fun i => !(Nat.beq j i)) = true ∧ Pick js r L
  | _, _, _ => False
theorem pick_mem : ∀ {js : List Nat} {L' L : Hp}, Pick js L' L → ∀ x ∈ L', ∃ j, j ∈ js ∧ look L j = some x.2
  | [], [], _, _, x, hx => by simp at hx
  | j :: js, (k, e) :: r, L, h, x, hx => by
    obtain ⟨h1, _, h3⟩ := h
    rcases List.mem_cons.1 hx with rfl | hx
    · exact ⟨j, List.mem_cons_self, h1⟩
    · obtain ⟨i, hi, hl⟩ := pick_mem h3 x hx
      exact ⟨i, List.mem_cons_of_mem _ hi, hl⟩
  | [], _ :: _, _, h, _, _ => h.elim
  | _ :: _, [], _, h, _, _ => h.elim
theorem St.pick (h : St w0 w L) (js : List Nat) {L' : Hp} (hp : Pick js L' L) : St w0 w L' := by
  refine ⟨h.os, h.tape, h.out, h.size, fun x hx => ?_, fun x hx => ?_, ?_⟩
  · obtain ⟨j, _, hl⟩ := pick_mem hp x hx
    exact h.get hl
  · obtain ⟨j, _, hl⟩ := pick_mem hp x hx
    exact h.fpLt hl
  · induction js generalizing L' with
    | nil =>
      cases L' with
      | nil => exact List.Pairwise.nil
      | cons _ _ => exact hp.elim
    | cons j js ih =>
      cases L' with
      | nil => exact hp.elim
      | cons p r =>
        obtain ⟨k, e⟩ := p
        obtain ⟨h1, h2, h3⟩ := hp
        refine List.pairwise_cons.2 ⟨fun x hx => ?_, ih h3⟩
        obtain ⟨i, hi, hl⟩ := pick_mem h3 x hx
        have := List.all_eq_true.1 h2 i hi
        exact h.disj h1 hl (by simpa using this)
theorem St.start (w : World) : St w w [(0, fz w (lt_ w))] :=
  ⟨rfl, rfl, rfl, Nat.le_refl _, fun x hx => by simp at hx; subst hx; exact fun _ _ => rfl, fun x hx b hb => by simp at hx; subst hx; exact hb, by simp⟩
/-- What a function that turns nothing told leaves. -/
theorem St.kept (h : St w0 w L) (hl : look L k = some (fz w0 (lt_ w0))) : Kp no w0 w := ⟨h.os, h.tape, h.out, h.size, fun b hb _ => h.get hl b hb⟩
theorem St.keptBut {M : Nat → Prop} (h : St w0 w L) (hl : look L k = some (fz w0 fun b => b < w0.heap.size ∧ ¬ M b)) : Kp M w0 w := ⟨h.os, h.tape, h.out, h.size, fun b hb hn => h.get hl b ⟨hb, hn⟩⟩
end
end Go.Sl

/- A small logic over the fenced walk: what cells read as. -/
namespace Go.Sl
open Go Go.RowKit

theorem add_add (a : Addr) (i j : Nat) : (a.add i).add j = a.add (i + j) := by
  unfold Addr.add
  by_cases hi : i = 0 <;> by_cases hj : j = 0 <;> simp [hi, hj, Nat.add_assoc]
theorem add_block (a : Addr) (i : Nat) : (a.add i).block = a.block := by unfold Addr.add; split <;> rfl
theorem add_zero_ (a : Addr) : a.add 0 = a := by simp [Addr.add]
theorem add_g (g i j : Nat) : (⟨g, i, none⟩ : Addr).add j = ⟨g, i + j, none⟩ := by unfold Addr.add; split <;> simp_all

/-- From ad on lie these cells. -/
def CellsAt (w : World) (ad : Addr) (es : List Value) : Prop := ∀ j v, es[j]? = some v → w.cell? (ad.add j) = some v
theorem CellsAt.cell {w : World} {ad : Addr} {es : List Value} (h : CellsAt w ad es) (j : Nat) {v : Value} (hv : es[j]? = some v) : w.cell? (ad.add j) = some v := h j v hv
theorem cell_block {w : World} {a : Addr} {v : Value} (h : w.cell? a = some v) : a.block < w.heap.size := by
  unfold World.cell? at h
  rcases Nat.lt_or_ge a.block w.heap.size with hl | hl
  · exact hl
  · rw [Array.getElem?_eq_none hl] at h
    cases h
theorem cell_same {w w' : World} {a : Addr} (h : w'.heap[a.block]? = w.heap[a.block]?) : w'.cell? a = w.cell? a := by simp [World.cell?, h]
theorem CellsAt.keep {w w' : World} {ad : Addr} {es : List Value} (h : CellsAt w ad es) (hk : ∀ b, b < w.heap.size → w'.heap[b]? = w.heap[b]?) : CellsAt w' ad es := fun j v hv => by
  have := h j v hv
  exact (cell_same (hk _ (cell_block this))).trans this
theorem CellsAt.sub {w : World} {ad : Addr} {es : List Value} (h : CellsAt w ad es) (i n : Nat) : CellsAt w (ad.add i) ((es.drop i).take n) := fun j v hv => by
  rw [add_add]
  refine h _ v ?_
  rw [List.getElem?_take] at hv
  split at hv
  · rwa [List.getElem?_drop] at hv
  · cases hv
theorem CellsAt.of_blk {w : World} {g : Nat} {cs : Array Value} {t : TypeId} {fr : Nat × Nat} (h : w.heap[g]? = some (.cells cs t fr)) : CellsAt w ⟨g, 0, none⟩ cs.toList := fun j v hv => by
  rw [add_g, Nat.zero_add]
  simp only [World.cell?, h]
  simpa using hv

/-- A kind of data: how many cells it has, and what they read as. -/
structure Ty (α : Type) where
  sz : Nat
  rd : World → List Value → α → Prop
  pos : 0 < sz
  len : ∀ {w cs x}, rd w cs x → cs.length = sz
  one : ∀ {w cs x}, rd w cs x → ∀ v ∈ cs, v.oneCell' = true
  st : ∀ {w w' : World} {cs x}, (∀ b, b < w.heap.size → w'.heap[b]? = w.heap[b]?) → rd w cs x → rd w' cs x
/-- These cells read as x in whatever world in which the blocks of F lie as in W. -/
def RdF {α : Type} (d : Ty α) (W : World) (F : Nat → Prop) (cs : List Value) (x : α) : Prop := ∀ w : World, (∀ b, F b → w.heap[b]? = W.heap[b]?) → d.rd w cs x
section
variable {α : Type} {d : Ty α} {W W' w w0 : World} {F F' : Nat → Prop} {cs : List Value} {x : α} {L : Hp} {k : Nat}
theorem RdF.here (h : RdF d W F cs x) : d.rd W cs x := h W fun _ _ => rfl
theorem RdF.mono (h : RdF d W F cs x) (hF : ∀ b, F b → F' b) : RdF d W F' cs x := fun w hw => h w fun b hb => hw b (hF b hb)
theorem RdF.at_ (h : RdF d W F cs x) (hw : ∀ b, F b → W'.heap[b]? = W.heap[b]?) : RdF d W' F cs x := fun w hw' => h w fun b hb => (hw' b hb).trans (hw b hb)
theorem RdF.of_rd (h : d.rd w cs x) : RdF d w (lt_ w) cs x := fun _ hw => d.st hw h
theorem RdF.len (h : RdF d W F cs x) : cs.length = d.sz := d.len h.here
/-- What is told so reads so now. -/
theorem St.rd (hS : St w0 w L) (k : Nat) (hl : look L k = some (fz W F)) (h : RdF d W F cs x) : d.rd w cs x := h w (hS.get hl)
/-- .. and its blocks lie where they lay: the same, told from now on. -/
theorem St.rdF (hS : St w0 w L) (k : Nat) (hl : look L k = some (fz W F)) (h : RdF d W F cs x) : RdF d w F cs x := h.at_ (hS.get hl)
end

/-! ### The kinds -/
abbrev InR (n : Int) : Prop := -9223372036854775808 ≤ n ∧ n ≤ 9223372036854775807
def tI : Ty Int := { sz := 1, pos := Nat.one_pos, rd := fun _ cs x => cs = [.int .i64 x] ∧ InR x, len := fun h => by rw [h.1]; rfl, one := fun h v hv => by rw [h.1] at hv; simp at hv; subst hv; rfl, st := fun _ h => h }
def tB : Ty Bool := { sz := 1, pos := Nat.one_pos, rd := fun _ cs x => cs = [.bool x], len := fun h => by rw [h]; rfl, one := fun h v hv => by rw [h] at hv; simp at hv; subst hv; rfl, st := fun _ h => h }
def tU8 : Ty Nat := { sz := 1, pos := Nat.one_pos, rd := fun _ cs x => cs = [.int .u8 x] ∧ x < 256, len := fun h => by rw [h.1]; rfl, one := fun h v hv => by rw [h.1] at hv; simp at hv; subst hv; rfl, st := fun _ h => h }
def tS : Ty ByteArray := { sz := 1, pos := Nat.one_pos, rd := fun _ cs x => cs = [.string x] ∧ x.size ≤ 140737488355328, len := fun h => by rw [h.1]; rfl, one := fun h v hv => by rw [h.1] at hv; simp at hv; subst hv; rfl, st := fun _ h => h }
/-- The greatest length of a list. -/
abbrev maxL : Nat := 68719476736
/-- A row of elements. -/
def RowAt {α : Type} (d : Ty α) (w : World) (A : Option Addr) (xs : List α) : Prop := ∀ i x, xs[i]? = some x → ∃ ad es, A = some ad ∧ CellsAt w (ad.add (i * d.sz)) es ∧ d.rd w es x
def tSl {α : Type} (d : Ty α) : Ty (List α) :=
  { sz := 1
    pos := Nat.one_pos
    rd := fun w cs xs => ∃ A cap, cs = [.slice A xs.length cap] ∧ xs.length ≤ cap ∧ xs.length ≤ maxL ∧ RowAt d w A xs
    len := fun h => by obtain ⟨A, cap, rfl, _⟩ := h; rfl
    one := fun h v hv => by obtain ⟨A, cap, rfl, _⟩ := h; simp at hv; subst hv; rfl
    st := fun hk h => by
      obtain ⟨A, cap, hc, h1, h2, h3⟩ := h
      refine ⟨A, cap, hc, h1, h2, fun i x hx => ?_⟩
      obtain ⟨ad, es, ha, hce, hr⟩ := h3 i x hx
      exact ⟨ad, es, ha, hce.keep hk, d.st hk hr⟩ }
/-- Two kinds, one behind the other. -/
def tP {α β : Type} (d : Ty α) (d' : Ty β) : Ty (α × β) :=
  { sz := d.sz + d'.sz
    pos := Nat.add_pos_left d.pos _
    rd := fun w cs x => ∃ c1 c2, cs = c1 ++ c2 ∧ d.rd w c1 x.1 ∧ d'.rd w c2 x.2
    len := fun h => by obtain ⟨c1, c2, rfl, h1, h2⟩ := h; rw [List.length_append, d.len h1, d'.len h2]
    one := fun h v hv => by
      obtain ⟨c1, c2, rfl, h1, h2⟩ := h
      rcases List.mem_append.1 hv with hv | hv
      · exact d.one h1 v hv
      · exact d'.one h2 v hv
    st := fun hk h => by
      obtain ⟨c1, c2, hc, h1, h2⟩ := h
      exact ⟨c1, c2, hc, d.st hk h1, d'.st hk h2⟩ }
/-- The same cells, told otherwise. -/
def tF {α β : Type} (d : Ty α) (f : β → α) : Ty β := { sz := d.sz, pos := d.pos, rd := fun w cs x => d.rd w cs (f x), len := fun h => d.len h, one := fun h => d.one h, st := fun hk h => d.st hk h }
section
variable {α : Type} {d : Ty α} {W W' w w0 : World} {F F' : Nat → Prop} {xs : List α} {v : Value}
/-- A slice's own letters. -/
theorem RdF.slice (h : RdF (tSl d) W F [v] xs) : ∃ A cap, v = .slice A xs.length cap ∧ xs.length ≤ cap ∧ xs.length ≤ 68719476736 := by
  obtain ⟨A, cap, hc, h1, h2, _⟩ := h.here
  exact ⟨A, cap, by simpa using hc, h1, h2⟩
/-- An element of a slice: its cells, and what they read as. -/
theorem RdF.elem {A : Option Addr} {n cap : Nat} (h : RdF (tSl d) W F [.slice A n cap] xs) (i : Nat) (hi : i < xs.length) : ∃ ad es, A = some ad ∧ RdF d W F es (xs[i]) ∧ ∀ w : World, (∀ b, F b → w.heap[b]? = W.heap[b]?) → CellsAt w (ad.add (i * d.sz)) es := by
  obtain ⟨A0, cap0, hc, _, _, h3⟩ := h.here
  obtain ⟨ad, es, ha, hce, hr⟩ := h3 i _ (List.getElem?_eq_getElem hi)
  have hA : A = A0 := by simp at hc; exact hc.1
  subst hA
  have hF : F ad.block := by
    refine Classical.byContradiction fun hn => ?_
    obtain ⟨A1, cap1, hc1, _, _, h4⟩ := h { W with heap := W.heap.setIfInBounds ad.block (.deferred none) } (fun b hb => by
      have hne : ad.block ≠ b := fun e => hn (e ▸ hb)
      simp [hne])
    obtain ⟨ad1, es1, ha1, hce1, hr1⟩ := h4 i _ (List.getElem?_eq_getElem hi)
    have hA1 : A = A1 := by simp at hc1; exact hc1.1
    have had : ad1 = ad := by rw [hA1] at ha; rw [ha] at ha1; cases ha1; rfl
    subst had
    have hl := d.len hr1
    have hp := d.pos
    have h0 : 0 < es1.length := by omega
    have hcell := hce1 0 es1[0] (List.getElem?_eq_getElem h0)
    rw [add_zero_] at hcell
    unfold World.cell? at hcell
    rw [add_block] at hcell
    have hsz : ad1.block < W.heap.size := by
      have hl' := d.len hr
      have h0' : 0 < es.length := by omega
      have := cell_block (hce 0 es[0] (List.getElem?_eq_getElem h0'))
      rwa [add_zero_, add_block] at this
    simp [hsz] at hcell
  have hcells : ∀ w : World, (∀ b, F b → w.heap[b]? = W.heap[b]?) → CellsAt w (ad.add (i * d.sz)) es := fun w hw j v hv => by
    have h0 := hce j v hv
    exact (cell_same (by rw [add_block, add_block]; exact hw _ hF)).trans h0
  have key : ∀ w : World, (∀ b, F b → w.heap[b]? = W.heap[b]?) → CellsAt w (ad.add (i * d.sz)) es ∧ d.rd w es (xs[i]) := by
    intro w hw
    refine ⟨hcells w hw, ?_⟩
    obtain ⟨A1, cap1, hc1, _, _, h4⟩ := h w hw
    obtain ⟨ad1, es1, ha1, hce1, hr1⟩ := h4 i _ (List.getElem?_eq_getElem hi)
    have hA1 : A = A1 := by simp at hc1; exact hc1.1
    have had : ad1 = ad := by rw [hA1] at ha; rw [ha] at ha1; cases ha1; rfl
    subst had
    have he : es1 = es := by
      have l1 := d.len hr1
      have l2 := d.len hr
      refine List.ext_getElem (by omega) fun j h1 h2 => ?_
      have a1 := hce1 j _ (List.getElem?_eq_getElem h1)
      have a2 := hcells w hw j _ (List.getElem?_eq_getElem h2)
      rw [a1] at a2
      simpa using a2
    exact he ▸ hr1
  exact ⟨ad, es, ha, fun w hw => (key w hw).2, fun w hw => (key w hw).1⟩
end
end Go.Sl

/- A small logic over the fenced walk: the operations. -/
namespace Go.Sl
open Go Go.RowKit

def evalsE (E : Env) : List Operand → Option (List Value)
  | [] => some []
  | x :: r => match evalE E x, evalsE E r with
    | some v, some vs => some (v :: vs)
    | _, _ => none
theorem evals_eq {nt : Nat} {D : List Deferred} {E : Env} {a : Act} (h : Ag nt D E a) : ∀ {l : List Operand} {vs : List Value}, evalsE E l = some vs → l.map a.eval = vs
  | [], vs, hv => by simp [evalsE] at hv; simp [hv]
  | x :: r, vs, hv => by
    unfold evalsE at hv
    cases hx : evalE E x with
    | none => rw [hx] at hv; cases hv
    | some v =>
      cases hr : evalsE E r with
      | none => rw [hx, hr] at hv; cases hv
      | some us =>
        rw [hx, hr] at hv
        simp only [Option.some.injEq] at hv
        subst hv
        simp [h.eval hx, evals_eq h hr]
section
variable {P : Program} {o : Oper} {E : Env} {w w0 : World} {v v1 v2 : Value} {x y z : Operand} {t s e : TypeId} {L : Hp} {ad b : Addr}

/-! ### 7. Operations that read alone -/
theorem Q_move (ho : o.op = .move x) (hx : evalE E x = some v) : Qt P o E w v := fun nt D a ha => by
  unfold execOp; rw [ho]; simp only [ha.eval hx]; rfl
theorem Q_assign (ho : o.op = .assign x) (hx : evalE E x = some v) : Qt P o E w v := fun nt D a ha => by
  unfold execOp; rw [ho]; simp only [ha.eval hx]; rfl
theorem Q_pickT (ho : o.op = .pick x y z) (hx : evalE E x = some (.bool true)) (hy : evalE E y = some v) : Qt P o E w v := fun nt D a ha => by
  unfold execOp; rw [ho]; simp only [ha.eval hx, ha.eval hy]; rfl
theorem Q_pickF (ho : o.op = .pick x y z) (hx : evalE E x = some (.bool false)) (hz : evalE E z = some v) : Qt P o E w v := fun nt D a ha => by
  unfold execOp; rw [ho]; simp only [ha.eval hx, ha.eval hz]; rfl
theorem Q_load1 (ho : o.op = .load t x) (hx : evalE E x = some (.pointer (some ad))) (ht : ∀ w, (isAgg t).run P w = .ok false w) (hc : w.cell? ad = some v) : Qt P o E w v := fun nt D a ha => by
  unfold execOp; rw [ho]; simp [ha.eval hx, Instr.loadAt, Instr.sureAddr, loadVar, ht, hc]
theorem run_loadCellsFrom (ad : Addr) : ∀ (es : List Value) (i : Nat) (acc : Array Value), (∀ j v, es[j]? = some v → w.cell? (ad.add (i + j)) = some v) → (loadCellsFrom ad i es.length acc).run P w = .ok (acc ++ es.toArray) w
  | [], i, acc, _ => by simp [loadCellsFrom]
  | u :: r, i, acc, h => by
    have h0 := h 0 u rfl
    simp only [Nat.add_zero] at h0
    simp only [List.length_cons, loadCellsFrom, Sem.run_bind, run_load, h0, Result.andThen_ok]
    rw [run_loadCellsFrom ad r (i + 1) (acc.push u) (fun j v hv => by
      have := h (j + 1) v (by simpa using hv)
      rwa [show i + 1 + j = i + (j + 1) by omega])]
    simp
theorem run_loadVar_agg {es : List Value} (ht : ∀ w, (isAgg t).run P w = .ok true w) (hs : ∀ w, (sizeOf t).run P w = .ok es.length w) (hc : CellsAt w ad es) : (loadVar t ad).run P w = .ok (.agg es.toArray) w := by
  have := run_loadCellsFrom (P := P) (w := w) ad es 0 #[] (fun j v hv => by rw [Nat.zero_add]; exact hc j v hv)
  simp [loadVar, ht, hs, loadCells, this]
theorem Q_loadK {es : List Value} (ho : o.op = .load t x) (hx : evalE E x = some (.pointer (some ad))) (ht : ∀ w, (isAgg t).run P w = .ok true w) (hs : ∀ w, (sizeOf t).run P w = .ok es.length w) (hc : CellsAt w ad es) :
    Qt P o E w (.agg es.toArray) := fun nt D a ha => by
  unfold execOp; rw [ho]; simp [ha.eval hx, Instr.loadAt, Instr.sureAddr, run_loadVar_agg ht hs hc]
theorem Q_nil (ho : o.op = .nilCheck x) (hx : evalE E x = some (.pointer (some ad))) : Qt P o E w (.pointer (some ad)) := fun nt D a ha => by
  unfold execOp; rw [ho]; simp [ha.eval hx]
/-- A field's place. -/
def FieldOk (P : Program) (s : TypeId) (f off : Nat) : Prop := ∀ (a : Addr) (w : World), (Instr.fieldAt s (.pointer (some a)) f).run P w = .ok (.pointer (some (a.add off))) w
theorem fieldOk {s : TypeId} {f off n : Nat} {fs : Array Field} {q : Field} (hs : P.underlying s = some (.struct fs)) (hq : fs[f]? = some q) (ho : q.offset = off) (hz : ∀ w, (sizeOf q.type).run P w = .ok (n + 1) w) : FieldOk P s f off := fun a w => by
  have hu : ∀ w, (underlying s).run P w = .ok (.struct fs) w := fun w => by simp [underlying, hs]
  simp [Instr.fieldAt, hu, hq, Instr.sureAddr, fieldPlace, hz, ho]
theorem Q_fa0 {f off : Nat} (ho : o.op = .fieldAddr s x f) (hx : evalE E x = some (.pointer (some b))) (hf : FieldOk P s f off) : Qt P o E w (.pointer (some (b.add off))) := fun nt D a ha => by
  unfold execOp; rw [ho]; simp [ha.eval hx, hf b w]
theorem Q_fa {f off i k : Nat} (ho : o.op = .fieldAddr s x f) (hx : evalE E x = some (.pointer (some (b.add i)))) (hf : FieldOk P s f off) (hk : i + off = k) : Qt P o E w (.pointer (some (b.add k))) := by
  have := Q_fa0 (w := w) ho hx hf
  rwa [add_add, hk] at this
/-- An element's place. -/
theorem Q_ia {sz n cap : Nat} {i : Int} (ho : o.op = .indexAddr t x y) (hx : evalE E x = some (.slice (some b) n cap)) (hy : evalE E y = some (.int .i64 i)) (ht : P.underlying t = some (.slice e)) (hs : ∀ w, (sizeOf e).run P w = .ok sz w)
    (h0 : 0 ≤ i) (hn : i < n) : Qt P o E w (.pointer (some (b.add (i.toNat * sz)))) := fun nt D a ha => by
  have hu : ∀ w, (underlying t).run P w = .ok (.slice e) w := fun w => by simp [underlying, ht]
  unfold execOp; rw [ho]; simp [ha.eval hx, ha.eval hy, Instr.indexAt, asIntOf, hu, hs, h0, hn]
theorem Q_iaArr {sz n j : Nat} {i : Int} (ho : o.op = .indexAddr t x y) (hx : evalE E x = some (.pointer (some (b.add j)))) (hy : evalE E y = some (.int .i64 i)) (ht : P.underlying t = some (.array n e)) (hs : ∀ w, (sizeOf e).run P w = .ok sz w)
    (h0 : 0 ≤ i) (hn : i < n) : Qt P o E w (.pointer (some (b.add (j + i.toNat * sz)))) := fun nt D a ha => by
  have hu : ∀ w, (underlying t).run P w = .ok (.array n e) w := fun w => by simp [underlying, ht]
  unfold execOp; rw [ho]; simp [ha.eval hx, ha.eval hy, Instr.indexAt, asIntOf, hu, hs, h0, hn, Instr.sureAddr, add_add]
theorem Q_extract {vs : Array Value} {i : Nat} (ho : o.op = .extract x i) (hx : evalE E x = some (.tuple vs)) (hi : vs[i]? = some v) : Qt P o E w v := fun nt D a ha => by
  unfold execOp; rw [ho]; simp [ha.eval hx, Instr.extract, hi]
theorem Q_len {A : Option Addr} {n c : Nat} (ho : o.op = .call { callee := .builtin .len, args := #[x], argTypes := #[t] }) (hx : evalE E x = some (.slice A n c)) (ht : P.underlying t = some (.slice e)) : Qt P o E w (.int .i64 n) := fun nt D a ha => by
  have hu : ∀ w, (underlying t).run P w = .ok (.slice e) w := fun w => by simp [underlying, ht]
  unfold execOp; rw [ho]; simp [resolve, invoke, builtin, ha.eval hx, Builtin.len_, goInt, hu]
theorem Q_lenS {q : ByteArray} (ho : o.op = .call { callee := .builtin .len, args := #[x], argTypes := #[t] }) (hx : evalE E x = some (.string q)) (ht : P.underlying t = some .string) : Qt P o E w (.int .i64 q.size) := fun nt D a ha => by
  have hu : ∀ w, (underlying t).run P w = .ok .string w := fun w => by simp [underlying, ht]
  unfold execOp; rw [ho]; simp [resolve, invoke, builtin, ha.eval hx, Builtin.len_, goInt, hu]
theorem Q_not {c : Bool} (ho : o.op = .unOp .not t x) (hx : evalE E x = some (.bool c)) : Qt P o E w (.bool (!c)) := fun nt D a ha => by
  unfold execOp; rw [ho]; simp [ha.eval hx, Op.unary]
/-! #### whole numbers -/
section
variable {i j : Int}
theorem wrap_in {n : Int} (h1 : -9223372036854775808 ≤ n) (h2 : n ≤ 9223372036854775807) : IntKind.i64.wrap n = n := by
  simp [IntKind.wrap, IntKind.signed, IntKind.bits]; omega
theorem Q_add (ho : o.op = .binOp .add t x y e) (hx : evalE E x = some (.int .i64 i)) (hy : evalE E y = some (.int .i64 j)) (h1 : -9223372036854775808 ≤ i + j) (h2 : i + j ≤ 9223372036854775807) : Qt P o E w (.int .i64 (i + j)) := fun nt D a ha => by
  unfold execOp; rw [ho]; simp [ha.eval hx, ha.eval hy, eqGuard, binOp, Op.intArith, wrap_in h1 h2]
theorem Q_sub (ho : o.op = .binOp .sub t x y e) (hx : evalE E x = some (.int .i64 i)) (hy : evalE E y = some (.int .i64 j)) (h1 : -9223372036854775808 ≤ i - j) (h2 : i - j ≤ 9223372036854775807) : Qt P o E w (.int .i64 (i - j)) := fun nt D a ha => by
  unfold execOp; rw [ho]; simp [ha.eval hx, ha.eval hy, eqGuard, binOp, Op.intArith, wrap_in h1 h2]
theorem Q_lss {k : IntKind} (ho : o.op = .binOp .lss t x y e) (hx : evalE E x = some (.int k i)) (hy : evalE E y = some (.int k j)) : Qt P o E w (.bool (decide (i < j))) := fun nt D a ha => by
  unfold execOp; rw [ho]; simp [ha.eval hx, ha.eval hy, eqGuard, binOp, Op.intCmp]
theorem Q_leq {k : IntKind} (ho : o.op = .binOp .leq t x y e) (hx : evalE E x = some (.int k i)) (hy : evalE E y = some (.int k j)) : Qt P o E w (.bool (decide (i ≤ j))) := fun nt D a ha => by
  unfold execOp; rw [ho]; simp [ha.eval hx, ha.eval hy, eqGuard, binOp, Op.intCmp]
theorem Q_gtr {k : IntKind} (ho : o.op = .binOp .gtr t x y e) (hx : evalE E x = some (.int k i)) (hy : evalE E y = some (.int k j)) : Qt P o E w (.bool (decide (j < i))) := fun nt D a ha => by
  unfold execOp; rw [ho]; simp [ha.eval hx, ha.eval hy, eqGuard, binOp, Op.intCmp]
theorem Q_geq {k : IntKind} (ho : o.op = .binOp .geq t x y e) (hx : evalE E x = some (.int k i)) (hy : evalE E y = some (.int k j)) : Qt P o E w (.bool (decide (j ≤ i))) := fun nt D a ha => by
  unfold execOp; rw [ho]; simp [ha.eval hx, ha.eval hy, eqGuard, binOp, Op.intCmp]
theorem Q_eql {k : IntKind} (ho : o.op = .binOp .eql t x y e) (hx : evalE E x = some (.int k i)) (hy : evalE E y = some (.int k j)) : Qt P o E w (.bool (decide (i = j))) := fun nt D a ha => by
  unfold execOp; rw [ho]; simp [ha.eval hx, ha.eval hy, eqGuard, binOp, Op.intCmp]; rfl
theorem Q_neq {k : IntKind} (ho : o.op = .binOp .neq t x y e) (hx : evalE E x = some (.int k i)) (hy : evalE E y = some (.int k j)) : Qt P o E w (.bool (decide (i ≠ j))) := fun nt D a ha => by
  unfold execOp; rw [ho]; simp [ha.eval hx, ha.eval hy, eqGuard, binOp, Op.intCmp, bne]; rfl
end
theorem toList_eq {p q : ByteArray} : (p.toList == q.toList) = decide (p = q) := by
  by_cases h : p = q
  · subst h; simp
  · rw [decide_eq_false h]
    cases hb : p.toList == q.toList
    · rfl
    · exfalso
      refine h ?_
      have he : p.toList = q.toList := by simpa using hb
      rw [ByteArray.toList_eq, ByteArray.toList_eq] at he
      exact ByteArray.ext (Array.toList_inj.1 he)
theorem Q_eqlS {p q : ByteArray} (ho : o.op = .binOp .eql t x y e) (hx : evalE E x = some (.string p)) (hy : evalE E y = some (.string q)) : Qt P o E w (.bool (decide (p = q))) := fun nt D a ha => by
  unfold execOp; rw [ho]; simp [ha.eval hx, ha.eval hy, eqGuard, binOp, Op.stringOp, toList_eq]
theorem Q_neqS {p q : ByteArray} (ho : o.op = .binOp .neq t x y e) (hx : evalE E x = some (.string p)) (hy : evalE E y = some (.string q)) : Qt P o E w (.bool (decide (p ≠ q))) := fun nt D a ha => by
  unfold execOp; rw [ho]; simp [ha.eval hx, ha.eval hy, eqGuard, binOp, Op.stringOp, toList_eq]
theorem Q_eqNilP {A : Option Addr} (ho : o.op = .binOp .eql t x y e) (hx : evalE E x = some (.pointer A)) (hy : evalE E y = some (.pointer none)) (ht : P.underlying t = some (.pointer (P.pointee t))) : Qt P o E w (.bool A.isNone) := fun nt D a ha => by
  unfold execOp; rw [ho]; simp [ha.eval hx, ha.eval hy, eqGuard, run_eql_pointer_nil w t A ht]
theorem Q_neNilP {A : Option Addr} (ho : o.op = .binOp .neq t x y e) (hx : evalE E x = some (.pointer A)) (hy : evalE E y = some (.pointer none)) (ht : P.underlying t = some (.pointer (P.pointee t))) : Qt P o E w (.bool (!A.isNone)) := fun nt D a ha => by
  unfold execOp; rw [ho]; simp [ha.eval hx, ha.eval hy, eqGuard, run_neq_pointer_nil w t A ht]
/-- '==' of two structs that go by two whole numbers. -/
def PairEq (P : Program) (t : TypeId) : Prop := P.eqGuardType P.depth t = false ∧ ∀ (w : World) (a b c d : Int), (Op.equalIn 10000 t (.agg #[.int .i64 a, .int .i64 b]) (.agg #[.int .i64 c, .int .i64 d])).run P w = .ok (decide (a = c ∧ b = d)) w
theorem Q_eqlP {i j k l : Int} (ho : o.op = .binOp .eql t x y e) (hx : evalE E x = some (.agg #[.int .i64 i, .int .i64 j])) (hy : evalE E y = some (.agg #[.int .i64 k, .int .i64 l])) (hp : PairEq P t) : Qt P o E w (.bool (decide (i = k ∧ j = l))) := fun nt D a ha => by
  unfold execOp; rw [ho]; simp [ha.eval hx, ha.eval hy, run_eqGuard_agg _ _ _ _ _ _ _ hp.1, run_eql_struct, hp.2]
theorem Q_neqP {i j k l : Int} (ho : o.op = .binOp .neq t x y e) (hx : evalE E x = some (.agg #[.int .i64 i, .int .i64 j])) (hy : evalE E y = some (.agg #[.int .i64 k, .int .i64 l])) (hp : PairEq P t) : Qt P o E w (.bool (!decide (i = k ∧ j = l))) := fun nt D a ha => by
  unfold execOp; rw [ho]; simp [ha.eval hx, ha.eval hy, run_eqGuard_agg _ _ _ _ _ _ _ hp.1, run_neq_struct, hp.2]
/-- Whatever else reads alone: its run as a closed fact over the values. -/
theorem Q_op (f : Act → Sem Next) (hf : ∀ nt D a, Ag nt D E a → execOp a.eval o = f a) (hr : ∀ nt D a, Ag nt D E a → (f a).run P w = .ok (.value v) w) : Qt P o E w v := fun nt D a ha => by rw [hf nt D a ha]; exact hr nt D a ha
theorem Q_build {ps : Array (Nat × Operand)} {vs : List (Nat × Value)} (ho : o.op = .build t ps) (hv : ∀ nt D a, Ag nt D E a → (ps.map fun (i, x) => (i, a.eval x)) = vs.toArray) (hr : ∀ w, (Instr.build t vs.toArray).run P w = .ok v w) : Qt P o E w v := fun nt D a ha => by
  unfold execOp; rw [ho]; simp only [hv nt D a ha, Sem.run_bind, hr, Result.andThen_ok]; rfl
def evalsP (E : Env) : List (Nat × Operand) → Option (List (Nat × Value))
  | [] => some []
  | (i, x) :: r => match evalE E x, evalsP E r with
    | some v, some vs => some ((i, v) :: vs)
    | _, _ => none
theorem evalsP_eq {nt : Nat} {D : List Deferred} {a : Act} (h : Ag nt D E a) : ∀ {l : List (Nat × Operand)} {vs : List (Nat × Value)}, evalsP E l = some vs → l.map (fun p => (p.1, a.eval p.2)) = vs
  | [], vs, hv => by simp [evalsP] at hv; simp [hv]
  | (i, x) :: r, vs, hv => by
    unfold evalsP at hv
    cases hx : evalE E x with
    | none => rw [hx] at hv; cases hv
    | some v =>
      cases hr : evalsP E r with
      | none => rw [hx, hr] at hv; cases hv
      | some us =>
        rw [hx, hr] at hv
        simp only [Option.some.injEq] at hv
        subst hv
        simp [h.eval hx, evalsP_eq h hr]
theorem Q_bld {ps : List (Nat × Operand)} {vs : List (Nat × Value)} (ho : o.op = .build t ps.toArray) (hv : evalsP E ps = some vs) (hr : ∀ w, (Instr.build t vs.toArray).run P w = .ok v w) : Qt P o E w v :=
  Q_build ho (fun nt D a ha => by have := evalsP_eq ha hv; rw [← this]; simp) hr
/-! ### 8. Operations that turn the world -/
/-- A block's cells, as a list. -/
def blkL (g : Nat) (cs : List Value) (t : TypeId) : Ent := blk g (.cells cs.toArray t (0, 0))
def cl : Value → List Value
  | .agg cs => cs.toList
  | v => [v]
theorem cl_cells (v : Value) : v.cells = (cl v).toArray := by cases v <;> simp [Value.cells, cl]
/-- The cell at a place. -/
def cget : List Value → Nat → Option Value
  | [], _ => none
  | v :: _, 0 => some v
  | _ :: r, i + 1 => cget r i
theorem cget_eq : ∀ (l : List Value) (i : Nat), cget l i = l[i]?
  | [], i => rfl
  | v :: r, 0 => rfl
  | v :: r, i + 1 => by rw [cget, cget_eq r i]; rfl
def putL : List Value → Nat → List Value → List Value
  | l, _, [] => l
  | [], _, _ => []
  | _ :: r, 0, u :: us => u :: putL r 0 us
  | v :: r, i + 1, us => v :: putL r i us
def subL : List Value → Nat → Nat → List Value
  | _, _, 0 => []
  | [], _, _ => []
  | v :: r, 0, n + 1 => v :: subL r 0 n
  | _ :: r, i + 1, n => subL r i n
theorem subL_eq : ∀ (l : List Value) (i n : Nat), subL l i n = (l.drop i).take n
  | l, i, 0 => by cases l <;> cases i <;> simp [subL]
  | [], i, n + 1 => by cases i <;> simp [subL]
  | v :: r, 0, n + 1 => by simp [subL, subL_eq r 0 n]
  | v :: r, i + 1, n + 1 => by simp [subL, subL_eq r i (n + 1)]
theorem Q_ldB1 {g j k : Nat} {cs : List Value} {t' : TypeId} (hS : St w0 w L) (hl : look L k = some (blkL g cs t')) (ho : o.op = .load t x) (hx : evalE E x = some (.pointer (some ((⟨g, 0, none⟩ : Addr).add j)))) (ht : ∀ w, (isAgg t).run P w = .ok false w) (hv : cget cs j = some v) : Qt P o E w v := by
  refine Q_load1 ho hx ht ?_
  have := CellsAt.of_blk (hS.get hl) j v (by rw [← hv, cget_eq])
  exact this
theorem Q_ldBK {g j k n : Nat} {cs : List Value} {t' : TypeId} (es : List Value) (hS : St w0 w L) (hl : look L k = some (blkL g cs t')) (ho : o.op = .load t x) (hx : evalE E x = some (.pointer (some ((⟨g, 0, none⟩ : Addr).add j)))) (ht : ∀ w, (isAgg t).run P w = .ok true w)
    (hs : ∀ w, (sizeOf t).run P w = .ok n w) (hv : subL cs j n = es) (hn : es.length = n) : Qt P o E w (.agg es.toArray) := by
  refine Q_loadK ho hx ht (by rw [hn]; exact hs) ?_
  have := (CellsAt.of_blk (hS.get hl)).sub j n
  rw [← hv, subL_eq]
  exact this
/-- .. where the address is the block's begin. -/
theorem Q_ldB1' {g k : Nat} {cs : List Value} {t' : TypeId} (hS : St w0 w L) (hl : look L k = some (blkL g cs t')) (ho : o.op = .load t x) (hx : evalE E x = some (.pointer (some ⟨g, 0, none⟩))) (ht : ∀ w, (isAgg t).run P w = .ok false w) (hv : cget cs 0 = some v) : Qt P o E w v :=
  Q_ldB1 (j := 0) hS hl ho (by rw [hx, add_zero_]) ht hv
theorem Q_ldBK' {g k n : Nat} {cs : List Value} {t' : TypeId} (es : List Value) (hS : St w0 w L) (hl : look L k = some (blkL g cs t')) (ho : o.op = .load t x) (hx : evalE E x = some (.pointer (some ⟨g, 0, none⟩))) (ht : ∀ w, (isAgg t).run P w = .ok true w)
    (hs : ∀ w, (sizeOf t).run P w = .ok n w) (hv : subL cs 0 n = es) (hn : es.length = n) : Qt P o E w (.agg es.toArray) :=
  Q_ldBK (j := 0) es hS hl ho (by rw [hx, add_zero_]) ht hs hv hn
theorem D_box {K : Value → World → Prop} (k : Nat) (hS : St w0 w L) (ho : o.op = .box t x) (hx : evalE E x = some v)
    (h : ∀ g w', St w0 w' ((k, blkL g (cl v) t) :: L) → K (.pointer (some ⟨g, 0, none⟩)) w') : Does P o E w K := fun nt D a ha =>
  ⟨.value (.pointer (some ⟨w.heap.size, 0, none⟩)), _, w.alloc (.cells v.cells t), by unfold execOp; rw [ho]; simp only [ha.eval hx]; rfl, .inl rfl, h _ _ (by rw [cl_cells]; exact hS.alloc k _)⟩
theorem D_alloc {K : Value → World → Prop} (k : Nat) (hS : St w0 w L) (ho : o.op = .alloc t) (hz : ∀ w, (zeroValue t).run P w = .ok v w)
    (h : ∀ g w', St w0 w' ((k, blkL g (cl v) t) :: L) → K (.pointer (some ⟨g, 0, none⟩)) w') : Does P o E w K := fun nt D a ha =>
  ⟨.value (.pointer (some ⟨w.heap.size, 0, none⟩)), _, w.alloc (.cells v.cells t), by unfold execOp; rw [ho]; simp [Instr.alloc, hz, newVar, newRow], .inl rfl, h _ _ (by rw [cl_cells]; exact hS.alloc k _)⟩
theorem D_bs {K : Value → World → Prop} {n : Nat} {ps : List (Nat × Operand)} {vs : List (Nat × Value)} (k : Nat) (cs : List Value) (hS : St w0 w L) (ho : o.op = .buildSlice t n ps.toArray) (hv : evalsP E ps = some vs)
    (hr : ∀ w, (Instr.buildSlice t n vs.toArray).run P w = .ok (.slice (some ⟨w.heap.size, 0, none⟩) n n) (w.alloc (.cells cs.toArray e)))
    (h : ∀ g w', St w0 w' ((k, blkL g cs e) :: L) → K (.slice (some ⟨g, 0, none⟩) n n) w') : Does P o E w K := fun nt D a ha =>
  ⟨.value (.slice (some ⟨w.heap.size, 0, none⟩) n n), _, w.alloc (.cells cs.toArray e), by
    have := evalsP_eq ha hv
    unfold execOp; rw [ho]; simp only [List.map_toArray, Sem.run_bind]
    rw [show List.map (fun x => match x with | (i, x) => (i, a.eval x)) ps = vs from this, hr w]; rfl, .inl rfl, h _ _ (hS.alloc k _)⟩
theorem D_mkMap {K : Value → World → Prop} (k : Nat) (hS : St w0 w L) (ho : o.op = .makeMap t none)
    (h : ∀ g w', St w0 w' ((k, blk g (.map #[] 0)) :: L) → K (.map (some g)) w') : Does P o E w K := fun nt D a ha =>
  ⟨.value (.map (some w.heap.size)), _, w.alloc (.map #[] 0), by unfold execOp; rw [ho]; rfl, .inl rfl, h _ _ (hS.alloc k _)⟩
theorem set_list : ∀ (l : List Value) (j : Nat) (v : Value), j < l.length → putL l j [v] = l.set j v
  | [], j, v, h => by simp at h
  | u :: r, 0, v, _ => by simp [putL]
  | u :: r, j + 1, v, h => by simp [putL, set_list r j v (by simpa using h)]
theorem putL_length : ∀ (l : List Value) (j : Nat) (us : List Value), (putL l j us).length = l.length
  | l, j, [] => by cases l <;> simp [putL]
  | [], j, u :: us => by simp [putL]
  | v :: r, 0, u :: us => by simp [putL, putL_length r 0 us]
  | v :: r, j + 1, u :: us => by simp [putL, putL_length r j (u :: us)]
theorem putL_cons : ∀ (l : List Value) (j : Nat) (u : Value) (us : List Value), j < l.length → putL l j (u :: us) = putL (l.set j u) (j + 1) us
  | [], j, u, us, h => by simp at h
  | v :: r, 0, u, us, h => by cases us <;> simp [putL]
  | v :: r, j + 1, u, us, h => by
    have := putL_cons r j u us (by simpa using h)
    cases us <;> simp [putL] at this ⊢ <;> exact this
theorem run_storeCells {g : Nat} : ∀ (vs : List Value) (w : World) (cs : List Value) (t : TypeId) (j i : Nat), w.heap[g]? = some (.cells cs.toArray t (0, 0)) → (∀ v ∈ vs, v.oneCell' = true) → j + i + vs.length ≤ cs.length →
    ∃ w', (storeCells (⟨g, j, none⟩ : Addr) vs i).run P w = .ok () w' ∧ w'.heap[g]? = some (.cells (putL cs (j + i) vs).toArray t (0, 0)) ∧ Kp (· = g) w w'
  | [], w, cs, t, j, i, h, _, _ => ⟨w, rfl, by cases cs <;> exact h, Kp.refl _ _⟩
  | v :: r, w, cs, t, j, i, h, h1, hl => by
    have hlt : j + i < cs.length := by simp at hl; omega
    have hcell : w.cell? ⟨g, j + i, none⟩ = some cs[j + i] := by simp [World.cell?, h, List.getElem?_eq_getElem hlt]
    have hfz : w.frozen? ⟨g, j + i, none⟩ = false := by simp [World.frozen?, h]
    have hb : (w.setCell ⟨g, j + i, none⟩ v).heap[g]? = some (.cells (cs.set (j + i) v).toArray t (0, 0)) := by
      simp [World.setCell, Array.getElem?_modify, h]
    obtain ⟨w', hr, hb', hk⟩ := run_storeCells r (w.setCell ⟨g, j + i, none⟩ v) (cs.set (j + i) v) t j (i + 1) hb (fun u hu => h1 u (List.mem_cons_of_mem _ hu)) (by simp at hl ⊢; omega)
    refine ⟨w', ?_, ?_, ?_⟩
    · simp only [storeCells, Sem.run_bind, add_g]
      rw [run_store P w _ v _ (h1 v List.mem_cons_self), hcell, hfz]
      simpa using hr
    · rw [putL_cons _ _ _ _ hlt, Nat.add_assoc]; exact hb'
    · refine (Kp.setCell w ⟨g, j + i, none⟩ v).trans hk fun b hb => .inl hb
theorem D_store {K : Value → World → Prop} {g j n k : Nat} {cs : List Value} {t' : TypeId} (hS : St w0 w L) (hl : look L k = some (blkL g cs t')) (ho : o.op = .store t x y) (hx : evalE E x = some (.pointer (some ((⟨g, 0, none⟩ : Addr).add j))))
    (hy : evalE E y = some v) (hs : ∀ w, (sizeOf t).run P w = .ok n w) (hn : (cl v).length = n) (h1 : (cl v).all (·.oneCell') = true) (hj : Nat.ble (j + n) cs.length = true)
    (h : ∀ w', St w0 w' (upd L k (blkL g (putL cs j (cl v)) t')) → K undef w') : Does P o E w K := fun nt D a ha => by
  have hb := hS.get hl
  obtain ⟨w', hr, hb', hk⟩ := run_storeCells (P := P) (cl v) w cs t' j 0 hb (fun u hu => List.all_eq_true.1 h1 u hu) (by rw [hn, Nat.add_zero]; exact Nat.le_of_ble_eq_true hj)
  refine ⟨.skip, undef, w', ?_, .inr ⟨rfl, rfl⟩, h w' (hS.upd hl hk hb' fun b hb => .inl hb)⟩
  unfold execOp; rw [ho]
  have hn' : v.cells.size = n := by rw [cl_cells]; simpa using hn
  rw [add_g, Nat.zero_add] at hx
  have hr' : (storeCells (⟨g, j, none⟩ : Addr) v.cells.toList).run P w = .ok () w' := by rw [cl_cells]; exact hr
  simp [ha.eval hx, ha.eval hy, Instr.storeAt, Instr.sureAddr, storeVar, hs, hn', hr']
/-- .. at the block's begin. -/
theorem D_store' {K : Value → World → Prop} {g n k : Nat} {cs : List Value} {t' : TypeId} (hS : St w0 w L) (hl : look L k = some (blkL g cs t')) (ho : o.op = .store t x y) (hx : evalE E x = some (.pointer (some ⟨g, 0, none⟩)))
    (hy : evalE E y = some v) (hs : ∀ w, (sizeOf t).run P w = .ok n w) (hn : (cl v).length = n) (h1 : (cl v).all (·.oneCell') = true) (hj : Nat.ble (0 + n) cs.length = true)
    (h : ∀ w', St w0 w' (upd L k (blkL g (putL cs 0 (cl v)) t')) → K undef w') : Does P o E w K :=
  D_store hS hl ho (by rw [hx, add_zero_]) hy hs hn h1 hj h
/-! ### 9. Calls -/
theorem T_call {f : Operand} {xs : List Operand} {ts : Array TypeId} {k : FuncId} {vs : List Value} (ho : o.op = .call { callee := .value f, args := xs.toArray, argTypes := ts }) (hf : evalE E f = some (.func (.func k) #[] #[])) (hv : evalsE E xs = some vs)
    (he : ∀ args w, (callFunc k args).run P w = .ok (.enter k args) w) : CallsTo P o E w k vs.toArray := fun nt D a ha => by
  have := evals_eq ha hv
  unfold execOp; rw [ho]
  simp only [resolve, ha.eval hf, Deferred.ofValue, List.map_toArray, Sem.run_bind, Sem.run_pure, Result.andThen_ok, invoke]
  rw [show List.map a.eval xs = vs from this]
  simp [he]

/-! ### 10. Ways part -/
section
variable {ro : Option Nat} {nt : Nat} {D : List Deferred} {ops : Array Oper} {Q : Exit → Act → World → Prop} {l : List Nat}
theorem Ag.bind {a : Act} (h : Ag nt D E a) {d : Nat} (hd : E.get d = some v) : Ag nt D ((d, v) :: E) a :=
  ⟨h.size, h.defers, fun t u hu => by
    by_cases e : d = t
    · subst e
      rw [get_cons_same] at hu
      cases hu
      exact h.get _ _ hd
    · rw [get_cons_other _ _ e] at hu
      exact h.get _ _ hu⟩
theorem J_split (d : Nat) {p : Prop} [Decidable p] (hd : E.get d = some (.bool (decide p))) (h1 : p → J ro P nt D ops Q l ((d, .bool true) :: E) w) (h2 : ¬ p → J ro P nt D ops Q l ((d, .bool false) :: E) w) : J ro P nt D ops Q l E w := by
  intro a ha
  by_cases h : p
  · rw [decide_eq_true h] at hd; exact h1 h a (ha.bind hd)
  · rw [decide_eq_false h] at hd; exact h2 h a (ha.bind hd)
theorem J_splitB (d : Nat) {b : Bool} (hd : E.get d = some (.bool b)) (h1 : b = true → J ro P nt D ops Q l ((d, .bool true) :: E) w) (h2 : b = false → J ro P nt D ops Q l ((d, .bool false) :: E) w) : J ro P nt D ops Q l E w := by
  intro a ha
  cases b
  · exact h2 rfl a (ha.bind hd)
  · exact h1 rfl a (ha.bind hd)
end
/-- One result. -/
theorem res1 {nt : Nat} {D : List Deferred} {fn : Func} {t : Nat} (hr : fn.results = #[.tmp t]) (hv : E.get t = some v) : ∀ a, Ag nt D E a → (results fn a.tmps).run P w = .ok v w := fun a ha => by
  have := ha.get t v hv
  rw [Array.getD_eq_getD_getElem?] at this
  simp [results, hr, this]
end
end Go.Sl

/- A small logic over the fenced walk: rows of one's own, and the kinds of data of this program. -/
namespace Go.Sl
open Go Go.RowKit

/-! ### 11. Elements by place -/
def nth {α : Type} [Inhabited α] (xs : List α) (i : Int) : α := xs.getD i.toNat default
theorem nth_get {α : Type} [Inhabited α] (xs : List α) (i : Int) (h : i.toNat < xs.length) : nth xs i = xs[i.toNat] := by
  simp [nth, List.getD_eq_getElem?_getD, List.getElem?_eq_getElem h]
theorem RdF.nth {α : Type} [Inhabited α] {d : Ty α} {W : World} {F : Nat → Prop} {xs : List α} {A : Option Addr} {n cap : Nat} (h : RdF (tSl d) W F [.slice A n cap] xs) (i : Int) (h0 : 0 ≤ i) (h1 : i < xs.length) :
    ∃ ad es, A = some ad ∧ RdF d W F es (Sl.nth xs i) ∧ ∀ w : World, (∀ b, F b → w.heap[b]? = W.heap[b]?) → CellsAt w (ad.add (i.toNat * d.sz)) es := by
  have hi : i.toNat < xs.length := by omega
  rw [nth_get xs i hi]
  exact h.elem i.toNat hi

/-! ### 12. Rows of one's own -/
/-- The cells of a row and what they read as. -/
def Reps {α : Type} (d : Ty α) (W : World) (F : Nat → Prop) (xs : List α) (fl : List Value) : Prop :=
  fl.length = xs.length * d.sz ∧ ∀ i x, xs[i]? = some x → RdF d W F ((fl.drop (i * d.sz)).take d.sz) x
section
variable {α : Type} {d : Ty α} {W W' w w0 : World} {F F' : Nat → Prop} {xs ys : List α} {x : α} {fl gl es : List Value} {L : Hp} {k m : Nat} {e : TypeId} {v : Value} {n : Nat}
theorem Reps.nil (d : Ty α) (W : World) (F : Nat → Prop) : Reps d W F [] [] := ⟨by simp, fun i x h => by simp at h⟩
theorem Reps.mono (h : Reps d W F xs fl) (hF : ∀ b, F b → F' b) : Reps d W F' xs fl := ⟨h.1, fun i x hx => (h.2 i x hx).mono hF⟩
theorem Reps.at_ (h : Reps d W F xs fl) (hw : ∀ b, F b → W'.heap[b]? = W.heap[b]?) : Reps d W' F xs fl := ⟨h.1, fun i x hx => (h.2 i x hx).at_ hw⟩
theorem Reps.append (h : Reps d W F xs fl) (k : Reps d W F ys gl) : Reps d W F (xs ++ ys) (fl ++ gl) := by
  refine ⟨by rw [List.length_append, h.1, k.1, List.length_append, Nat.add_mul], fun i x hx => ?_⟩
  rcases Nat.lt_or_ge i xs.length with hi | hi
  · rw [List.getElem?_append_left hi] at hx
    have := h.2 i x hx
    have hle : i * d.sz + d.sz ≤ fl.length := by
      rw [h.1, ← Nat.succ_mul]; exact Nat.mul_le_mul_right _ hi
    rw [List.drop_append_of_le_length (by omega), List.take_append_of_le_length (by rw [List.length_drop]; omega)]
    exact this
  · rw [List.getElem?_append_right hi] at hx
    have := k.2 _ x hx
    have he : i * d.sz = fl.length + (i - xs.length) * d.sz := by rw [h.1, ← Nat.add_mul]; congr 1; omega
    rw [he, List.drop_append]
    have h1 : fl.drop (fl.length + (i - xs.length) * d.sz) = [] := List.drop_of_length_le (by omega)
    rw [h1, List.nil_append, Nat.add_sub_cancel_left]
    exact this
theorem Reps.one (h : RdF d W F es x) : Reps d W F [x] es := by
  refine ⟨by simp [h.len], fun i y hy => ?_⟩
  cases i with
  | zero =>
    simp at hy
    subst hy
    rw [Nat.zero_mul, List.drop_zero, List.take_of_length_le (by rw [h.len]; exact Nat.le_refl _)]
    exact h
  | succ i => simp at hy
theorem Reps.snoc (h : Reps d W F xs fl) (k : RdF d W F es x) : Reps d W F (xs ++ [x]) (fl ++ es) := h.append (Reps.one k)
/-- Whatever reads in no block reads so anywhere. -/
theorem RdF.any (h : RdF d W no es x) : RdF d W' F es x := fun w _ => h w fun b hb => hb.elim
theorem Reps.any (h : Reps d W no xs fl) : Reps d W' F xs fl := ⟨h.1, fun i x hx => (h.2 i x hx).any⟩
/-- The cells of a slice that is read. -/
theorem RdF.flat {A : Option Addr} {cap : Nat} (h : RdF (tSl d) W F [.slice A n cap] xs) : ∃ fl, Reps d W F xs fl ∧ (0 < xs.length → ∃ ad, A = some ad ∧ ∀ w : World, (∀ b, F b → w.heap[b]? = W.heap[b]?) → CellsAt w ad fl) := by
  suffices key : ∀ j, j ≤ xs.length → ∃ fl, Reps d W F (xs.take j) fl ∧ (0 < j → ∃ ad, A = some ad ∧ ∀ w : World, (∀ b, F b → w.heap[b]? = W.heap[b]?) → CellsAt w ad fl) by
    obtain ⟨fl, h1, h2⟩ := key xs.length (Nat.le_refl _)
    rw [List.take_length] at h1
    exact ⟨fl, h1, h2⟩
  intro j
  induction j with
  | zero => exact fun _ => ⟨[], by simpa using Reps.nil d W F, fun h => absurd h (by omega)⟩
  | succ j ih =>
    intro hj
    obtain ⟨fl, h1, h2⟩ := ih (by omega)
    obtain ⟨ad, es, ha, hr, hc⟩ := h.elem j (by omega)
    refine ⟨fl ++ es, ?_, fun _ => ⟨ad, ha, fun w hw i v hv => ?_⟩⟩
    · rw [List.take_succ_eq_append_getElem (by omega)]
      exact h1.snoc hr
    · have hl : fl.length = j * d.sz := by rw [h1.1, List.length_take, Nat.min_eq_left (by omega)]
      rcases Nat.lt_or_ge i fl.length with hi | hi
      · rw [List.getElem?_append_left hi] at hv
        have hj0 : 0 < j := by
          rcases Nat.eq_zero_or_pos j with h0 | h0
          · rw [h0, Nat.zero_mul] at hl; omega
          · exact h0
        obtain ⟨ad', ha', hc'⟩ := h2 hj0
        rw [ha] at ha'
        cases ha'
        exact hc' w hw i v hv
      · rw [List.getElem?_append_right hi] at hv
        have := hc w hw _ v hv
        rw [add_add] at this
        rwa [show i = j * d.sz + (i - fl.length) by omega]
/-- A row of one's own, read. -/
theorem own_rd (hw : w.ownsRow 0 e d.sz v n fl) (hn : n = xs.length) (hr : Reps d W F xs fl) (hm : xs.length ≤ maxL) (hF : ∀ q, F q → w.heap[q]? = W.heap[q]?) : RdF (tSl d) w (or_ F fun b => v.ownBlock = some b) [v] xs := by
  subst hn
  intro w2 hw2
  have hF2 : ∀ b, F b → w2.heap[b]? = W.heap[b]? := fun b hb => (hw2 b (.inl hb)).trans (hF b hb)
  rcases hw.2 with ⟨rfl, h0⟩ | ⟨g, cap, cur, rfl, _, hh, hc, hm', hs, ht⟩
  · have : xs = [] := List.eq_nil_of_length_eq_zero h0
    subst this
    exact ⟨none, 0, rfl, by simp, by simp, fun i x hx => by simp at hx⟩
  · refine ⟨some ⟨g, 0, none⟩, cap, rfl, hc, hm, fun i x hx => ⟨_, _, rfl, ?_, hr.2 i x hx w2 hF2⟩⟩
    have hg : w2.heap[g]? = some (.cells cur e (0, 0)) := (hw2 g (.inr rfl)).trans hh
    have hfl : CellsAt w2 ⟨g, 0, none⟩ fl := fun j u hu => by
      refine CellsAt.of_blk hg j u ?_
      rw [← ht, List.getElem?_take] at hu
      split at hu
      · exact hu
      · cases hu
    exact hfl.sub _ _
/-- What is new since the function began. -/
theorem St.fresh {ee : Ent} (hS : St w0 w L) (h0 : look L 0 = some (fz w0 (lt_ w0))) (hk : look L k = some ee) (hne : Nat.beq 0 k = false) : ∀ b, ee.fp b → nw w0 w b := fun b hb => by
  refine ⟨?_, hS.fpLt hk b hb⟩
  rcases Nat.lt_or_ge b w0.heap.size with hlt | hge
  · exact (hS.disj h0 hk hne b hlt hb).elim
  · exact hge
/-- A row of one's own is handed back: what its elements read in is told by entry m. -/
theorem St.giveF (hS : St w0 w L) (h0 : look L 0 = some (fz w0 (lt_ w0))) (k : Nat) (hk : look L k = some (own e d.sz v n fl)) (hne : Nat.beq 0 k = false) (m : Nat) (hm : look L m = some (fz W F)) (hmne : Nat.beq 0 m = false) (hn : n = xs.length) (hr : Reps d W F xs fl) (hl : xs.length ≤ maxL) :
    RdF (tSl d) w (nw w0 w) [v] xs :=
  (own_rd (hS.get hk) hn hr hl (hS.get hm)).mono fun b hb => hb.elim (fun h => hS.fresh h0 hm hmne b h) fun h => hS.fresh h0 hk hne b h
theorem St.give (hS : St w0 w L) (h0 : look L 0 = some (fz w0 (lt_ w0))) (k : Nat) (hk : look L k = some (own e d.sz v n fl)) (hne : Nat.beq 0 k = false) (hn : n = xs.length) (hr : Reps d W no xs fl) (hl : xs.length ≤ maxL) :
    RdF (tSl d) w (nw w0 w) [v] xs :=
  (own_rd (F := no) (hS.get hk) hn (hr.any (W' := w)) hl (fun b hb => hb.elim)).mono fun b hb => hb.elim (fun h => h.elim) fun h => hS.fresh h0 hk hne b h
/-- nil is a row of one's own. -/
theorem St.nil (hS : St w0 w L) (k : Nat) (e : TypeId) (sz : Nat) : St w0 w ((k, own e sz (.slice none 0 0) 0 []) :: L) :=
  hS.new (Kp.refl _ _) k _ ⟨by simp, .inl ⟨rfl, rfl⟩⟩ fun b hb => by
    have : (none : Option Nat) = some b := hb
    cases this
/-- A literal is a row of one's own. -/
theorem St.lit {g sz : Nat} {cs : List Value} (hS : St w0 w L) (k : Nat) (hk : look L k = some (blkL g cs e)) (n : Nat) (hn : cs.length = n * sz) (hm : n ≤ maxL) : St w0 w (Sl.upd L k (own e sz (.slice (some ⟨g, 0, none⟩) n n) n cs)) :=
  hS.upd hk (Kp.refl _ _) ⟨hn, .inr ⟨g, n, cs.toArray, rfl, Nat.zero_le _, hS.get hk, Nat.le_refl _, by simp only [maxLen]; unfold maxL at hm; omega, by simpa using hn, by simp [← hn]⟩⟩ fun b hb => .inl (by
    have h1 : some g = some b := hb
    cases h1
    exact rfl)
end
section
variable {P : Program} {o : Oper} {E : Env} {w w0 : World} {v : Value} {x y : Operand} {t e e' : TypeId} {L : Hp} {K : Value → World → Prop} {k j g n bytes sz : Nat} {fl cs : List Value} {i : TypeInfo} {z : Value}
/-- What append asks of the element's type. -/
structure AppOk (P : Program) (t e : TypeId) (sz bytes : Nat) : Prop where
  ht : P.underlying t = some (.slice e)
  info : ∃ i z, P.info? e = some i ∧ i.zero = some z ∧ i.size = sz ∧ i.bytes = bytes ∧ z.cells.size = sz
  pos : 0 < sz
theorem D_app {m c : Nat} {ad : Addr} (hA : AppOk P t e sz bytes) (hS : St w0 w L) (hl : look L k = some (own e sz v n fl)) (ho : o.op = .call { callee := .builtin .append, args := #[x, y], argTypes := #[t, t] }) (hx : evalE E x = some v) (hy : evalE E y = some (.slice (some ad) m c))
    (hc : CellsAt w ad cs) (hcs : cs.length = m * sz) (h1 : ∀ u ∈ cs, u.oneCell' = true) (hb : (n + m) * bytes ≤ 140737488355328) (hn : n + m ≤ maxL) (hm : 0 < m)
    (h : ∀ g' cap' w', St w0 w' (upd L k (own e sz (.slice (some ⟨g', 0, none⟩) (n + m) cap') (n + m) (fl ++ cs))) → K (.slice (some ⟨g', 0, none⟩) (n + m) cap') w') : Does P o E w K := fun nt D a ha => by
  obtain ⟨ht, ⟨i, z, hi, hz, hsz, hby, hzs⟩, hpos⟩ := hA
  have hown := hS.get hl
  obtain ⟨v', w', hr, hown', hg, _, hat⟩ := run_append_own_at (P := P) w 0 t o.type e i z sz bytes ht hi hz hsz hby hzs hpos v n fl hown ad m c cs hcs hc h1 (by simp only [maxLen]; unfold maxL at hn; omega) hb (Nat.zero_le _)
  have hst : St w0 w' (upd L k (own e sz v' (n + m) (fl ++ cs))) := by
    refine hS.upd hl ((Kp.of_grown hg).mono fun b hb => hb) hown' fun b hb => ?_
    have hb : v'.ownBlock = some b := hb
    rcases hat with hat | hat
    · refine .inl ?_
      show v.ownBlock = some b
      rw [← hat]
      exact hb
    · rw [hat] at hb
      cases hb
      refine .inr ⟨Nat.le_refl _, ?_⟩
      rcases hown'.2 with ⟨rfl, _⟩ | ⟨g, cap, cur, rfl, _, hh, _⟩
      · simp [Value.ownBlock] at hat
      · have : g = w.heap.size := by simpa [Value.ownBlock] using hat
        subst this
        exact (Array.getElem?_eq_some_iff.1 hh).1
  have hform : ∃ g' cap', v' = .slice (some ⟨g', 0, none⟩) (n + m) cap' := by
    rcases hown'.2 with ⟨_, h0⟩ | ⟨g, cap, cur, rfl, _⟩
    · omega
    · exact ⟨g, cap, rfl⟩
  obtain ⟨g', cap', rfl⟩ := hform
  refine ⟨.value _, _, w', ?_, .inl rfl, h g' cap' w' hst⟩
  unfold execOp; rw [ho]; simp [resolve, invoke, builtin, ha.eval hx, ha.eval hy, hr]
/-- append(v, x): the element lies in a block of its own. -/
theorem D_app1 (hA : AppOk P t e sz bytes) (hS : St w0 w L) (k : Nat) (hl : look L k = some (own e sz v n fl)) (j : Nat) (hj : look L j = some (blkL g cs e')) (ho : o.op = .call { callee := .builtin .append, args := #[x, y], argTypes := #[t, t] }) (hx : evalE E x = some v) (hy : evalE E y = some (.slice (some ⟨g, 0, none⟩) 1 1))
    (hcs : cs.length = sz) (h1 : cs.all (·.oneCell') = true) (hb : (n + 1) * bytes ≤ 140737488355328) (hn : n + 1 ≤ maxL)
    (h : ∀ g' cap' w', St w0 w' (upd L k (own e sz (.slice (some ⟨g', 0, none⟩) (n + 1) cap') (n + 1) (fl ++ cs))) → K (.slice (some ⟨g', 0, none⟩) (n + 1) cap') w') : Does P o E w K := by
  refine D_app hA hS hl ho hx hy (fun i u hu => ?_) (by omega) (fun u hu => List.all_eq_true.1 h1 u hu) hb hn Nat.one_pos h
  refine CellsAt.of_blk (hS.get hj) i u ?_
  simpa using hu
/-- append(v, ys...): ys are read. -/
theorem D_appS {α : Type} {d : Ty α} {W : World} {F : Nat → Prop} {ys : List α} {A : Option Addr} {c : Nat} (hA : AppOk P t e d.sz bytes) (hS : St w0 w L) (k : Nat) (hl : look L k = some (own e d.sz v n fl)) (j : Nat) (hj : look L j = some (fz W F)) (ho : o.op = .call { callee := .builtin .append, args := #[x, y], argTypes := #[t, t] }) (hx : evalE E x = some v) (hy : evalE E y = some (.slice A ys.length c))
    (hys : RdF (tSl d) W F [.slice A ys.length c] ys) (hb : (n + ys.length) * bytes ≤ 140737488355328) (hn : n + ys.length ≤ maxL)
    (h : ∀ v' gl w', Reps d W F ys gl → (∃ A' c', v' = .slice A' (n + ys.length) c' ∧ n + ys.length ≤ c') → St w0 w' (upd L k (own e d.sz v' (n + ys.length) (fl ++ gl))) → K v' w') : Does P o E w K := by
  obtain ⟨gl, hr, hcell⟩ := hys.flat
  rcases Nat.eq_zero_or_pos ys.length with h0 | h0
  · intro nt D a ha
    have hg : gl = [] := List.eq_nil_of_length_eq_zero (by rw [hr.1, h0, Nat.zero_mul])
    subst hg
    have hst : St w0 w (upd L k (own e d.sz v (n + ys.length) (fl ++ []))) := by
      rw [h0, Nat.add_zero, List.append_nil]
      exact hS.upd hl (Kp.refl _ _) (hS.get hl) fun b hb => .inl hb
    have hown := hS.get hl
    have hform : ∃ A' c', v = .slice A' (n + ys.length) c' ∧ n + ys.length ≤ c' := by
      rw [h0, Nat.add_zero]
      rcases hown.2 with ⟨rfl, rfl⟩ | ⟨g, cap, cur, rfl, _, _, hc, _⟩
      · exact ⟨_, _, rfl, Nat.le_refl _⟩
      · exact ⟨_, _, rfl, hc⟩
    refine ⟨.value v, v, w, ?_, .inl rfl, h v [] w hr hform hst⟩
    obtain ⟨ht, ⟨i, z, hi, hz, hsz, hby, hzs⟩, hpos⟩ := hA
    obtain ⟨A', c', rfl, hc'⟩ := hform
    rw [h0] at hy hc'
    have hu : ∀ w, (underlying t).run P w = .ok (.slice e) w := fun w => by simp [underlying, ht]
    have hs : ∀ w, (sizeOf e).run P w = .ok d.sz w := fun w => by simp [sizeOf, typeInfo, hi, hsz]
    have hf : ∀ w, (Builtin.firstCells d.sz 0 (.slice A 0 c)).run P w = .ok #[] w := fun w => by cases A <;> simp [Builtin.firstCells, loadCells, loadCellsFrom]
    unfold execOp; rw [ho]
    rw [h0] at hx ⊢
    simp only [Nat.add_zero] at hc' hx ⊢
    cases A' <;> simp [resolve, invoke, builtin, ha.eval hx, ha.eval hy, Builtin.append_, hu, hs, Builtin.lenOf, hf, hc', storeCells]
  · obtain ⟨ad, rfl, hc⟩ := hcell h0
    have hones : ∀ u ∈ gl, u.oneCell' = true := by
      intro u hu
      obtain ⟨q, hq, rfl⟩ := List.getElem_of_mem hu
      have hlt : q / d.sz < ys.length := by
        rw [Nat.div_lt_iff_lt_mul d.pos, ← hr.1]; exact hq
      have hrd := (hr.2 _ _ (List.getElem?_eq_getElem hlt)).here
      have hdm := Nat.div_add_mod q d.sz
      have hml := Nat.mod_lt q d.pos
      refine d.one hrd _ ?_
      have : ((gl.drop (q / d.sz * d.sz)).take d.sz)[q % d.sz]? = some gl[q] := by
        rw [List.getElem?_take, if_pos hml, List.getElem?_drop, Nat.mul_comm, hdm, List.getElem?_eq_getElem hq]
      exact List.mem_of_getElem? this
    exact D_app hA hS hl ho hx hy (hc w (hS.get hj)) hr.1 hones hb hn h0 fun g' cap' w' hst => h _ gl w' hr ⟨_, _, rfl, by
      have h1 := (hst.ok _ (look_mem (show look (upd L k (own e d.sz (.slice (some ⟨g', 0, none⟩) (n + ys.length) cap') (n + ys.length) (fl ++ gl))) k = some _ from look_upd hl)))
      rcases h1.2 with ⟨h2, _⟩ | ⟨g2, cap2, cur2, h2, _, _, h3, _⟩
      · cases h2
      · cases h2; exact h3⟩ hst
end
end Go.Sl

/- A small logic over the fenced walk: stamps and changes. -/
namespace Go.Sl
open Go Go.RowKit

structure Stamp where
  c : Int
  r : Int
  deriving DecidableEq, Inhabited
structure Change where
  at_ : Stamp
  seq : Int
  deps : List Int
  kind : Int
  node : Stamp
  par : Stamp
  aft : Stamp
  name : ByteArray
  val : ByteArray
  deriving DecidableEq, Inhabited
def stL (s : Stamp) : List Value := [.int .i64 s.c, .int .i64 s.r]
def chL (c : Change) (A : Option Addr) (cap : Nat) : List Value :=
  [.int .i64 c.at_.c, .int .i64 c.at_.r, .int .i64 c.seq, .slice A c.deps.length cap, .int .i64 c.kind, .int .i64 c.node.c, .int .i64 c.node.r, .int .i64 c.par.c, .int .i64 c.par.r, .int .i64 c.aft.c, .int .i64 c.aft.r, .string c.name, .string c.val]
abbrev StOk (s : Stamp) : Prop := InR s.c ∧ InR s.r
structure ChOk (c : Change) : Prop where
  at_ : StOk c.at_
  seq : InR c.seq
  kind : InR c.kind
  node : StOk c.node
  par : StOk c.par
  aft : StOk c.aft
  name : c.name.size ≤ 140737488355328
  val : c.val.size ≤ 140737488355328
def tSt : Ty Stamp :=
  { sz := 2
    pos := by decide
    rd := fun _ cs s => cs = stL s ∧ StOk s
    len := fun h => by rw [h.1]; rfl
    one := fun h v hv => by rw [h.1] at hv; simp [stL] at hv; rcases hv with rfl | rfl <;> rfl
    st := fun _ h => h }
def tCh : Ty Change :=
  { sz := 13
    pos := by decide
    rd := fun w cs c => ∃ A cap, cs = chL c A cap ∧ (tSl tI).rd w [.slice A c.deps.length cap] c.deps ∧ ChOk c
    len := fun h => by obtain ⟨A, cap, rfl, _⟩ := h; rfl
    one := fun h v hv => by
      obtain ⟨A, cap, rfl, _⟩ := h
      simp [chL] at hv
      rcases hv with rfl | rfl | rfl | rfl | rfl | rfl | rfl | rfl | rfl | rfl | rfl | rfl | rfl <;> rfl
    st := fun hk h => by
      obtain ⟨A, cap, hc, h1, h2⟩ := h
      exact ⟨A, cap, hc, (tSl tI).st hk h1, h2⟩ }
section
variable {W : World} {F : Nat → Prop} {es : List Value}
theorem openI {x : Int} (h : RdF tI W F es x) : es = [.int .i64 x] ∧ InR x := h.here
theorem openSt {s : Stamp} (h : RdF tSt W F es s) : es = stL s ∧ StOk s := h.here
theorem openCh {c : Change} (h : RdF tCh W F es c) : ∃ A cap, es = chL c A cap ∧ RdF (tSl tI) W F [.slice A c.deps.length cap] c.deps ∧ ChOk c := by
  obtain ⟨A, cap, rfl, _, ho⟩ := h.here
  refine ⟨A, cap, rfl, fun w hw => ?_, ho⟩
  obtain ⟨A', cap', he, hd, _⟩ := h w hw
  simp [chL] at he
  obtain ⟨rfl, rfl⟩ := he
  exact hd
theorem mkI {x : Int} (h : InR x) : RdF tI W F [.int .i64 x] x := fun _ _ => ⟨rfl, h⟩
theorem mkSt {s : Stamp} (h : StOk s) : RdF tSt W F (stL s) s := fun _ _ => ⟨rfl, h⟩
theorem mkCh {c : Change} {A : Option Addr} {cap : Nat} (h : RdF (tSl tI) W F [.slice A c.deps.length cap] c.deps) (ho : ChOk c) : RdF tCh W F (chL c A cap) c := fun w hw => ⟨A, cap, rfl, h w hw, ho⟩
end
end Go.Sl

/- A small logic over the fenced walk: statements whose order Go leaves open. -/
namespace Go.Sl
open Go Go.RowKit

def QF : Exit → Act → World → Prop := fun _ _ _ => False
/-- Whatever order is picked from here on; while operations of A come up, I stands. -/
def wpJ (ro : Option Nat) (P : Program) (ops : Array Oper) (I : World → Prop) (A : Nat → Bool) (K : Act → World → Prop) : Nat → Array Bool → Act → World → Prop
  | 0, listed, a, w => Region.ready .any ops listed = [] ∧ K a w
  | fuel + 1, listed, a, w =>
    (Region.ready .any ops listed = [] → K a w) ∧
    ∀ i ∈ Region.ready .any ops listed, wpOpIn (Fw ro) 0 P ops QF i (fun a' w' => (A i = true → I w → I w') ∧ wpJ ro P ops I A K fuel (listed.setIfInBounds i true) a' w') a w
section
variable {ro : Option Nat} {P : Program} {ops : Array Oper} {I : World → Prop} {A : Nat → Bool} {K : Act → World → Prop} {Q : Exit → Act → World → Prop}
theorem Oper.wpIn_ofF {o : Oper} {a : Act} {w : World} {K' : Act → World → Prop} {n : Nat} (h : o.wpIn (Fw ro) n P a w K' QF) : o.wpIn (Fw ro) n P a w K' Q := by
  unfold Oper.wpIn at *
  refine ⟨h.1, ?_⟩
  have hh := h.2
  generalize (o.semAt (Fw ro).round a.eval).run P w = r at *
  cases r with
  | ok x w' =>
    cases x <;> simp only [Oper.uponIn] at hh ⊢ <;>
      first
        | exact hh
        | exact ⟨hh.1, CallsIn.mono hh.2 (fun e w'' he => by
            cases e
            · exact he
            · exact he.elim
            · obtain ⟨_, _, h⟩ := he; exact h.elim)⟩
        | exact ⟨hh.1, RowsIn.mono hh.2 (fun _ _ he => he)⟩
        | exact ⟨hh.1, RoundIn.mono hh.2 (fun e w'' he => by
            cases e
            · exact he
            · exact he.elim
            · obtain ⟨_, _, h⟩ := he; exact h.elim)⟩
  | halt x w' => cases x <;> simp only [Oper.uponIn] at hh ⊢ <;> exact hh.elim
theorem wpOpIn_ofF {i : Nat} {a : Act} {w : World} {K' : Act → World → Prop} (h : wpOpIn (Fw ro) 0 P ops QF i K' a w) : wpOpIn (Fw ro) 0 P ops Q i K' a w := by
  unfold wpOpIn at *
  split
  · rename_i ho; simpa [ho] using h
  · rename_i o ho
    simp only [ho] at h
    split
    · rename_i hw; simp only [hw, if_true] at h; exact Oper.wpIn_ofF h
    · rename_i hw; simp only [hw] at h; exact h
theorem wpJ_sound (hK : ∀ a w, K a w → Q .normal a w) : ∀ (fuel : Nat) (listed : Array Bool) (a : Act) (w : World), wpJ ro P ops I A K fuel listed a w → wpAnyIn (Fw ro) 0 P .any ops Q fuel listed a w
  | 0, _, _, _, h => ⟨h.1, hK _ _ h.2⟩
  | fuel + 1, _, _, _, h => ⟨fun h0 => hK _ _ (h.1 h0), fun i hi => wpOpIn_ofF (wpOpIn_mono (fun a' w' hh => wpJ_sound hK fuel _ a' w' hh.2) (h.2 i hi))⟩
/-- In state a operation o yields v and turns nothing, wherever I stands; or its guard doesn't want it. -/
def YieldsI (P : Program) (ops : Array Oper) (I : World → Prop) (o : Oper) (v : Value) (a : Act) : Prop :=
  (Region.wanted o (yielded ops a.tmps) = true ∧ ∀ w, I w → (execOp a.eval o).run P w = .ok (.value v) w) ∨ (Region.wanted o (yielded ops a.tmps) = false ∧ v = undef)
def noDefer (o : Oper) : Bool := match o.op with
  | .defer _ => false
  | .select .. => false
  | _ => true
theorem noDefer_semAt {o : Oper} (h : noDefer o = true) (ro : Option Nat) (ρ : Operand → Value) : o.semAt ro ρ = execOp ρ o :=
  Oper.semAt_eq ro ρ o fun c hc => by simp [noDefer, hc] at h
theorem noDefer_select {o : Oper} (h : noDefer o = true) : ∀ cs b, o.op ≠ .select cs b := fun cs b hc => by simp [noDefer, hc] at h
theorem YieldsI.same {o : Oper} {v : Value} {a a' : Act} (hy : YieldsI P ops I o v a) (he : execOp a'.eval o = execOp a.eval o) (hw : Region.wanted o (yielded ops a'.tmps) = Region.wanted o (yielded ops a.tmps)) : YieldsI P ops I o v a' := by
  unfold YieldsI at *
  rw [he, hw]
  exact hy
theorem YieldsI.op {i : Nat} {o : Oper} {v : Value} {a : Act} {w : World} {K' : Act → World → Prop} (hn : noDefer o = true) (hi : ops[i]? = some o) (hy : YieldsI P ops I o v a) (hI : I w) (h : K' (a.put o.dst v) w) : wpOpIn (Fw ro) 0 P ops QF i K' a w := by
  unfold wpOpIn
  simp only [hi]
  rcases hy with ⟨hw, hv⟩ | ⟨hw, rfl⟩
  · simp only [hw, if_true, Oper.wpIn, noDefer_semAt hn, hv w hI, Oper.uponIn]; exact ⟨fun _ _ => trivial, h⟩
  · simp only [hw, Bool.false_eq_true, if_false]; exact ⟨fun _ _ => trivial, h⟩
/-- One operation oj, apart from oi: oi's value in its temporary makes no difference to it, nor it to oi. -/
theorem wpOpF_put {j : Nat} {oi oj : Oper} {v : Value} (hj : ops[j]? = some oj) (hap : oi.apart ops oj = true) (hsi : noDefer oi = true) (hsj : noDefer oj = true) {K' : Act → World → Prop} {a : Act} {w : World}
    (hy : YieldsI P ops I oi v a) (h : wpOpIn (Fw ro) 0 P ops QF j K' (a.put oi.dst v) w) : wpOpIn (Fw ro) 0 P ops QF j (fun a' w' => YieldsI P ops I oi v a' ∧ K' (a'.put oi.dst v) w') a w := by
  obtain ⟨h1, h2, h3⟩ := Oper.apart_spec hap
  have keep : ∀ (a : Act), YieldsI P ops I oi v a → ∀ u, YieldsI P ops I oi v (a.put oj.dst u) := fun a hy u => hy.same (execOp_put oi (noDefer_select hsi) a oj.dst u h3) (wanted_put oi a oj.dst u h3)
  have keepD : ∀ d, YieldsI P ops I oi v { a with defers := d :: a.defers } := fun d => hy.same rfl rfl
  unfold wpOpIn at *
  simp only [hj] at *
  rw [wanted_put oj a oi.dst v h1] at h
  split
  · rename_i hw
    simp only [hw, if_true] at h
    unfold Oper.wpIn at *
    refine ⟨fun _ _ => trivial, ?_⟩
    have h := h.2
    rw [noDefer_semAt hsj, execOp_put oj (noDefer_select hsj) a oi.dst v h1] at h
    rw [noDefer_semAt hsj]
    generalize (execOp a.eval oj).run P w = r at *
    cases r with
    | ok x w' =>
      cases x <;> simp only [Oper.uponIn] at h ⊢
      case value u => exact ⟨keep a hy u, by rw [← Act.put_comm a v u h2]; exact h⟩
      case skip => exact ⟨keep a hy _, by rw [← Act.put_comm a v undef h2]; exact h⟩
      case defer d =>
        refine ⟨keep _ (keepD d) _, ?_⟩
        rw [← Act.put_comm _ v undef h2, ← Act.put_defers]
        exact h
      case enter f args =>
        refine ⟨h.1, CallsIn.mono h.2 fun e w'' he => ?_⟩
        cases e with
        | returned u => exact ⟨keep a hy u, by rw [← Act.put_comm a v u h2]; exact he⟩
        | panicked c => exact he
        | outgrown => obtain ⟨_, _, h⟩ := he; exact h.elim
      case row row args => exact ⟨h.1, RowsIn.mono h.2 fun u w'' he => ⟨keep a hy u, by rw [← Act.put_comm a v u h2]; exact he⟩⟩
      case round l f tmps assign body =>
        refine ⟨h.1, RoundIn.mono h.2 fun e w'' he => ?_⟩
        cases e with
        | returned u => exact ⟨keep a hy u, by rw [← Act.put_comm a v u h2]; exact he⟩
        | panicked c => exact he
        | outgrown => obtain ⟨_, _, h⟩ := he; exact h.elim
    | halt x w' =>
      cases x <;> simp only [Oper.uponIn] at h ⊢ <;> exact h.elim
  · rename_i hw
    simp only [hw] at h
    exact ⟨fun _ _ => trivial, keep a hy _, by rw [← Act.put_comm a v undef h2]; exact h.2⟩
/-- Whoever has not come up waits for i, or is apart from it and one of A. -/
def freeA (ops : Array Oper) (nA : Nat) (listed : Array Bool) (i : Nat) : Bool :=
  match ops[i]? with
  | none => false
  | some oi => noDefer oi && (List.range ops.size).all fun j => Nat.beq j i || listed.getD j true || (match ops[j]? with
      | some oj => oj.after.any (fun e => Region.binds .any e && Nat.beq e.on i) || (oi.apart ops oj && Nat.blt j nA && noDefer oj)
      | none => true)
theorem wpJ_first {I' : World → Prop} {nA' : Nat} {i nA : Nat} (himp : ∀ j w w', Nat.blt j nA' = true → (Nat.blt j nA = true → I w → I w') → I' w → I' w') {oi : Oper} {v : Value} (hi : ops[i]? = some oi) :
    ∀ (fuel : Nat) (listed : Array Bool) (a : Act) (w : World), freeA ops nA' listed i = true → i ∈ Region.ready .any ops listed → I' w → YieldsI P ops I' oi v a →
      wpJ ro P ops I (fun j => Nat.blt j nA) K fuel (listed.setIfInBounds i true) (a.put oi.dst v) w → wpJ ro P ops I (fun j => Nat.blt j nA) K (fuel + 1) listed a w := by
  intro fuel
  induction fuel with
  | zero =>
    intro listed a w hf hr hI hy H
    have hn : noDefer oi = true := by simp [freeA, hi] at hf; exact hf.1
    refine ⟨fun h => (by rw [h] at hr; cases hr), fun j hj => ?_⟩
    by_cases hji : j = i
    · subst hji; exact hy.op hn hi hI ⟨fun _ h => h, H⟩
    · have := ready_mono hj hji
      rw [H.1] at this
      cases this
  | succ fuel ih =>
    intro listed a w hf hr hI hy H
    have hf0 := hf
    simp only [freeA, hi, Bool.and_eq_true, List.all_eq_true, List.mem_range] at hf0
    obtain ⟨hn, hall⟩ := hf0
    refine ⟨fun h => (by rw [h] at hr; cases hr), fun j hj => ?_⟩
    by_cases hji : j = i
    · subst hji; exact hy.op hn hi hI ⟨fun _ h => h, H⟩
    · have h1 := H.2 j (ready_mono hj hji)
      obtain ⟨hjun, oj, hoj, hdeps⟩ := mem_ready.1 hj
      have hnot : ∀ e ∈ oj.after, Region.binds .any e = true → e.on ≠ i := fun e he hb heq => by
        have h1 := hdeps e he hb
        have h0 := (mem_ready.1 hr).1
        rw [heq] at h1
        rcases Nat.lt_or_ge i listed.size with h' | h'
        · simp [h'] at h0 h1; rw [h0] at h1; cases h1
        · simp [Array.getElem?_eq_none h'] at h1
      have hfj := hall j (Array.getElem?_eq_some_iff.1 hoj).1
      have hbji : Nat.beq j i = false := by
        cases hb : Nat.beq j i
        · rfl
        · exact absurd (beq_of hb) hji
      simp only [hoj, hbji, hjun, Bool.or_eq_true, Bool.false_eq_true, false_or, Bool.and_eq_true] at hfj
      have hfj' : (oi.apart ops oj = true ∧ Nat.blt j nA' = true) ∧ noDefer oj = true := by
        rcases hfj with hw | hw
        · obtain ⟨e, he, hb⟩ := Array.any_eq_true'.1 hw
          simp only [Bool.and_eq_true] at hb
          exact absurd (beq_of hb.2) (hnot e he hb.1)
        · exact hw
      obtain ⟨⟨hap, hA⟩, hnj⟩ := hfj'
      have h2 := wpOpF_put hoj hap hn hnj hy h1
      refine wpOpIn_mono (fun a' w' h3 => ?_) h2
      obtain ⟨hy', hI', hK'⟩ := h3
      refine ⟨hI', ih (listed.setIfInBounds j true) a' w' ?_ (ready_mono hr (Ne.symm hji)) (himp j w w' hA hI' hI) hy' ?_⟩
      · simp only [freeA, hi, Bool.and_eq_true, List.all_eq_true, List.mem_range]
        refine ⟨hn, fun k hk => ?_⟩
        have := hall k hk
        simp only [Bool.or_eq_true] at this ⊢
        rcases this with (h | h) | h
        · exact .inl (.inl h)
        · refine .inl (.inr ?_)
          by_cases hjk : j = k
          · subst hjk; rw [hjun] at h; cases h
          · rw [getD_set_ne true hjk]; exact h
        · exact .inr h
      · rw [Array.setIfInBounds_comm _ _ hji]
        exact hK'

/-! ### The judgement -/
/-- What is to be shown of a region in whatever order, behind what is listed. -/
def JA (ro : Option Nat) (P : Program) (nt : Nat) (D : List Deferred) (ops : Array Oper) (I : World → Prop) (nA : Nat) (Q : Exit → Act → World → Prop) (fuel : Nat) (listed : Array Bool) (E : Env) (w : World) : Prop :=
  ∀ a, Ag nt D E a → wpJ ro P ops I (fun j => Nat.blt j nA) (Q .normal) fuel listed a w
variable {nt : Nat} {D : List Deferred} {E : Env} {w : World} {nA fuel i : Nat} {listed : Array Bool} {o : Oper}
theorem C_draw {id : Nat} (I : World → Prop) (nA : Nat) (hm : P.follows .mixedOrders = true) (n : Nat) (hn : ops.size = n) (h : ∀ w', Kp no w w' → JA ro P nt D ops I nA Q n (Array.replicate n false) E w') : C ro P nt D (.region id ops true) Q E w := fun a ha => by
  refine wpIn_region_any hm (wpJ_sound (I := I) (A := fun j => Nat.blt j nA) (K := Q .normal) (fun _ _ h => h) _ _ _ _ ?_)
  rw [hn]
  exact h _ (Kp.drew w) a ha
/-- An operation that reads alone is taken first. -/
theorem JA_q (i : Nat) (d : Nat) {v : Value} (ho : ops[i]? = some o) (hf : fine ops o nt = true) (hw : wantsE ops o E = some true) (hd : o.dst = some d) (hfr : freeA ops nA listed i = true) (hr : (Region.ready .any ops listed).contains i = true)
    (hI : I w) (hq : ∀ w', I w' → Qt P o E w' v) (hk : JA ro P nt D ops I nA Q fuel (listed.setIfInBounds i true) ((d, v) :: E) w) : JA ro P nt D ops I nA Q (fuel + 1) listed E w := fun a ha => by
  refine wpJ_first (fun _ _ _ h1 h2 h3 => h2 h1 h3) ho fuel listed a w hfr (by simpa using hr) hI (.inl ⟨wanted_of ha hw (guardLt_of (fine_guard hf)), fun w' hw' => hq w' hw' nt D a ha⟩) ?_
  have h3 := hk _ (ha.after v hf |> fun h => by unfold Sl.after at h; rw [hd] at h; exact h)
  have hput : a.put (some d) v = a.put o.dst v := by rw [hd]
  exact hput ▸ h3
/-- .. one whose value no world turns. -/
theorem JA_p (i d n' : Nat) {v : Value} (ho : ops[i]? = some o) (hf : fine ops o nt = true) (hw : wantsE ops o E = some true) (hd : o.dst = some d) (hfr : freeA ops n' listed i = true) (hr : (Region.ready .any ops listed).contains i = true)
    (hq : ∀ w', Qt P o E w' v) (hk : JA ro P nt D ops I nA Q fuel (listed.setIfInBounds i true) ((d, v) :: E) w) : JA ro P nt D ops I nA Q (fuel + 1) listed E w := fun a ha => by
  refine wpJ_first (I' := fun _ => True) (nA' := n') (fun _ _ _ _ _ h => h) ho fuel listed a w hfr (by simpa using hr) trivial (.inl ⟨wanted_of ha hw (guardLt_of (fine_guard hf)), fun w' _ => hq w' nt D a ha⟩) ?_
  have h3 := hk _ (ha.after v hf |> fun h => by unfold Sl.after at h; rw [hd] at h; exact h)
  have hput : a.put (some d) v = a.put o.dst v := by rw [hd]
  exact hput ▸ h3
/-- .. one that its guard doesn't want. -/
theorem JA_no (i n' : Nat) (ho : ops[i]? = some o) (hf : fine ops o nt = true) (hw : wantsE ops o E = some false) (hfr : freeA ops n' listed i = true) (hr : (Region.ready .any ops listed).contains i = true)
    (hn : ∀ d, o.dst = some d → E.get d = none) (hk : JA ro P nt D ops I nA Q fuel (listed.setIfInBounds i true) E w) : JA ro P nt D ops I nA Q (fuel + 1) listed E w := fun a ha => by
  refine wpJ_first (I' := fun _ => True) (nA' := n') (fun _ _ _ _ _ h => h) ho fuel listed a w hfr (by simpa using hr) trivial (.inr ⟨wanted_of ha hw (guardLt_of (fine_guard hf)), rfl⟩) ?_
  refine hk _ ?_
  have h := ha.after undef hf
  unfold Sl.after at h
  cases hd : o.dst with
  | none => rw [hd] at h; exact h
  | some d =>
    rw [hd] at h
    refine ⟨h.size, h.defers, fun t v hv => h.get t v ?_⟩
    have hne : d ≠ t := fun e => by rw [← e, hn d hd] at hv; cases hv
    rw [get_cons_other _ _ hne]
    exact hv
theorem JA_noU (i d n' : Nat) (ho : ops[i]? = some o) (hf : fine ops o nt = true) (hw : wantsE ops o E = some false) (hd : o.dst = some d) (hfr : freeA ops n' listed i = true) (hr : (Region.ready .any ops listed).contains i = true)
    (hk : JA ro P nt D ops I nA Q fuel (listed.setIfInBounds i true) ((d, undef) :: E) w) : JA ro P nt D ops I nA Q (fuel + 1) listed E w := fun a ha => by
  refine wpJ_first (I' := fun _ => True) (nA' := n') (fun _ _ _ _ _ h => h) ho fuel listed a w hfr (by simpa using hr) trivial (.inr ⟨wanted_of ha hw (guardLt_of (fine_guard hf)), rfl⟩) ?_
  refine hk _ ?_
  have h := ha.after undef hf
  unfold Sl.after at h
  rw [hd] at h ⊢
  exact h
/-- The only one that may come up. -/
theorem JA_do (i : Nat) (d : Nat) (ho : ops[i]? = some o) (hf : fine ops o nt = true) (hw : wantsE ops o E = some true) (hd : o.dst = some d) (hr : Region.ready .any ops listed = [i])
    (hq : Does P o E w fun v w' => (Nat.blt i nA = true → I w') ∧ JA ro P nt D ops I nA Q fuel (listed.setIfInBounds i true) ((d, v) :: E) w') : JA ro P nt D ops I nA Q (fuel + 1) listed E w := fun a ha => by
  refine ⟨fun h => (by rw [hr] at h; cases h), fun j hj => ?_⟩
  rw [hr] at hj
  simp only [List.mem_singleton] at hj
  subst hj
  obtain ⟨nx, v, w', hrun, hnx, hI, hK⟩ := hq nt D a ha
  have ha' : Ag nt D ((d, v) :: E) (a.put o.dst v) := by
    have h := ha.after v hf
    unfold Sl.after at h
    rw [hd] at h ⊢
    exact h
  have h3 := hK _ ha'
  unfold wpOpIn
  simp only [ho, wanted_of ha hw (guardLt_of (fine_guard hf)), if_true, Oper.wpIn, fine_semAt hf, hrun]
  rcases hnx with rfl | ⟨rfl, rfl⟩
  · exact ⟨fun _ _ => trivial, fun h _ => hI h, h3⟩
  · exact ⟨fun _ _ => trivial, fun h _ => hI h, h3⟩
theorem JA_do0 (i : Nat) (ho : ops[i]? = some o) (hf : fine ops o nt = true) (hw : wantsE ops o E = some true) (hd : o.dst = none) (hr : Region.ready .any ops listed = [i])
    (hq : Does P o E w fun v w' => (Nat.blt i nA = true → I w') ∧ JA ro P nt D ops I nA Q fuel (listed.setIfInBounds i true) E w') : JA ro P nt D ops I nA Q (fuel + 1) listed E w := fun a ha => by
  refine ⟨fun h => (by rw [hr] at h; cases h), fun j hj => ?_⟩
  rw [hr] at hj
  simp only [List.mem_singleton] at hj
  subst hj
  obtain ⟨nx, v, w', hrun, hnx, hI, hK⟩ := hq nt D a ha
  have h3 := hK _ ha
  unfold wpOpIn
  simp only [ho, wanted_of ha hw (guardLt_of (fine_guard hf)), if_true, Oper.wpIn, fine_semAt hf, hrun]
  rcases hnx with rfl | ⟨rfl, rfl⟩
  · refine ⟨fun _ _ => trivial, fun h _ => hI h, ?_⟩
    simp only [hd, Act.put]
    exact h3
  · refine ⟨fun _ _ => trivial, fun h _ => hI h, ?_⟩
    simp only [hd, Act.put]
    exact h3
theorem JA_call (i : Nat) (d : Nat) {f : FuncId} {args : Array Value} {R : Ending → World → Prop} (ho : ops[i]? = some o) (hf : fine ops o nt = true) (hw : wantsE ops o E = some true) (hd : o.dst = some d) (hr : Region.ready .any ops listed = [i])
    (hq : CallsTo P o E w f args) (hc : Calls P f args w R)
    (hk : ∀ e w', R e w' → ∃ v, e = .returned v ∧ (Nat.blt i nA = true → I w') ∧ JA ro P nt D ops I nA Q fuel (listed.setIfInBounds i true) ((d, v) :: E) w') : JA ro P nt D ops I nA Q (fuel + 1) listed E w := fun a ha => by
  refine ⟨fun h => (by rw [hr] at h; cases h), fun j hj => ?_⟩
  rw [hr] at hj
  simp only [List.mem_singleton] at hj
  subst hj
  have h2 := hq nt D a ha
  unfold wpOpIn
  simp only [ho, wanted_of ha hw (guardLt_of (fine_guard hf)), if_true, Oper.wpIn, fine_semAt hf, h2, Oper.uponIn]
  refine ⟨fun _ _ => trivial, fun h => by simp [Fw] at h, ?_⟩
  refine (callsIn_fw_any ro hc).mono ?_
  rintro e w' hR
  obtain ⟨v, rfl, hI, hJ⟩ := hk e w' hR
  have ha' : Ag nt D ((d, v) :: E) (a.put o.dst v) := by
    have h := ha.after v hf
    unfold Sl.after at h
    rw [hd] at h ⊢
    exact h
  exact ⟨fun h _ => hI h, hJ _ ha'⟩
/-- All have come up. -/
theorem JA_end (hr : Region.ready .any ops listed = []) (h : ∀ a, Ag nt D E a → Q .normal a w) : JA ro P nt D ops I nA Q fuel listed E w := fun a ha => by
  cases fuel with
  | zero => exact ⟨hr, h a ha⟩
  | succ n => exact ⟨fun _ => h a ha, fun i hi => by rw [hr] at hi; cases hi⟩
theorem JA_split (d : Nat) {p : Prop} [Decidable p] (hd : E.get d = some (.bool (decide p))) (h1 : p → JA ro P nt D ops I nA Q fuel listed ((d, .bool true) :: E) w) (h2 : ¬ p → JA ro P nt D ops I nA Q fuel listed ((d, .bool false) :: E) w) : JA ro P nt D ops I nA Q fuel listed E w := by
  intro a ha
  by_cases h : p
  · rw [decide_eq_true h] at hd; exact h1 h a (ha.bind hd)
  · rw [decide_eq_false h] at hd; exact h2 h a (ha.bind hd)
theorem JA_splitB (d : Nat) {b : Bool} (hd : E.get d = some (.bool b)) (h1 : b = true → JA ro P nt D ops I nA Q fuel listed ((d, .bool true) :: E) w) (h2 : b = false → JA ro P nt D ops I nA Q fuel listed ((d, .bool false) :: E) w) : JA ro P nt D ops I nA Q fuel listed E w := by
  intro a ha
  cases b
  · exact h2 rfl a (ha.bind hd)
  · exact h1 rfl a (ha.bind hd)
end
end Go.Sl

/- A small logic over the fenced walk: loads of cells, ways that are known, calls in place, scopes, results. -/
namespace Go.Sl
open Go Go.RowKit
section
variable {P : Program} {o : Oper} {E : Env} {w w0 : World} {v v1 v2 : Value} {x y z : Operand} {t s e : TypeId} {L : Hp} {ad b : Addr} {es : List Value} {j n : Nat}
/-! ### 13. Loads of cells -/
theorem Q_ldC1 (hc : CellsAt w b es) (ho : o.op = .load t x) (hx : evalE E x = some (.pointer (some (b.add j)))) (ht : ∀ w, (isAgg t).run P w = .ok false w) (hv : cget es j = some v) : Qt P o E w v :=
  Q_load1 ho hx ht (hc j v (by rw [← cget_eq]; exact hv))
theorem Q_ldC1' (hc : CellsAt w b es) (ho : o.op = .load t x) (hx : evalE E x = some (.pointer (some b))) (ht : ∀ w, (isAgg t).run P w = .ok false w) (hv : cget es 0 = some v) : Qt P o E w v :=
  Q_ldC1 (j := 0) hc ho (by rw [hx, add_zero_]) ht hv
theorem Q_ldCK (es0 : List Value) (hc : CellsAt w b es) (ho : o.op = .load t x) (hx : evalE E x = some (.pointer (some (b.add j)))) (ht : ∀ w, (isAgg t).run P w = .ok true w) (hs : ∀ w, (sizeOf t).run P w = .ok n w) (hv : subL es j n = es0) (hn : es0.length = n) : Qt P o E w (.agg es0.toArray) := by
  refine Q_loadK ho hx ht (by rw [hn]; exact hs) ?_
  have := hc.sub j n
  rw [← hv, subL_eq]
  exact this
theorem Q_ldCK' (es0 : List Value) (hc : CellsAt w b es) (ho : o.op = .load t x) (hx : evalE E x = some (.pointer (some b))) (ht : ∀ w, (isAgg t).run P w = .ok true w) (hs : ∀ w, (sizeOf t).run P w = .ok n w) (hv : subL es 0 n = es0) (hn : es0.length = n) : Qt P o E w (.agg es0.toArray) :=
  Q_ldCK (j := 0) es0 hc ho (by rw [hx, add_zero_]) ht hs hv hn
/-! ### 14. Other forms of operations -/
theorem Q_toB {c c' : Bool} (h : Qt P o E w (.bool c)) (hc : c = c') : Qt P o E w (.bool c') := hc ▸ h
theorem Q_toI {k : IntKind} {i i' : Int} (h : Qt P o E w (.int k i)) (hi : i = i') : Qt P o E w (.int k i') := hi ▸ h
theorem Q_not2 {p : Prop} [Decidable p] (ho : o.op = .unOp .not t x) (hx : evalE E x = some (.bool (!decide p))) : Qt P o E w (.bool (decide p)) := Q_toB (Q_not ho hx) (by simp)
theorem Q_neqN {k : IntKind} {i j : Int} (ho : o.op = .binOp .neq t x y e) (hx : evalE E x = some (.int k i)) (hy : evalE E y = some (.int k j)) : Qt P o E w (.bool (!decide (i = j))) := Q_toB (Q_neq ho hx hy) (by simp)
theorem Q_neqSN {p q : ByteArray} (ho : o.op = .binOp .neq t x y e) (hx : evalE E x = some (.string p)) (hy : evalE E y = some (.string q)) : Qt P o E w (.bool (!decide (p = q))) := Q_toB (Q_neqS ho hx hy) (by simp)
theorem Q_eqNilT (ho : o.op = .binOp .eql t x y e) (hx : evalE E x = some (.pointer none)) (hy : evalE E y = some (.pointer none)) (ht : P.underlying t = some (.pointer (P.pointee t))) : Qt P o E w (.bool true) := Q_eqNilP ho hx hy ht
theorem Q_eqNilF (ho : o.op = .binOp .eql t x y e) (hx : evalE E x = some (.pointer (some ad))) (hy : evalE E y = some (.pointer none)) (ht : P.underlying t = some (.pointer (P.pointee t))) : Qt P o E w (.bool false) := Q_eqNilP ho hx hy ht
theorem Q_neNilT (ho : o.op = .binOp .neq t x y e) (hx : evalE E x = some (.pointer (some ad))) (hy : evalE E y = some (.pointer none)) (ht : P.underlying t = some (.pointer (P.pointee t))) : Qt P o E w (.bool true) := Q_neNilP ho hx hy ht
theorem Q_neNilF (ho : o.op = .binOp .neq t x y e) (hx : evalE E x = some (.pointer none)) (hy : evalE E y = some (.pointer none)) (ht : P.underlying t = some (.pointer (P.pointee t))) : Qt P o E w (.bool false) := Q_neNilP ho hx hy ht
/-- '==' of two structs, as closed facts. -/
theorem Q_eqlA {c : Bool} {us vs : Array Value} (ho : o.op = .binOp .eql t x y e) (hx : evalE E x = some (.agg us)) (hy : evalE E y = some (.agg vs)) (hg : P.eqGuardType P.depth t = false) (hr : ∀ w, (Op.equalIn 10000 t (.agg us) (.agg vs)).run P w = .ok c w) : Qt P o E w (.bool c) := fun nt D a ha => by
  unfold execOp; rw [ho]; simp [ha.eval hx, ha.eval hy, run_eqGuard_agg _ _ _ _ _ _ _ hg, run_eql_struct, hr]
theorem Q_ext {v : Value} (ho : o.op = .extract x n) (hx : evalE E x = some (.tuple es.toArray)) (hv : cget es n = some v) : Qt P o E w v := Q_extract ho hx (by rw [← hv, cget_eq]; simp)
/-! ### 15. Ways -/
section
variable {ro : Option Nat} {nt : Nat} {D : List Deferred} {ops : Array Oper} {Q : Exit → Act → World → Prop} {l : List Nat} {I : World → Prop} {nA fuel : Nat} {listed : Array Bool} {p : Prop} [Decidable p] {c : Operand} {cx cy : Code}
theorem C_ifN (hc : evalE E c = some (.bool (!decide p))) (h1 : ¬ p → C ro P nt D cx Q E w) (h2 : p → C ro P nt D cy Q E w) : C ro P nt D (.cond c cx cy) Q E w := by
  by_cases h : p
  · exact C_false (by rw [hc, decide_eq_true h]; rfl) (h2 h)
  · exact C_true (by rw [hc, decide_eq_false h]; rfl) (h1 h)
theorem C_ifNT (hc : evalE E c = some (.bool (!decide p))) (hp : ¬ p) (h : C ro P nt D cx Q E w) : C ro P nt D (.cond c cx cy) Q E w := C_true (by rw [hc, decide_eq_false hp]; rfl) h
theorem C_ifNF (hc : evalE E c = some (.bool (!decide p))) (hp : p) (h : C ro P nt D cy Q E w) : C ro P nt D (.cond c cx cy) Q E w := C_false (by rw [hc, decide_eq_true hp]; rfl) h
theorem J_set (d : Nat) {u : Value} (hd : E.get d = some u) (hu : u = v) (h : J ro P nt D ops Q l ((d, v) :: E) w) : J ro P nt D ops Q l E w := fun a ha => h a (ha.bind (hu ▸ hd))
theorem JA_set (d : Nat) {u : Value} (hd : E.get d = some u) (hu : u = v) (h : JA ro P nt D ops I nA Q fuel listed ((d, v) :: E) w) : JA ro P nt D ops I nA Q fuel listed E w := fun a ha => h a (ha.bind (hu ▸ hd))
theorem bT (hp : p) : Value.bool (decide p) = .bool true := by rw [decide_eq_true hp]
theorem bF (hp : ¬ p) : Value.bool (decide p) = .bool false := by rw [decide_eq_false hp]
theorem bNT (hp : ¬ p) : Value.bool (!decide p) = .bool true := by rw [decide_eq_false hp]; rfl
theorem bNF (hp : p) : Value.bool (!decide p) = .bool false := by rw [decide_eq_true hp]; rfl
theorem J_setT (d : Nat) (hd : E.get d = some (.bool (decide p))) (hp : p) (h : J ro P nt D ops Q l ((d, .bool true) :: E) w) : J ro P nt D ops Q l E w := J_set d hd (bT hp) h
theorem J_setF (d : Nat) (hd : E.get d = some (.bool (decide p))) (hp : ¬ p) (h : J ro P nt D ops Q l ((d, .bool false) :: E) w) : J ro P nt D ops Q l E w := J_set d hd (bF hp) h
theorem J_setNT (d : Nat) (hd : E.get d = some (.bool (!decide p))) (hp : ¬ p) (h : J ro P nt D ops Q l ((d, .bool true) :: E) w) : J ro P nt D ops Q l E w := J_set d hd (bNT hp) h
theorem J_setNF (d : Nat) (hd : E.get d = some (.bool (!decide p))) (hp : p) (h : J ro P nt D ops Q l ((d, .bool false) :: E) w) : J ro P nt D ops Q l E w := J_set d hd (bNF hp) h
theorem J_splitN (d : Nat) (hd : E.get d = some (.bool (!decide p))) (h1 : ¬ p → J ro P nt D ops Q l ((d, .bool true) :: E) w) (h2 : p → J ro P nt D ops Q l ((d, .bool false) :: E) w) : J ro P nt D ops Q l E w := by
  by_cases h : p
  · exact J_setNF d hd h (h2 h)
  · exact J_setNT d hd h (h1 h)
theorem JA_setT (d : Nat) (hd : E.get d = some (.bool (decide p))) (hp : p) (h : JA ro P nt D ops I nA Q fuel listed ((d, .bool true) :: E) w) : JA ro P nt D ops I nA Q fuel listed E w := JA_set d hd (bT hp) h
theorem JA_setF (d : Nat) (hd : E.get d = some (.bool (decide p))) (hp : ¬ p) (h : JA ro P nt D ops I nA Q fuel listed ((d, .bool false) :: E) w) : JA ro P nt D ops I nA Q fuel listed E w := JA_set d hd (bF hp) h
theorem JA_setNT (d : Nat) (hd : E.get d = some (.bool (!decide p))) (hp : ¬ p) (h : JA ro P nt D ops I nA Q fuel listed ((d, .bool true) :: E) w) : JA ro P nt D ops I nA Q fuel listed E w := JA_set d hd (bNT hp) h
theorem JA_setNF (d : Nat) (hd : E.get d = some (.bool (!decide p))) (hp : p) (h : JA ro P nt D ops I nA Q fuel listed ((d, .bool false) :: E) w) : JA ro P nt D ops I nA Q fuel listed E w := JA_set d hd (bNF hp) h
theorem JA_splitN (d : Nat) (hd : E.get d = some (.bool (!decide p))) (h1 : ¬ p → JA ro P nt D ops I nA Q fuel listed ((d, .bool true) :: E) w) (h2 : p → JA ro P nt D ops I nA Q fuel listed ((d, .bool false) :: E) w) : JA ro P nt D ops I nA Q fuel listed E w := by
  by_cases h : p
  · exact JA_setNF d hd h (h2 h)
  · exact JA_setNT d hd h (h1 h)
/-- A call, walked where it stands. -/
theorem J_in {i : Nat} (d : Nat) {f : FuncId} {args : Array Value} (ho : ops[i]? = some o) (hf : fine ops o nt = true) (hw : wantsE ops o E = some true) (hd : o.dst = some d) (hq : CallsTo P o E w f args)
    (h : Calls P f args w fun e w' => ∃ v, e = .returned v ∧ J ro P nt D ops Q l ((d, v) :: E) w') : J ro P nt D ops Q (i :: l) E w := J_call d ho hf hw hd hq h fun _ _ h => h
theorem JA_in (i : Nat) (d : Nat) {f : FuncId} {args : Array Value} (ho : ops[i]? = some o) (hf : fine ops o nt = true) (hw : wantsE ops o E = some true) (hd : o.dst = some d) (hr : Region.ready .any ops listed = [i]) (hq : CallsTo P o E w f args)
    (h : Calls P f args w fun e w' => ∃ v, e = .returned v ∧ (Nat.blt i nA = true → I w') ∧ JA ro P nt D ops I nA Q fuel (listed.setIfInBounds i true) ((d, v) :: E) w') : JA ro P nt D ops I nA Q (fuel + 1) listed E w := JA_call i d ho hf hw hd hr hq h fun _ _ h => h
end
/-! ### 16. Scopes -/
theorem stepR_scope {P : Program} {w : World} {b : Frame} {a : Act} {k : List Item} {cs : List Frame} {c : Code} : step P (lone (b.atR a (.code (.scope c) :: k)) cs w) = .next (lone (b.atR a (.code c :: .inScope c :: k)) cs w) :=
  step_lone_go (by simp [stepG, stepG.exec, Frame.atR])
theorem stepR_inScope {b : Frame} {a : Act} {k : List Item} {cs : List Frame} {c : Code} : step P (lone (b.atR a (.inScope c :: k)) cs w) = .next (lone (b.atR a k) cs w) :=
  step_lone_go (by simp [stepG, stepG.exec, Frame.atR])
section
variable {ro : Option Nat} {nt : Nat} {D : List Deferred} {Q : Exit → Act → World → Prop} {c : Code} {id : Nat}
theorem C_scope (h : C ro P nt D c (Exit.noGoto Q) E w) : C ro P nt D (.scope c) Q E w := fun a ha => by
  intro b k cs hro hb hr
  obtain ⟨e, a₁, w₁, hq, harr⟩ := h a ha b (.inScope c :: k) cs hro hb hr
  have h0 : (lone (b.atR a (.code (.scope c) :: k)) cs w).fenced P (Fw ro) := fenced_calm hb hr rfl
  cases e with
  | normal => exact ⟨.normal, a₁, w₁, hq, .head h0 stepR_scope (StepsIn.trans harr (.one (fenced_calm hb hr rfl) stepR_inScope))⟩
  | exit id' =>
    have hx : exitTo id' (.inScope c :: k) = exitTo id' k := by simp [exitTo]
    exact ⟨.exit id', a₁, w₁, hq, fun k' hk => .head h0 stepR_scope (harr.1 k' (by rw [hx]; exact hk)),
      fun hr' hk => let ⟨k₁, h1, h2⟩ := harr.2 hr' (by rw [hx]; exact hk); ⟨k₁, h1, .head h0 stepR_scope h2⟩⟩
  | goto l => exact hq.elim
  | ret => exact ⟨_, a₁, w₁, hq, .of_steps (.one h0 stepR_scope) (harr : _)⟩
  | panic ch => exact ⟨_, a₁, w₁, hq, .of_steps (.one h0 stepR_scope) (harr : _)⟩
  | outgrown => exact ⟨_, a₁, w₁, hq, .of_steps (.one h0 stepR_scope) (harr : _)⟩
theorem C_label {l : Nat} (h : ∀ a, Ag nt D E a → Q .normal a w) : C ro P nt D (.label l) Q E w := fun a ha => wpIn_label (h a ha)
theorem N_sc (h : ∀ a, Ag nt D E a → Q .normal a w) : ∀ a, Ag nt D E a → Exit.noGoto Q .normal a w := h
theorem X_sc (h : ∀ a, Ag nt D E a → Q (.exit id) a w) : ∀ a, Ag nt D E a → Exit.noGoto Q (.exit id) a w := h
theorem R_sc (h : ∀ a, Ag nt D E a → Q .ret a w) : ∀ a, Ag nt D E a → Exit.noGoto Q .ret a w := h
/-- A loop of few rounds, each walked where it stands. -/
theorem C_rounds (m : Nat) (h : C ro P nt D c (Exit.then (Code.roundsIn (Fw ro) 0 P c Q m) Q) E w) : C ro P nt D (.loop c) Q E w := fun a ha => wpIn_loop_rounds (m + 1) (h a ha)
theorem K_rnd {m : Nat} (h : C ro P nt D c (Exit.then (Code.roundsIn (Fw ro) 0 P c Q m) Q) E w) : ∀ a, Ag nt D E a → Exit.then (Code.roundsIn (Fw ro) 0 P c Q (m + 1)) Q .normal a w := fun a ha => h a ha
end
end
/-! ### 17. Results -/
section
variable {P : Program} {E : Env} {w w0 : World} {v v1 v2 v3 : Value} {t : TypeId} {L : Hp} {nt : Nat} {D : List Deferred} {fn : Func}
theorem tmp_at {a : Act} (ha : Ag nt D E a) {t : Nat} (hv : E.get t = some v) : a.tmps[t]?.getD undef = v := by
  have := ha.get t v hv
  rwa [Array.getD_eq_getD_getElem?] at this
theorem res0 (hr : fn.results = #[]) : ∀ a, Ag nt D E a → (results fn a.tmps).run P w = .ok (.tuple #[]) w := fun a ha => by
  simp [results, hr]
theorem res2 {t1 t2 : Nat} (hr : fn.results = #[.tmp t1, .tmp t2]) (h1 : E.get t1 = some v1) (h2 : E.get t2 = some v2) : ∀ a, Ag nt D E a → (results fn a.tmps).run P w = .ok (.tuple #[v1, v2]) w := fun a ha => by
  simp [results, hr, tmp_at ha h1, tmp_at ha h2]
theorem res3 {t1 t2 t3 : Nat} (hr : fn.results = #[.tmp t1, .tmp t2, .tmp t3]) (h1 : E.get t1 = some v1) (h2 : E.get t2 = some v2) (h3 : E.get t3 = some v3) : ∀ a, Ag nt D E a → (results fn a.tmps).run P w = .ok (.tuple #[v1, v2, v3]) w := fun a ha => by
  simp [results, hr, tmp_at ha h1, tmp_at ha h2, tmp_at ha h3]
theorem retI {k : IntKind} {i j : Int} (h : i = j) : Ending.returned (.int k i) = .returned (.int k j) := h ▸ rfl
theorem retB {b c : Bool} (h : b = c) : Ending.returned (.bool b) = .returned (.bool c) := h ▸ rfl
theorem retS {p q : ByteArray} (h : p = q) : Ending.returned (.string p) = .returned (.string q) := h ▸ rfl
theorem rdNil {α : Type} (d : Ty α) (w : World) : (tSl d).rd w [.slice none 0 0] [] := ⟨none, 0, rfl, by simp, by simp, fun i x hx => by simp at hx⟩
end
end Go.Sl

/- A small logic over the fenced walk: maps keyed by stamps, parts of slices. -/
namespace Go.Sl
open Go Go.RowKit
/-! ### 18. Maps keyed by stamps -/
def aget : List (Stamp × Value) → Stamp → Option Value
  | [], _ => none
  | (k, v) :: r, s => if s = k then some v else aget r s
def aput : List (Stamp × Value) → Stamp → Value → List (Stamp × Value)
  | [], s, v => [(s, v)]
  | (k, u) :: r, s, v => if s = k then (k, v) :: r else (k, u) :: aput r s v
def akey (s : Stamp) : Value := .agg (stL s).toArray
structure StKey (P : Program) (k : TypeId) : Prop where
  und : ∃ fs, P.underlying k = some (.struct fs)
  chk : ∀ (w : World) (b : Bool) (s : Stamp), (Instr.checkKey b 10000 k (akey s)).run P w = .ok () w
  eq : ∀ (w : World) (a b c d : Int), (Op.equal k (.agg #[.int .i64 a, .int .i64 b]) (.agg #[.int .i64 c, .int .i64 d])).run P w = .ok (decide (a = c ∧ b = d)) w
def MapIs (es : Array MapEntry) (kv : List (Stamp × Value)) : Prop := es.toList.map (fun e => (e.key, e.val)) = kv.map fun p => (akey p.1, p.2)
/-- A map's entry. -/
def mapL (g : Nat) (kv : List (Stamp × Value)) : Ent := { fp := (· = g), ok := fun w => ∃ es clock, w.heap[g]? = some (.map es clock) ∧ MapIs es kv, st := fun h hw => Exists.elim hw fun es hw => Exists.elim hw fun clock hw => ⟨es, clock, (h g rfl).trans hw.1, hw.2⟩ }
section
variable {P : Program} {k t e : TypeId} {w w0 : World} {L : Hp} {o : Oper} {E : Env} {x y z : Operand} {v u z' : Value} {s : Stamp} {kv : List (Stamp × Value)} {j g : Nat}
theorem akey_inj {s s' : Stamp} (h : akey s = akey s') : s = s' := by
  obtain ⟨a, b⟩ := s
  obtain ⟨c, d⟩ := s'
  simp [akey, stL] at h
  rw [h.1, h.2]
theorem StKey.equal (K : StKey P k) (s s' : Stamp) : (Op.equal k (akey s) (akey s')).run P w = .ok (decide (s = s')) w := by
  have := K.eq w s.c s.r s'.c s'.r
  have h2 : decide (s.c = s'.c ∧ s.r = s'.r) = decide (s = s') := by
    obtain ⟨a, b⟩ := s
    obtain ⟨c, d⟩ := s'
    simp
  rw [h2] at this
  exact this
def afind : List (Stamp × Value) → Stamp → Nat → Option (Nat × Value)
  | [], _, _ => none
  | (k, v) :: r, s, i => if s = k then some (i, v) else afind r s (i + 1)
theorem run_findAsking (K : StKey P k) (s : Stamp) : ∀ (es : List MapEntry) (kv : List (Stamp × Value)) (i : Nat), es.map (fun e => (e.key, e.val)) = kv.map (fun p => (akey p.1, p.2)) → (Instr.findAsking k (akey s) es i).run P w = .ok (afind kv s i) w
  | [], [], i, _ => by simp [Instr.findAsking, afind]
  | [], _ :: _, i, h => by simp at h
  | _ :: _, [], i, h => by simp at h
  | e :: es, (k', v) :: kv, i, h => by
    simp only [List.map_cons, List.cons.injEq, Prod.mk.injEq] at h
    obtain ⟨⟨h1, h2⟩, h3⟩ := h
    have ih := run_findAsking K s es kv (i + 1) h3
    simp only [Instr.findAsking, Sem.run_bind, h1, K.equal, Result.andThen_ok, afind]
    by_cases he : s = k'
    · simp [he, h2]
    · simp [he, ih]
theorem run_findKey (K : StKey P k) {es : Array MapEntry} (s : Stamp) (h : MapIs es kv) : (Instr.findKey k (akey s) es.toList).run P w = .ok (afind kv s 0) w := by
  obtain ⟨fs, hu⟩ := K.und
  have hu' : (underlying k).run P w = .ok (.struct fs) w := by simp [underlying, hu]
  have hask := run_findAsking (w := w) K s es.toList kv 0 h
  unfold MapIs at h
  cases hes : es.toList with
  | nil =>
    rw [hes] at h
    cases kv with
    | nil => simp [Instr.findKey, hu', Instr.findNow, afind]
    | cons => simp at h
  | cons e r =>
    rw [hes] at hask
    simp only [Instr.findKey, Sem.run_bind, hu', Result.andThen_ok, Instr.findNow, Instr.sameNow, hask]
theorem afind_get : ∀ (kv : List (Stamp × Value)) (s : Stamp) (i : Nat), (afind kv s i).map (·.2) = aget kv s
  | [], _, _ => rfl
  | (k, v) :: r, s, i => by
    simp only [afind, aget]
    split
    · rfl
    · exact afind_get r s (i + 1)
theorem afind_lt : ∀ (kv : List (Stamp × Value)) (s : Stamp) (i j : Nat) (v : Value), afind kv s i = some (j, v) → i ≤ j ∧ j < i + kv.length ∧ kv[j - i]? = some (s, v) ∧ ∀ u, aput kv s u = kv.set (j - i) (s, u)
  | [], _, _, _, _, h => by simp [afind] at h
  | (k, v0) :: r, s, i, j, v, h => by
    simp only [afind] at h
    by_cases he : s = k
    · simp [he] at h
      obtain ⟨rfl, rfl⟩ := h
      subst he
      simp [aput]
    · simp [he] at h
      obtain ⟨h1, h2, h3, h4⟩ := afind_lt r s (i + 1) j v h
      have hj : j - i = (j - (i + 1)) + 1 := by omega
      refine ⟨by omega, by simp; omega, by rw [hj]; simpa using h3, fun u => ?_⟩
      rw [hj, List.set_cons_succ, ← h4 u]
      simp [aput, he]
theorem afind_none : ∀ (kv : List (Stamp × Value)) (s : Stamp) (i : Nat), afind kv s i = none → ∀ u, aput kv s u = kv ++ [(s, u)]
  | [], _, _, _, u => rfl
  | (k, v0) :: r, s, i, h, u => by
    simp only [afind] at h
    by_cases he : s = k
    · simp [he] at h
    · simp [he] at h
      simp [aput, he, afind_none r s (i + 1) h u]
theorem Q_look (c : Bool) (K : StKey P k) (hS : St w0 w L) (hl : look L j = some (mapL g kv)) (ht : P.underlying t = some (.map k e)) (hz : ∀ w, (zeroValue e).run P w = .ok z' w) (ho : o.op = .lookup t x y c) (hx : evalE E x = some (.map (some g))) (hy : evalE E y = some (akey s)) :
    Qt P o E w (if c then .tuple #[(aget kv s).getD z', .bool (aget kv s).isSome] else (aget kv s).getD z') := fun nt D a ha => by
  obtain ⟨es, clock, hb, hm⟩ := hS.get hl
  have hu : (underlying t).run P w = .ok (.map k e) w := by simp [underlying, ht]
  have hg := MapKept.run_getObj_map (P := P) hb
  have hf := run_findKey (w := w) K s hm
  have hag := afind_get kv s 0
  have hchk := fun b => K.chk w b s
  have key : (Instr.lookup t (.map (some g)) (akey s) c).run P w = .ok (if c then .tuple #[(aget kv s).getD z', .bool (aget kv s).isSome] else (aget kv s).getD z') w := by
    rw [← hag]
    cases ha : afind kv s 0 with
    | none =>
      rw [ha] at hf
      simp only [Instr.lookup, Sem.run_bind, hu, Result.andThen_ok, hg, Sem.run_pure, hchk, hf, hz w]
      cases c <;> simp
    | some p =>
      obtain ⟨i, v⟩ := p
      rw [ha] at hf
      simp only [Instr.lookup, Sem.run_bind, hu, Result.andThen_ok, hg, Sem.run_pure, hchk, hf]
      cases c <;> simp
  unfold execOp; rw [ho]; simp only [ha.eval hx, ha.eval hy, Sem.run_bind, key, Result.andThen_ok]; rfl
theorem Q_look2 (r : Option Value) (hr : aget kv s = r) (K : StKey P k) (hS : St w0 w L) (hl : look L j = some (mapL g kv)) (ht : P.underlying t = some (.map k e)) (hz : ∀ w, (zeroValue e).run P w = .ok z' w) (ho : o.op = .lookup t x y true) (hx : evalE E x = some (.map (some g))) (hy : evalE E y = some (akey s)) :
    Qt P o E w (.tuple #[r.getD z', .bool r.isSome]) := hr ▸ Q_look true K hS hl ht hz ho hx hy
theorem Q_look1 (r : Option Value) (hr : aget kv s = r) (K : StKey P k) (hS : St w0 w L) (hl : look L j = some (mapL g kv)) (ht : P.underlying t = some (.map k e)) (hz : ∀ w, (zeroValue e).run P w = .ok z' w) (ho : o.op = .lookup t x y false) (hx : evalE E x = some (.map (some g))) (hy : evalE E y = some (akey s)) :
    Qt P o E w (r.getD z') := hr ▸ Q_look false K hS hl ht hz ho hx hy
theorem sameBits_akey (s : Stamp) : Instr.sameBits 10000 (akey s) (akey s) = true := by
  simp [akey, stL, Instr.sameBits]
theorem Kp.setBlk (w : World) (g : Nat) (o : Obj) : Kp (· = g) w { w with heap := w.heap.setIfInBounds g o } :=
  ⟨rfl, rfl, rfl, by simp, fun b _ hn => by simp [Ne.symm hn]⟩
theorem D_mapUpd {K' : Value → World → Prop} (K : StKey P k) (hS : St w0 w L) (hl : look L j = some (mapL g kv)) (ht : P.underlying t = some (.map k e)) (ho : o.op = .mapUpdate t x y z) (hx : evalE E x = some (.map (some g))) (hy : evalE E y = some (akey s)) (hz : evalE E z = some v)
    (h : ∀ w', St w0 w' (upd L j (mapL g (aput kv s v))) → K' undef w') : Does P o E w K' := fun nt D a ha => by
  obtain ⟨es, clock, hb, hm⟩ := hS.get hl
  have hu : (underlying t).run P w = .ok (.map k e) w := by simp [underlying, ht]
  have hg := MapKept.run_getObj_map (P := P) hb
  have hf := run_findKey (w := w) K s hm
  have hlen : es.size = kv.length := by
    have := congrArg List.length hm
    simpa using this
  have hgl : g < w.heap.size := (Array.getElem?_eq_some_iff.1 hb).1
  have hend : ∀ es' clock', MapIs es' (aput kv s v) → K' undef { w with heap := w.heap.setIfInBounds g (.map es' clock') } := fun es' clock' hm' =>
    h _ (hS.upd hl (Kp.setBlk w g _) ⟨es', clock', by simp [hgl], hm'⟩ fun b hb => .inl hb)
  have key : ∃ w', (Instr.mapUpdate t (.map (some g)) (akey s) v).run P w = .ok () w' ∧ K' undef w' := by
    cases ha : afind kv s 0 with
    | none =>
      rw [ha] at hf
      refine ⟨_, ?_, hend (es.push { key := akey s, val := v, born := clock }) (clock + 1) ?_⟩
      · simp only [Instr.mapUpdate, Sem.run_bind, hu, Result.andThen_ok, hg, K.chk, hf]
        exact MapKept.run_setObj_map (P := P) _ hb
      · rw [afind_none kv s 0 ha v]
        unfold MapIs at *
        simp [hm]
    | some p =>
      obtain ⟨i, v0⟩ := p
      rw [ha] at hf
      obtain ⟨_, hlt, hat, hput⟩ := afind_lt kv s 0 i v0 ha
      simp only [Nat.sub_zero, Nat.zero_add] at hlt hat hput
      have hi : i < es.size := by omega
      have hkey : es[i].key = akey s := by
        have h1 := congrArg (fun l => l[i]?) hm
        simp [hi, hat] at h1
        exact h1.1
      refine ⟨_, ?_, hend (es.modify i fun e => { e with key := akey s, val := v }) clock ?_⟩
      · simp only [Instr.mapUpdate, Sem.run_bind, hu, Result.andThen_ok, hg, K.chk, hf]
        have hst : (Instr.keyThatStays (((es[i]?).map (·.key)).getD (akey s)) (akey s)).run P w = .ok (akey s) w := by
          simp [hi, hkey, Instr.keyThatStays, sameBits_akey]
        rw [hst]
        exact MapKept.run_setObj_map (P := P) _ hb
      · rw [hput v]
        unfold MapIs at *
        refine List.ext_getElem? fun q => ?_
        have h1 := congrArg (fun l => l[q]?) hm
        simp only [List.getElem?_map, Array.getElem?_toList, Array.getElem?_modify, List.getElem?_set] at h1 ⊢
        by_cases hq : i = q
        · subst hq
          simp [hi, hlt]
        · simp [hq, h1]
  obtain ⟨w', hr, hK⟩ := key
  refine ⟨.skip, undef, w', ?_, .inr ⟨rfl, rfl⟩, hK⟩
  unfold execOp; rw [ho]; simp only [ha.eval hx, ha.eval hy, ha.eval hz, Sem.run_bind, hr, Result.andThen_ok]; rfl
theorem D_mkMapL {K : Value → World → Prop} (j : Nat) (hS : St w0 w L) (ho : o.op = .makeMap t none)
    (h : ∀ g w', St w0 w' ((j, mapL g []) :: L) → K (.map (some g)) w') : Does P o E w K :=
  D_mkMap j hS ho fun g w' hS' => h g w' ⟨hS'.os, hS'.tape, hS'.out, hS'.size, fun x hx => by
    rcases List.mem_cons.1 hx with rfl | hx
    · exact ⟨_, _, hS'.ok _ List.mem_cons_self, rfl⟩
    · exact hS'.ok x (List.mem_cons_of_mem _ hx), fun x hx b hb => by
    rcases List.mem_cons.1 hx with rfl | hx
    · exact hS'.lt _ List.mem_cons_self b hb
    · exact hS'.lt x (List.mem_cons_of_mem _ hx) b hb, List.pairwise_cons.2 ⟨(List.pairwise_cons.1 hS'.sep).1, (List.pairwise_cons.1 hS'.sep).2⟩⟩
end
/-! ### 19. Parts of slices -/
section
variable {P : Program} {k t e : TypeId} {w w0 : World} {L : Hp} {o : Oper} {E : Env} {x : Operand} {lo hi : Option Operand} {A : Option Addr} {n cap sz : Nat}
def evalO (E : Env) : Option Operand → Option (Option Value)
  | none => some none
  | some x => (evalE E x).map some
theorem evalO_eq {nt : Nat} {D : List Deferred} {a : Act} (h : Ag nt D E a) {r : Option Value} (hx : evalO E lo = some r) : lo.map a.eval = r := by
  cases lo with
  | none => simpa [evalO] using hx
  | some y =>
    cases hy : evalE E y with
    | none => simp [evalO, hy] at hx
    | some v => simp [evalO, hy] at hx; simp [h.eval hy, hx]
theorem Q_slice {l h : Int} {rl rh : Option Value} (ho : o.op = .slice t x lo hi none) (hx : evalE E x = some (.slice A n cap)) (h1 : evalO E lo = some rl) (h2 : evalO E hi = some rh) (hl : (rl = none ∧ l = 0) ∨ rl = some (.int .i64 l)) (hh : (rh = none ∧ h = n) ∨ rh = some (.int .i64 h))
    (ht : P.underlying t = some (.slice e)) (hs : ∀ w, (sizeOf e).run P w = .ok sz w) (b1 : 0 ≤ l) (b2 : l ≤ h) (b3 : h ≤ cap) :
    Qt P o E w (.slice (if cap = l.toNat then A else A.map (·.add (l.toNat * sz))) (h.toNat - l.toNat) (cap - l.toNat)) := fun nt D a ha => by
  have hu : ∀ w, (underlying t).run P w = .ok (.slice e) w := fun w => by simp [underlying, ht]
  have h0 : 0 ≤ h := by omega
  have b4 : l ≤ (h.toNat : Int) := by omega
  unfold execOp; rw [ho]
  have e1 := evalO_eq ha h1
  have e2 := evalO_eq ha h2
  have key : ∀ w, (Instr.sliceBounds true n cap rl rh none).run P w = .ok (l.toNat, h.toNat, cap) w := fun w => by
    rcases hl with ⟨rfl, rfl⟩ | rfl <;> rcases hh with ⟨rfl, rfl⟩ | rfl <;>
      simp [Instr.sliceBounds, Instr.sliceBound, asIntOf, b1, b2, b3, b4, h0] <;> omega
  simp only [ha.eval hx, e1, e2, Option.map_none, Instr.sliceAt, Instr.slice, Sem.run_bind, hu, Result.andThen_ok, key, hs]
  rfl
end
end Go.Sl

/- A small logic over the fenced walk: rows of one's own, read and written by place; results of every form. -/
namespace Go.Sl
open Go Go.RowKit
section
variable {P : Program} {o : Oper} {E : Env} {w w0 : World} {v : Value} {x y z : Operand} {t e : TypeId} {L : Hp} {g k j n m cap sz : Nat} {fl cs : List Value} {K : Value → World → Prop}
/-! ### 20. Rows of one's own, by place -/
theorem own_cells (h : w.ownsRow 0 e sz (.slice (some ⟨g, 0, none⟩) n cap) m fl) : CellsAt w ⟨g, 0, none⟩ fl := by
  rcases h.2 with ⟨h1, _⟩ | ⟨g', cap', cur, h1, _, hh, _, _, _, ht⟩
  · cases h1
  · cases h1
    intro j u hu
    refine CellsAt.of_blk hh j u ?_
    rw [← ht, List.getElem?_take] at hu
    split at hu
    · exact hu
    · cases hu
theorem Does.of_q (h : Qt P o E w v) (hK : K v w) : Does P o E w K := fun nt D a ha => ⟨.value v, v, w, h nt D a ha, .inl rfl, hK⟩
theorem putL_nil (l : List Value) (j : Nat) : putL l j [] = l := by cases l <;> simp [putL]
theorem putL_take : ∀ (l : List Value) (j : Nat) (us : List Value) (m : Nat), j + us.length ≤ m → (putL l j us).take m = putL (l.take m) j us
  | l, j, [], m, _ => by rw [putL_nil, putL_nil]
  | [], j, u :: us, m, _ => by simp [putL]
  | v :: r, 0, u :: us, m, h => by
    cases m with
    | zero => simp at h
    | succ m => simp only [putL, List.take_succ_cons]; rw [putL_take r 0 us m (by simp at h; omega)]
  | v :: r, j + 1, u :: us, m, h => by
    cases m with
    | zero => simp at h
    | succ m => simp only [putL, List.take_succ_cons]; rw [putL_take r j (u :: us) m (by simp at h ⊢; omega)]
/-- A store into a row of one's own. -/
theorem D_storeO (hS : St w0 w L) (hl : look L k = some (own e sz (.slice (some ⟨g, 0, none⟩) n cap) m fl)) (ho : o.op = .store t x y) (hx : evalE E x = some (.pointer (some ((⟨g, 0, none⟩ : Addr).add j))))
    (hy : evalE E y = some v) {q : Nat} (hs : ∀ w, (sizeOf t).run P w = .ok q w) (hn : (cl v).length = q) (h1 : (cl v).all (·.oneCell') = true) (hj : Nat.ble (j + q) fl.length = true)
    (h : ∀ w', St w0 w' (upd L k (own e sz (.slice (some ⟨g, 0, none⟩) n cap) m (putL fl j (cl v)))) → K undef w') : Does P o E w K := fun nt D a ha => by
  have hown := hS.get hl
  have hjl := Nat.le_of_ble_eq_true hj
  obtain ⟨hlen, ⟨h0, _⟩ | ⟨g', cap', cur, h0, hb0, hh, hc, hm, hsz, ht⟩⟩ := hown
  · cases h0
  · cases h0
    have hfl : fl.length ≤ cur.size := by rw [← ht, List.length_take]; simp; omega
    obtain ⟨w', hr, hb', hk⟩ := run_storeCells (P := P) (g := g) (cl v) w cur.toList e j 0 (by simpa using hh) (fun u hu => List.all_eq_true.1 h1 u hu) (by simp; omega)
    have hown' : w'.ownsRow 0 e sz (.slice (some ⟨g, 0, none⟩) n cap) n (putL fl j (cl v)) := by
      refine ⟨by rw [putL_length]; exact hlen, .inr ⟨g, cap, _, rfl, hb0, hb', hc, hm, by simp [putL_length, hsz], ?_⟩⟩
      have := putL_take cur.toList j (cl v) (n * sz) (by omega)
      rw [ht] at this
      simpa using this
    refine ⟨.skip, undef, w', ?_, .inr ⟨rfl, rfl⟩, h w' (hS.upd hl ?_ hown' fun b hb => .inl hb)⟩
    · unfold execOp; rw [ho]
      have hn' : v.cells.size = q := by rw [cl_cells]; simpa using hn
      rw [add_g, Nat.zero_add] at hx
      have hr' : (storeCells (⟨g, j, none⟩ : Addr) v.cells.toList).run P w = .ok () w' := by rw [cl_cells]; exact hr
      simp [ha.eval hx, ha.eval hy, Instr.storeAt, Instr.sureAddr, storeVar, hs, hn', hr']
    · exact hk.mono fun b hb => by
        show some g = some b
        rw [hb]
theorem D_storeO' (hS : St w0 w L) (hl : look L k = some (own e sz (.slice (some ⟨g, 0, none⟩) n cap) m fl)) (ho : o.op = .store t x y) (hx : evalE E x = some (.pointer (some ⟨g, 0, none⟩)))
    (hy : evalE E y = some v) {q : Nat} (hs : ∀ w, (sizeOf t).run P w = .ok q w) (hn : (cl v).length = q) (h1 : (cl v).all (·.oneCell') = true) (hj : Nat.ble (0 + q) fl.length = true)
    (h : ∀ w', St w0 w' (upd L k (own e sz (.slice (some ⟨g, 0, none⟩) n cap) m (putL fl 0 (cl v)))) → K undef w') : Does P o E w K :=
  D_storeO hS hl ho (by rw [hx, add_zero_]) hy hs hn h1 hj h
/-! ### 21. Results -/
def ResOk (P : Program) (E : Env) (w : World) : ResultVar → Value → Prop
  | .tmp t, v => E.get t = some v
  | .cell a t, v => ∃ ad, E.get a = some (.pointer (some ad)) ∧ (loadVar t ad).run P w = .ok v w
def ResAll (P : Program) (E : Env) (w : World) : List ResultVar → List Value → Prop
  | [], [] => True
  | r :: rs, v :: vs => ResOk P E w r v ∧ ResAll P E w rs vs
  | _, _ => False
def tupOf : List Value → Value
  | [v] => v
  | vs => .tuple vs.toArray
theorem rT {t : Nat} (h : E.get t = some v) : ResOk P E w (.tmp t) v := h
theorem rC1 {a : Nat} {es : List Value} {b : Addr} (hc : CellsAt w b es) (h : E.get a = some (.pointer (some b))) (ht : ∀ w, (isAgg t).run P w = .ok false w) (hv : cget es 0 = some v) : ResOk P E w (.cell a t) v :=
  ⟨b, h, by have := hc 0 v (by rw [← cget_eq]; exact hv); rw [add_zero_] at this; simp [loadVar, ht, this]⟩
theorem rCK {a : Nat} {es : List Value} {b : Addr} (es0 : List Value) (hc : CellsAt w b es) (h : E.get a = some (.pointer (some b))) (ht : ∀ w, (isAgg t).run P w = .ok true w) (hs : ∀ w, (sizeOf t).run P w = .ok n w) (hv : subL es 0 n = es0) (hn : es0.length = n) : ResOk P E w (.cell a t) (.agg es0.toArray) :=
  ⟨b, h, run_loadVar_agg ht (by rw [hn]; exact hs) (by have := hc.sub 0 n; rw [← subL_eq, hv, add_zero_] at this; exact this)⟩
theorem blk_cells {cs : List Value} {t' : TypeId} (hS : St w0 w L) (hl : look L k = some (blkL g cs t')) : CellsAt w ⟨g, 0, none⟩ cs := by
  have := CellsAt.of_blk (hS.get hl)
  simpa using this
def resOf (tmps : Array Value) : ResultVar → Sem Value
  | .tmp t => pure (tmps.getD t undef)
  | .cell q t => do loadVar t (← asAddr (tmps.getD q undef))
theorem run_resG {nt : Nat} {D : List Deferred} {a : Act} (ha : Ag nt D E a) : ∀ (rs : List ResultVar) (vs : List Value), ResAll P E w rs vs → (rs.mapM (resOf a.tmps)).run P w = .ok vs w
  | [], [], _ => by simp
  | [], _ :: _, h => h.elim
  | _ :: _, [], h => h.elim
  | r :: rs, v :: vs, h => by
    have ih := run_resG ha rs vs h.2
    cases r with
    | tmp t =>
      have h1 : a.tmps.getD t undef = v := ha.get t v h.1
      simp only [List.mapM_cons, resOf, Sem.run_bind, h1, Sem.run_pure, Result.andThen_ok, ih]
    | cell q t =>
      obtain ⟨ad, h1, h2⟩ := h.1
      have h3 : a.tmps.getD q undef = .pointer (some ad) := ha.get q _ h1
      simp only [List.mapM_cons, resOf, Sem.run_bind, h3, asAddr, Sem.run_pure, Result.andThen_ok, h2, ih]
theorem resG {fn : Func} {nt : Nat} {D : List Deferred} {rs : List ResultVar} {vs : List Value} (hr : fn.results = rs.toArray) (h : ResAll P E w rs vs) : ∀ a, Ag nt D E a → (results fn a.tmps).run P w = .ok (tupOf vs) w := fun a ha => by
  have := run_resG ha rs vs h
  have he : results fn a.tmps = (do let vs ← fn.results.mapM (resOf a.tmps); pure (if h : vs.size = 1 then vs[0] else .tuple vs)) := by
    unfold results
    congr 1
  rw [he, hr]
  simp only [List.mapM_toArray, Sem.run_bind, Sem.run_map, this, Result.andThen_ok, map_eq_pure_bind, Sem.run_pure]
  congr 1
  match vs with
  | [] => rfl
  | [v] => rfl
  | _ :: _ :: _ => simp [tupOf]
end
end Go.Sl

/- A small logic over the fenced walk: changes of kind, structs that go by two whole numbers. -/
namespace Go.Sl
open Go Go.RowKit
section
variable {P : Program} {o : Oper} {E : Env} {w w0 : World} {v : Value} {x y z : Operand} {t s e : TypeId} {i : Int}
theorem Q_cvU (ho : o.op = .convert s t x) (hx : evalE E x = some (.int .i64 i)) (hs : P.underlying s = some (.int .i64)) (ht : P.underlying t = some (.int .u64)) (h0 : 0 ≤ i ∧ i ≤ 9223372036854775807) : Qt P o E w (.int .u64 i) := fun nt D a ha => by
  have h1 : ∀ w, (underlying s).run P w = .ok (.int .i64) w := fun w => by simp [underlying, hs]
  have h2 : ∀ w, (underlying t).run P w = .ok (.int .u64) w := fun w => by simp [underlying, ht]
  have hw : IntKind.u64.wrap i = i := by simp [IntKind.wrap, IntKind.signed, IntKind.bits]; omega
  unfold execOp; rw [ho]; simp [ha.eval hx, convert, h1, h2, Conv.intToInt, hw]
theorem Q_cvI (ho : o.op = .convert s t x) (hx : evalE E x = some (.int .u64 i)) (hs : P.underlying s = some (.int .u64)) (ht : P.underlying t = some (.int .i64)) (h0 : 0 ≤ i ∧ i ≤ 9223372036854775807) : Qt P o E w (.int .i64 i) := fun nt D a ha => by
  have h1 : ∀ w, (underlying s).run P w = .ok (.int .u64) w := fun w => by simp [underlying, hs]
  have h2 : ∀ w, (underlying t).run P w = .ok (.int .i64) w := fun w => by simp [underlying, ht]
  unfold execOp; rw [ho]; simp [ha.eval hx, convert, h1, h2, Conv.intToInt, wrap_in (n := i) (by omega) h0.2]
theorem Q_iaE {sz n cap : Nat} {A : Option Addr} {b : Addr} (hA : A = some b) (ho : o.op = .indexAddr t x y) (hx : evalE E x = some (.slice A n cap)) (hy : evalE E y = some (.int .i64 i)) (ht : P.underlying t = some (.slice e)) (hs : ∀ w, (sizeOf e).run P w = .ok sz w)
    (h0 : 0 ≤ i) (hn : i < n) : Qt P o E w (.pointer (some (b.add (i.toNat * sz)))) := Q_ia ho (hA ▸ hx) hy ht hs h0 hn
theorem Q_shr1 (ho : o.op = .binOp .shr t x y e) (hx : evalE E x = some (.int .u64 i)) (hy : evalE E y = some (.int .u64 1)) : Qt P o E w (.int .u64 (i / 2)) := fun nt D a ha => by
  have h2 : i.fdiv 2 = i / 2 := Int.fdiv_eq_ediv_of_nonneg i (by decide)
  unfold execOp; rw [ho]; simp [ha.eval hx, ha.eval hy, eqGuard, binOp, Op.shift, IntKind.bits, h2]
/-- Two fields, each a whole number. -/
theorem equalIn_pair {f1 f2 : Field} (ht : P.underlying t = some (.struct #[f1, f2])) (hp : P.stoodInHeld t = false) (n1 : (f1.name == "_") = false) (n2 : (f2.name == "_") = false)
    (u1 : P.underlying f1.type = some (.int .i64)) (u2 : P.underlying f2.type = some (.int .i64))
    (p1 : ∀ (w : World) (a b : Int), (part f1.type #[.int .i64 a, .int .i64 b] f1.offset).run P w = .ok (.int .i64 a) w)
    (p2 : ∀ (w : World) (a b : Int), (part f2.type #[.int .i64 a, .int .i64 b] f2.offset).run P w = .ok (.int .i64 b) w) (k : Nat) (w : World) (a b c d : Int) :
    (Op.equalIn (k + 2) t (.agg #[.int .i64 a, .int .i64 b]) (.agg #[.int .i64 c, .int .i64 d])).run P w = .ok (decide (a = c ∧ b = d)) w := by
  have hf : P.fieldsOf t = #[f1, f2] := by simp [Program.fieldsOf, ht]
  rw [run_equalIn_struct w (k + 1) t _ _ (by rw [hf]; exact ht) hp, hf]
  have m1 : f1.name ≠ "_" := by simpa using n1
  have m2 : f2.name ≠ "_" := by simpa using n2
  simp only [Op.eqFields, m1, m2, ne_eq, not_false_eq_true, if_true, Sem.run_bind, p1, p2, Result.andThen_ok, run_equalIn_int w k f1.type .i64 .i64 _ _ u1, run_equalIn_int w k f2.type .i64 .i64 _ _ u2]
  by_cases h1 : a = c <;> by_cases h2 : b = d <;> simp [h1, h2, p2, run_equalIn_int w k f2.type .i64 .i64 _ _ u2]
theorem pairEq_of {f1 f2 : Field} (ht : P.underlying t = some (.struct #[f1, f2])) (hp : P.stoodInHeld t = false) (n1 : (f1.name == "_") = false) (n2 : (f2.name == "_") = false)
    (u1 : P.underlying f1.type = some (.int .i64)) (u2 : P.underlying f2.type = some (.int .i64))
    (p1 : ∀ (w : World) (a b : Int), (part f1.type #[.int .i64 a, .int .i64 b] f1.offset).run P w = .ok (.int .i64 a) w)
    (p2 : ∀ (w : World) (a b : Int), (part f2.type #[.int .i64 a, .int .i64 b] f2.offset).run P w = .ok (.int .i64 b) w) (hg : P.eqGuardType P.depth t = false) : PairEq P t :=
  ⟨hg, fun w a b c d => equalIn_pair ht hp n1 n2 u1 u2 p1 p2 9998 w a b c d⟩
theorem stKey_of {f1 f2 : Field} (ht : P.underlying t = some (.struct #[f1, f2])) (h : PairEq P t) (hc : ∀ (w : World) (b : Bool) (s : Stamp), (Instr.checkKey b 10000 t (akey s)).run P w = .ok () w) : StKey P t :=
  ⟨⟨_, ht⟩, hc, fun w a b c d => h.2 w a b c d⟩
end
end Go.Sl

/- A small logic over the fenced walk: loops that go by several letters. Printed by a program of mine (mkloops.py). -/
namespace Go.Sl
open Go Go.RowKit
/-- A row that is being built: where it lies, its room, its cells, what they read as. -/
structure Row (α : Type) where
  A : Option Addr
  c : Nat
  f : List Value
  l : List α
section
variable {ro : Option Nat} {P : Program} {nt : Nat} {D : List Deferred} {Q : Exit → Act → World → Prop} {E : Env} {w : World} {c : Code}
theorem C_loop1 {α0 : Type} (μ : α0 → Nat) (Eh : α0 → Env) (I : α0 → World → Prop) (x0 : α0) (hI : I x0 w) (hE : SubE (Eh x0) E)
    (round : ∀ x0 w, I x0 w → C ro P nt D c (Exit.then (fun a' w' => ∃ y0, I y0 w' ∧ μ y0 < μ x0 ∧ Ag nt D (Eh y0) a') Q) (Eh x0) w) : C ro P nt D (.loop c) Q E w := by
  refine C_loop (α := α0) (fun p => μ p) (fun p => Eh p) (fun p => I p) x0 hI hE fun p w hp a ha => ?_
  refine wpIn_mono (round p w hp a ha) fun e a' w' hq => ?_
  cases e with
  | normal => obtain ⟨y0, h1, h2, h3⟩ := hq; exact ⟨y0, h1, h2, h3⟩
  | exit id => exact hq
  | goto l => exact hq
  | ret => exact hq
  | panic ch => exact hq
  | outgrown => exact hq
theorem K_round1 {α0 : Type} {μ : α0 → Nat} {Eh : α0 → Env} {I : α0 → World → Prop} {x0 : α0} (y0 : α0) (hI : I y0 w) (hlt : μ y0 < μ x0) (hE : SubE (Eh y0) E) :
    ∀ a, Ag nt D E a → (Exit.then (fun a' w' => ∃ y0, I y0 w' ∧ μ y0 < μ x0 ∧ Ag nt D (Eh y0) a') Q) .normal a w := fun _ ha => ⟨y0, hI, hlt, ha.sub hE⟩
theorem C_loop2 {α0 α1 : Type} (μ : α0 → α1 → Nat) (Eh : α0 → α1 → Env) (I : α0 → α1 → World → Prop) (x0 : α0) (x1 : α1) (hI : I x0 x1 w) (hE : SubE (Eh x0 x1) E)
    (round : ∀ x0 x1 w, I x0 x1 w → C ro P nt D c (Exit.then (fun a' w' => ∃ y0 y1, I y0 y1 w' ∧ μ y0 y1 < μ x0 x1 ∧ Ag nt D (Eh y0 y1) a') Q) (Eh x0 x1) w) : C ro P nt D (.loop c) Q E w := by
  refine C_loop (α := α0 × α1) (fun p => μ p.1 p.2) (fun p => Eh p.1 p.2) (fun p => I p.1 p.2) (x0, x1) hI hE fun p w hp a ha => ?_
  refine wpIn_mono (round p.1 p.2 w hp a ha) fun e a' w' hq => ?_
  cases e with
  | normal => obtain ⟨y0, y1, h1, h2, h3⟩ := hq; exact ⟨(y0, y1), h1, h2, h3⟩
  | exit id => exact hq
  | goto l => exact hq
  | ret => exact hq
  | panic ch => exact hq
  | outgrown => exact hq
theorem K_round2 {α0 α1 : Type} {μ : α0 → α1 → Nat} {Eh : α0 → α1 → Env} {I : α0 → α1 → World → Prop} {x0 : α0} {x1 : α1} (y0 : α0) (y1 : α1) (hI : I y0 y1 w) (hlt : μ y0 y1 < μ x0 x1) (hE : SubE (Eh y0 y1) E) :
    ∀ a, Ag nt D E a → (Exit.then (fun a' w' => ∃ y0 y1, I y0 y1 w' ∧ μ y0 y1 < μ x0 x1 ∧ Ag nt D (Eh y0 y1) a') Q) .normal a w := fun _ ha => ⟨y0, y1, hI, hlt, ha.sub hE⟩
theorem C_loop3 {α0 α1 α2 : Type} (μ : α0 → α1 → α2 → Nat) (Eh : α0 → α1 → α2 → Env) (I : α0 → α1 → α2 → World → Prop) (x0 : α0) (x1 : α1) (x2 : α2) (hI : I x0 x1 x2 w) (hE : SubE (Eh x0 x1 x2) E)
    (round : ∀ x0 x1 x2 w, I x0 x1 x2 w → C ro P nt D c (Exit.then (fun a' w' => ∃ y0 y1 y2, I y0 y1 y2 w' ∧ μ y0 y1 y2 < μ x0 x1 x2 ∧ Ag nt D (Eh y0 y1 y2) a') Q) (Eh x0 x1 x2) w) : C ro P nt D (.loop c) Q E w := by
  refine C_loop (α := α0 × α1 × α2) (fun p => μ p.1 p.2.1 p.2.2) (fun p => Eh p.1 p.2.1 p.2.2) (fun p => I p.1 p.2.1 p.2.2) (x0, x1, x2) hI hE fun p w hp a ha => ?_
  refine wpIn_mono (round p.1 p.2.1 p.2.2 w hp a ha) fun e a' w' hq => ?_
  cases e with
  | normal => obtain ⟨y0, y1, y2, h1, h2, h3⟩ := hq; exact ⟨(y0, y1, y2), h1, h2, h3⟩
  | exit id => exact hq
  | goto l => exact hq
  | ret => exact hq
  | panic ch => exact hq
  | outgrown => exact hq
theorem K_round3 {α0 α1 α2 : Type} {μ : α0 → α1 → α2 → Nat} {Eh : α0 → α1 → α2 → Env} {I : α0 → α1 → α2 → World → Prop} {x0 : α0} {x1 : α1} {x2 : α2} (y0 : α0) (y1 : α1) (y2 : α2) (hI : I y0 y1 y2 w) (hlt : μ y0 y1 y2 < μ x0 x1 x2) (hE : SubE (Eh y0 y1 y2) E) :
    ∀ a, Ag nt D E a → (Exit.then (fun a' w' => ∃ y0 y1 y2, I y0 y1 y2 w' ∧ μ y0 y1 y2 < μ x0 x1 x2 ∧ Ag nt D (Eh y0 y1 y2) a') Q) .normal a w := fun _ ha => ⟨y0, y1, y2, hI, hlt, ha.sub hE⟩
theorem C_loop4 {α0 α1 α2 α3 : Type} (μ : α0 → α1 → α2 → α3 → Nat) (Eh : α0 → α1 → α2 → α3 → Env) (I : α0 → α1 → α2 → α3 → World → Prop) (x0 : α0) (x1 : α1) (x2 : α2) (x3 : α3) (hI : I x0 x1 x2 x3 w) (hE : SubE (Eh x0 x1 x2 x3) E)
    (round : ∀ x0 x1 x2 x3 w, I x0 x1 x2 x3 w → C ro P nt D c (Exit.then (fun a' w' => ∃ y0 y1 y2 y3, I y0 y1 y2 y3 w' ∧ μ y0 y1 y2 y3 < μ x0 x1 x2 x3 ∧ Ag nt D (Eh y0 y1 y2 y3) a') Q) (Eh x0 x1 x2 x3) w) : C ro P nt D (.loop c) Q E w := by
  refine C_loop (α := α0 × α1 × α2 × α3) (fun p => μ p.1 p.2.1 p.2.2.1 p.2.2.2) (fun p => Eh p.1 p.2.1 p.2.2.1 p.2.2.2) (fun p => I p.1 p.2.1 p.2.2.1 p.2.2.2) (x0, x1, x2, x3) hI hE fun p w hp a ha => ?_
  refine wpIn_mono (round p.1 p.2.1 p.2.2.1 p.2.2.2 w hp a ha) fun e a' w' hq => ?_
  cases e with
  | normal => obtain ⟨y0, y1, y2, y3, h1, h2, h3⟩ := hq; exact ⟨(y0, y1, y2, y3), h1, h2, h3⟩
  | exit id => exact hq
  | goto l => exact hq
  | ret => exact hq
  | panic ch => exact hq
  | outgrown => exact hq
theorem K_round4 {α0 α1 α2 α3 : Type} {μ : α0 → α1 → α2 → α3 → Nat} {Eh : α0 → α1 → α2 → α3 → Env} {I : α0 → α1 → α2 → α3 → World → Prop} {x0 : α0} {x1 : α1} {x2 : α2} {x3 : α3} (y0 : α0) (y1 : α1) (y2 : α2) (y3 : α3) (hI : I y0 y1 y2 y3 w) (hlt : μ y0 y1 y2 y3 < μ x0 x1 x2 x3) (hE : SubE (Eh y0 y1 y2 y3) E) :
    ∀ a, Ag nt D E a → (Exit.then (fun a' w' => ∃ y0 y1 y2 y3, I y0 y1 y2 y3 w' ∧ μ y0 y1 y2 y3 < μ x0 x1 x2 x3 ∧ Ag nt D (Eh y0 y1 y2 y3) a') Q) .normal a w := fun _ ha => ⟨y0, y1, y2, y3, hI, hlt, ha.sub hE⟩
theorem C_loop5 {α0 α1 α2 α3 α4 : Type} (μ : α0 → α1 → α2 → α3 → α4 → Nat) (Eh : α0 → α1 → α2 → α3 → α4 → Env) (I : α0 → α1 → α2 → α3 → α4 → World → Prop) (x0 : α0) (x1 : α1) (x2 : α2) (x3 : α3) (x4 : α4) (hI : I x0 x1 x2 x3 x4 w) (hE : SubE (Eh x0 x1 x2 x3 x4) E)
    (round : ∀ x0 x1 x2 x3 x4 w, I x0 x1 x2 x3 x4 w → C ro P nt D c (Exit.then (fun a' w' => ∃ y0 y1 y2 y3 y4, I y0 y1 y2 y3 y4 w' ∧ μ y0 y1 y2 y3 y4 < μ x0 x1 x2 x3 x4 ∧ Ag nt D (Eh y0 y1 y2 y3 y4) a') Q) (Eh x0 x1 x2 x3 x4) w) : C ro P nt D (.loop c) Q E w := by
  refine C_loop (α := α0 × α1 × α2 × α3 × α4) (fun p => μ p.1 p.2.1 p.2.2.1 p.2.2.2.1 p.2.2.2.2) (fun p => Eh p.1 p.2.1 p.2.2.1 p.2.2.2.1 p.2.2.2.2) (fun p => I p.1 p.2.1 p.2.2.1 p.2.2.2.1 p.2.2.2.2) (x0, x1, x2, x3, x4) hI hE fun p w hp a ha => ?_
  refine wpIn_mono (round p.1 p.2.1 p.2.2.1 p.2.2.2.1 p.2.2.2.2 w hp a ha) fun e a' w' hq => ?_
  cases e with
  | normal => obtain ⟨y0, y1, y2, y3, y4, h1, h2, h3⟩ := hq; exact ⟨(y0, y1, y2, y3, y4), h1, h2, h3⟩
  | exit id => exact hq
  | goto l => exact hq
  | ret => exact hq
  | panic ch => exact hq
  | outgrown => exact hq
theorem K_round5 {α0 α1 α2 α3 α4 : Type} {μ : α0 → α1 → α2 → α3 → α4 → Nat} {Eh : α0 → α1 → α2 → α3 → α4 → Env} {I : α0 → α1 → α2 → α3 → α4 → World → Prop} {x0 : α0} {x1 : α1} {x2 : α2} {x3 : α3} {x4 : α4} (y0 : α0) (y1 : α1) (y2 : α2) (y3 : α3) (y4 : α4) (hI : I y0 y1 y2 y3 y4 w) (hlt : μ y0 y1 y2 y3 y4 < μ x0 x1 x2 x3 x4) (hE : SubE (Eh y0 y1 y2 y3 y4) E) :
    ∀ a, Ag nt D E a → (Exit.then (fun a' w' => ∃ y0 y1 y2 y3 y4, I y0 y1 y2 y3 y4 w' ∧ μ y0 y1 y2 y3 y4 < μ x0 x1 x2 x3 x4 ∧ Ag nt D (Eh y0 y1 y2 y3 y4) a') Q) .normal a w := fun _ ha => ⟨y0, y1, y2, y3, y4, hI, hlt, ha.sub hE⟩
theorem C_loop6 {α0 α1 α2 α3 α4 α5 : Type} (μ : α0 → α1 → α2 → α3 → α4 → α5 → Nat) (Eh : α0 → α1 → α2 → α3 → α4 → α5 → Env) (I : α0 → α1 → α2 → α3 → α4 → α5 → World → Prop) (x0 : α0) (x1 : α1) (x2 : α2) (x3 : α3) (x4 : α4) (x5 : α5) (hI : I x0 x1 x2 x3 x4 x5 w) (hE : SubE (Eh x0 x1 x2 x3 x4 x5) E)
    (round : ∀ x0 x1 x2 x3 x4 x5 w, I x0 x1 x2 x3 x4 x5 w → C ro P nt D c (Exit.then (fun a' w' => ∃ y0 y1 y2 y3 y4 y5, I y0 y1 y2 y3 y4 y5 w' ∧ μ y0 y1 y2 y3 y4 y5 < μ x0 x1 x2 x3 x4 x5 ∧ Ag nt D (Eh y0 y1 y2 y3 y4 y5) a') Q) (Eh x0 x1 x2 x3 x4 x5) w) : C ro P nt D (.loop c) Q E w := by
  refine C_loop (α := α0 × α1 × α2 × α3 × α4 × α5) (fun p => μ p.1 p.2.1 p.2.2.1 p.2.2.2.1 p.2.2.2.2.1 p.2.2.2.2.2) (fun p => Eh p.1 p.2.1 p.2.2.1 p.2.2.2.1 p.2.2.2.2.1 p.2.2.2.2.2) (fun p => I p.1 p.2.1 p.2.2.1 p.2.2.2.1 p.2.2.2.2.1 p.2.2.2.2.2) (x0, x1, x2, x3, x4, x5) hI hE fun p w hp a ha => ?_
  refine wpIn_mono (round p.1 p.2.1 p.2.2.1 p.2.2.2.1 p.2.2.2.2.1 p.2.2.2.2.2 w hp a ha) fun e a' w' hq => ?_
  cases e with
  | normal => obtain ⟨y0, y1, y2, y3, y4, y5, h1, h2, h3⟩ := hq; exact ⟨(y0, y1, y2, y3, y4, y5), h1, h2, h3⟩
  | exit id => exact hq
  | goto l => exact hq
  | ret => exact hq
  | panic ch => exact hq
  | outgrown => exact hq
theorem K_round6 {α0 α1 α2 α3 α4 α5 : Type} {μ : α0 → α1 → α2 → α3 → α4 → α5 → Nat} {Eh : α0 → α1 → α2 → α3 → α4 → α5 → Env} {I : α0 → α1 → α2 → α3 → α4 → α5 → World → Prop} {x0 : α0} {x1 : α1} {x2 : α2} {x3 : α3} {x4 : α4} {x5 : α5} (y0 : α0) (y1 : α1) (y2 : α2) (y3 : α3) (y4 : α4) (y5 : α5) (hI : I y0 y1 y2 y3 y4 y5 w) (hlt : μ y0 y1 y2 y3 y4 y5 < μ x0 x1 x2 x3 x4 x5) (hE : SubE (Eh y0 y1 y2 y3 y4 y5) E) :
    ∀ a, Ag nt D E a → (Exit.then (fun a' w' => ∃ y0 y1 y2 y3 y4 y5, I y0 y1 y2 y3 y4 y5 w' ∧ μ y0 y1 y2 y3 y4 y5 < μ x0 x1 x2 x3 x4 x5 ∧ Ag nt D (Eh y0 y1 y2 y3 y4 y5) a') Q) .normal a w := fun _ ha => ⟨y0, y1, y2, y3, y4, y5, hI, hlt, ha.sub hE⟩
end
end Go.Sl

/- A small logic over the fenced walk: letters of strings, max, cap. -/
namespace Go.Sl
open Go Go.RowKit
/-- A text's letter at a place. -/
def byteAt (s : ByteArray) (i : Int) : Int := (s.data.getD i.toNat 0).toNat
theorem byteAt_lo (s : ByteArray) (i : Int) : 0 ≤ byteAt s i := Int.natCast_nonneg _
theorem byteAt_hi (s : ByteArray) (i : Int) : byteAt s i < 256 := by
  have := (s.data.getD i.toNat 0).toNat_lt
  simp only [byteAt]; omega
section
variable {P : Program} {o : Oper} {E : Env} {w w0 : World} {v : Value} {x y z : Operand} {t s e : TypeId} {i j : Int}
theorem Q_idxS {p : ByteArray} (ho : o.op = .index t x y) (hx : evalE E x = some (.string p)) (hy : evalE E y = some (.int .i64 i)) (ht : P.underlying t = some .string) (h0 : 0 ≤ i) (h1 : i < p.size) : Qt P o E w (.int .u8 (byteAt p i)) := fun nt D a ha => by
  have hu : ∀ w, (underlying t).run P w = .ok .string w := fun w => by simp [underlying, ht]
  have hlt : i.toNat < p.size := by omega
  have hb : p[i.toNat]? = some p[i.toNat] := ByteArray.getElem?_lt' p _ hlt
  have hv : byteAt p i = (p[i.toNat].toNat : Int) := by
    have hlt' : i.toNat < p.data.size := hlt
    have : p.data.getD i.toNat 0 = p[i.toNat] := by
      rw [Array.getD_eq_getD_getElem?, Array.getElem?_eq_getElem hlt']
      rfl
    simp only [byteAt, this]
  unfold execOp; rw [ho]; simp [ha.eval hx, ha.eval hy, Instr.index, asIntOf, hu, h0, hb, hv]
theorem Q_max (ho : o.op = .call { callee := .builtin .max, args := #[x, y], argTypes := #[t, s] }) (hx : evalE E x = some (.int .i64 i)) (hy : evalE E y = some (.int .i64 j)) : Qt P o E w (.int .i64 (max i j)) := fun nt D a ha => by
  have hm : (if j > i then j else i) = max i j := by omega
  unfold execOp; rw [ho]; simp [resolve, invoke, builtin, ha.eval hx, ha.eval hy, Builtin.max_, Builtin.max2, hm]
theorem Q_cap {A : Option Addr} {n c : Nat} (ho : o.op = .call { callee := .builtin .cap, args := #[x], argTypes := #[t] }) (hx : evalE E x = some (.slice A n c)) (ht : P.underlying t = some (.slice e)) : Qt P o E w (.int .i64 c) := fun nt D a ha => by
  have hu : ∀ w, (underlying t).run P w = .ok (.slice e) w := fun w => by simp [underlying, ht]
  unfold execOp; rw [ho]; simp [resolve, invoke, builtin, ha.eval hx, Builtin.cap_, goInt, hu]
end
end Go.Sl

/- A small logic over the fenced walk: rows that grow, told by their lists; literals that are read. -/
namespace Go.Sl
open Go Go.RowKit
section
variable {P : Program} {o : Oper} {E : Env} {w w0 : World} {v : Value} {x y : Operand} {t e e' : TypeId} {L : Hp} {K : Value → World → Prop} {k j g n bytes sz : Nat} {fl cs : List Value} {α : Type} {xs ys : List α} {d : Ty α} {W : World} {F : Nat → Prop}
theorem D_app1L (u : α) (xs : List α) (hA : AppOk P t e sz bytes) (hS : St w0 w L) (k : Nat) (hl : look L k = some (own e sz v xs.length fl)) (j : Nat) (hj : look L j = some (blkL g cs e')) (ho : o.op = .call { callee := .builtin .append, args := #[x, y], argTypes := #[t, t] }) (hx : evalE E x = some v) (hy : evalE E y = some (.slice (some ⟨g, 0, none⟩) 1 1))
    (hcs : cs.length = sz) (h1 : cs.all (·.oneCell') = true) (hb : (xs.length + 1) * bytes ≤ 140737488355328) (hn : xs.length + 1 ≤ 68719476736)
    (h : ∀ g' cap' w', St w0 w' (upd L k (own e sz (.slice (some ⟨g', 0, none⟩) (xs ++ [u]).length cap') (xs ++ [u]).length (fl ++ cs))) → K (.slice (some ⟨g', 0, none⟩) (xs ++ [u]).length cap') w') : Does P o E w K := by
  have e : (xs ++ [u]).length = xs.length + 1 := by simp
  rw [e] at h
  exact D_app1 hA hS k hl j hj ho hx hy hcs h1 hb hn h
theorem D_appSL {A : Option Addr} {c : Nat} (xs ys : List α) (hA : AppOk P t e d.sz bytes) (hS : St w0 w L) (k : Nat) (hl : look L k = some (own e d.sz v xs.length fl)) (j : Nat) (hj : look L j = some (fz W F)) (ho : o.op = .call { callee := .builtin .append, args := #[x, y], argTypes := #[t, t] }) (hx : evalE E x = some v) (hy : evalE E y = some (.slice A ys.length c))
    (hys : RdF (tSl d) W F [.slice A ys.length c] ys) (hb : (xs.length + ys.length) * bytes ≤ 140737488355328) (hn : xs.length + ys.length ≤ 68719476736)
    (h : ∀ A' c' gl w', Reps d W F ys gl → (xs ++ ys).length ≤ c' → St w0 w' (upd L k (own e d.sz (.slice A' (xs ++ ys).length c') (xs ++ ys).length (fl ++ gl))) → K (.slice A' (xs ++ ys).length c') w') : Does P o E w K := by
  have he : (xs ++ ys).length = xs.length + ys.length := List.length_append
  rw [he] at h
  refine D_appS hA hS k hl j hj ho hx hy hys hb hn ?_
  rintro v' gl w' hr ⟨A', c', rfl, hc⟩ hst
  exact h A' c' gl w' hr hc hst
/-- An empty literal is a row of one's own. -/
theorem St.lit0 (hS : St w0 w L) (k : Nat) (hk : look L k = some (blkL g [] e)) : St w0 w (Sl.upd L k (own e sz (.slice (some ⟨g, 0, none⟩) 0 0) 0 [])) := hS.lit (sz := sz) k hk 0 (by simp) (by decide)
/-- A literal that is read alone. -/
theorem St.frz (hS : St w0 w L) (k : Nat) (hk : look L k = some (blkL g cs e)) : St w0 w (Sl.upd L k (fz w (· = g))) :=
  hS.upd hk (Kp.refl _ _) (fun _ _ => rfl) fun b hb => .inl hb
theorem blk_rd (hS : St w0 w L) (k : Nat) (hk : look L k = some (blkL g cs e)) (hr : Reps d W no xs cs) (hm : xs.length ≤ 68719476736) : RdF (tSl d) w (· = g) [.slice (some ⟨g, 0, none⟩) xs.length xs.length] xs := by
  intro w2 hw2
  have hg : w2.heap[g]? = some (.cells cs.toArray e (0, 0)) := (hw2 g rfl).trans (hS.get hk)
  refine ⟨some ⟨g, 0, none⟩, xs.length, rfl, Nat.le_refl _, hm, fun i x hx => ⟨_, _, rfl, ?_, (hr.any (W' := w2) (F := no)).2 i x hx w2 fun _ hb => hb.elim⟩⟩
  have hc : CellsAt w2 ⟨g, 0, none⟩ cs := by simpa using CellsAt.of_blk hg
  exact hc.sub _ _
theorem own_eq (h : xs = ys) (hr : RdF (tSl d) W F [v] xs) : RdF (tSl d) W F [v] ys := h ▸ hr
end
end Go.Sl
namespace Go.Sl
open Go Go.RowKit
theorem eqI {k : IntKind} {i j : Int} (h : i = j) : Value.int k i = .int k j := h ▸ rfl
theorem eqB {b c : Bool} (h : b = c) : Value.bool b = .bool c := h ▸ rfl
theorem eqS {p q : ByteArray} (h : p = q) : Value.string p = .string q := h ▸ rfl
theorem tup2 {a b a' b' : Value} (h1 : a = a') (h2 : b = b') : Ending.returned (.tuple #[a, b]) = .returned (.tuple #[a', b']) := by rw [h1, h2]
theorem tup3 {a b c a' b' c' : Value} (h1 : a = a') (h2 : b = b') (h3 : c = c') : Ending.returned (.tuple #[a, b, c]) = .returned (.tuple #[a', b', c']) := by rw [h1, h2, h3]
/-- Whole numbers read in no block. -/
theorem Reps.int {W W' : World} {F : Nat → Prop} {xs : List Int} {fl : List Value} (h : Reps tI W F xs fl) : Reps tI W' no xs fl := ⟨h.1, fun i x hx => by
  have := (h.2 i x hx).here
  exact fun _ _ => this⟩
theorem Reps.st {W W' : World} {F : Nat → Prop} {xs : List Stamp} {fl : List Value} (h : Reps tSt W F xs fl) : Reps tSt W' no xs fl := ⟨h.1, fun i x hx => by
  have := (h.2 i x hx).here
  exact fun _ _ => this⟩
/-- What a call gave, handed on. -/
theorem St.giveRd {α : Type} {d : Ty α} {w0 w W : World} {F : Nat → Prop} {L : Hp} {v : Value} {xs : List α} (hS : St w0 w L) (h0 : look L 0 = some (fz w0 (lt_ w0))) (k : Nat) (hk : look L k = some (fz W F)) (hne : Nat.beq 0 k = false) (hr : RdF (tSl d) W F [v] xs) : RdF (tSl d) w (nw w0 w) [v] xs :=
  (hS.rdF k hk hr).mono fun b hb => hS.fresh h0 hk hne b hb
end Go.Sl

/- A small logic over the fenced walk: parts of what is read. -/
namespace Go.Sl
open Go Go.RowKit
def slA (A : Option Addr) (cap l sz : Nat) : Option Addr := if cap = l then A else A.map (·.add (l * sz))
/-- From l to h. -/
def sub {α : Type} (xs : List α) (l h : Int) : List α := (xs.take h.toNat).drop l.toNat
section
variable {α : Type} {xs : List α} {l h : Int}
theorem sub_len (b1 : 0 ≤ l) (b2 : l ≤ h) (b3 : h ≤ xs.length) : (sub xs l h).length = h.toNat - l.toNat := by
  simp [sub]; omega
theorem sub_get (b1 : 0 ≤ l) (b2 : l ≤ h) (i : Nat) (x : α) (hx : (sub xs l h)[i]? = some x) : xs[l.toNat + i]? = some x ∧ l.toNat + i < h.toNat := by
  simp only [sub, List.getElem?_drop, List.getElem?_take] at hx
  split at hx
  · exact ⟨hx, by assumption⟩
  · cases hx
variable {P : Program} {o : Oper} {E : Env} {w : World} {x : Operand} {t e : TypeId} {lo hi : Option Operand} {A : Option Addr} {n cap : Nat} {d : Ty α} {W : World} {F : Nat → Prop}
theorem RdF.sub (hr : RdF (tSl d) W F [.slice A n cap] xs) (b1 : 0 ≤ l) (b2 : l ≤ h) (b3 : h ≤ xs.length) : RdF (tSl d) W F [.slice (slA A cap l.toNat d.sz) (Sl.sub xs l h).length (cap - l.toNat)] (Sl.sub xs l h) := by
  intro w hw
  obtain ⟨A0, cap0, hc, h1, h2, h3⟩ := hr w hw
  simp at hc
  obtain ⟨rfl, rfl, rfl⟩ := hc
  have hl := sub_len (xs := xs) b1 b2 b3
  refine ⟨_, _, rfl, by omega, by unfold maxL at *; omega, fun i x hx => ?_⟩
  obtain ⟨hx', hlt⟩ := sub_get b1 b2 i x hx
  obtain ⟨ad, es, ha, hce, hrd⟩ := h3 _ _ hx'
  subst ha
  have hne : ¬ cap = l.toNat := by omega
  refine ⟨ad.add (l.toNat * d.sz), es, by simp [slA, hne], ?_, hrd⟩
  rw [add_add, ← Nat.add_mul]
  exact hce
theorem RdF.cap_le {A : Option Addr} {n cap : Nat} (hr : RdF (tSl d) W F [.slice A n cap] xs) : xs.length ≤ cap := by
  obtain ⟨A0, cap0, hc, h1, _⟩ := hr.here
  simp at hc
  omega
theorem RdF.lens {A : Option Addr} {n cap : Nat} (hr : RdF (tSl d) W F [.slice A n cap] xs) : xs.length ≤ 68719476736 := by
  obtain ⟨A0, cap0, hc, h1, h2, _⟩ := hr.here
  exact h2
theorem Q_sliceR {rl rh : Option Value} (d : Ty α) (xs : List α) (l h : Int) (ho : o.op = .slice t x lo hi none) (hx : evalE E x = some (.slice A xs.length cap)) (h1 : evalO E lo = some rl) (h2 : evalO E hi = some rh) (hl : (rl = none ∧ l = 0) ∨ rl = some (.int .i64 l)) (hh : (rh = none ∧ h = xs.length) ∨ rh = some (.int .i64 h))
    (ht : P.underlying t = some (.slice e)) (hs : ∀ w, (sizeOf e).run P w = .ok d.sz w) (b1 : 0 ≤ l) (b2 : l ≤ h) (b3 : h ≤ xs.length) (b4 : xs.length ≤ cap) :
    Qt P o E w (.slice (slA A cap l.toNat d.sz) (Sl.sub xs l h).length (cap - l.toNat)) := by
  have := Q_slice (w := w) ho hx h1 h2 hl hh ht hs b1 b2 (by omega)
  rw [sub_len b1 b2 b3]
  exact this
end
end Go.Sl

/- A small logic over the fenced walk: rows that are read and replaced, each in blocks of its own. -/
namespace Go.Sl
open Go Go.RowKit
/-- A row that is read, and where. -/
structure Rg (α : Type) where
  A : Option Addr
  c : Nat
  l : List α
  W : World
  F : Nat → Prop
section
variable {α : Type} {d : Ty α} {x : α} {w0 w w' W : World} {F F' : Nat → Prop} {L : Hp} {k : Nat} {cs : List Value}
/-- What is told in a region, and a call's new blocks beside it. -/
theorem St.join (hS : St w0 w L) (hk : Kp no w w') (k : Nat) (hl : look L k = some (fz W F)) : St w0 w' (Sl.upd L k (fz w' (or_ F (nw w w')))) :=
  hS.upd hl (hk.mono fun _ h => h.elim) (fun _ _ => rfl) fun b hb => hb
theorem RdF.keepF (hr : RdF d w F cs x) (hf : ∀ b, F b → b < w.heap.size) (hk : Kp no w w') : RdF d w' F cs x := hr.at_ fun b hb => hk.blk b (hf b hb) id
theorem RdF.inl (hr : RdF d W F cs x) : RdF d W (or_ F F') cs x := hr.mono fun _ h => .inl h
theorem RdF.inr (hr : RdF d W F cs x) : RdF d W (or_ F' F) cs x := hr.mono fun _ h => .inr h
end
end Go.Sl

/- A small logic over the fenced walk: rows of whole numbers, made, read and written by place. -/
namespace Go.Sl
open Go Go.RowKit
section
variable {P : Program} {o : Oper} {E : Env} {w w0 : World} {v : Value} {x y : Operand} {t e : TypeId} {L : Hp} {K : Value → World → Prop} {k j g n m cap sz : Nat} {fl cs : List Value} {xs : List Int} {W : World} {A : Option Addr} {b : Addr} {i u : Int}
theorem own_addr (h : w.ownsRow 0 e sz (.slice A n cap) m fl) (hm : 0 < m) : ∃ g, A = some ⟨g, 0, none⟩ := by
  rcases h.2 with ⟨h1, h0⟩ | ⟨g, cap', cur, h1, _⟩
  · omega
  · cases h1; exact ⟨g, rfl⟩
theorem Reps.intAt (h : Reps tI W no xs fl) {j : Nat} (hj : j < xs.length) : fl[j]? = some (.int .i64 xs[j]) ∧ InR xs[j] := by
  have h1 := (h.2 j _ (List.getElem?_eq_getElem hj)).here
  obtain ⟨h2, h3⟩ := h1
  have hs : tI.sz = 1 := rfl
  have hl := h.1
  rw [hs, Nat.mul_one] at hl h2
  have h4 := congrArg (fun l => l[0]?) h2
  simp at h4
  exact ⟨h4, h3⟩
theorem Reps.setI (h : Reps tI W no xs fl) {j : Nat} (hj : j < xs.length) (hu : InR u) : Reps tI W no (xs.set j u) (fl.set j (.int .i64 u)) := by
  have hs : tI.sz = 1 := rfl
  refine ⟨by rw [List.length_set, List.length_set]; exact h.1, fun q z hz => ?_⟩
  have hl := h.1
  rw [hs, Nat.mul_one] at hl ⊢
  by_cases hq : j = q
  · subst hq
    rw [List.getElem?_set_self hj] at hz
    cases hz
    have : (List.drop j (fl.set j (.int .i64 u))).take 1 = [.int .i64 u] := by
      rw [List.drop_eq_getElem_cons (by rw [List.length_set]; omega)]
      simp
    rw [this]
    exact mkI hu
  · rw [List.getElem?_set_ne hq] at hz
    have h5 := h.2 q z hz
    rw [hs, Nat.mul_one] at h5
    have hlt : q < fl.length := by rw [hl]; exact (List.getElem?_eq_some_iff.1 hz).1
    have : (List.drop q (fl.set j (.int .i64 u))).take 1 = (List.drop q fl).take 1 := by
      refine List.ext_getElem? fun r => ?_
      rw [List.getElem?_take, List.getElem?_take]
      split
      · rw [List.getElem?_drop, List.getElem?_drop, List.getElem?_set_ne (by omega)]
      · rfl
    rw [this]
    exact h5
theorem Q_ldOI (hn : xs.length = n) (hS : St w0 w L) (hl : look L k = some (own e 1 (.slice A n cap) n fl)) (hr : Reps tI W no xs fl) (hA : A = some b) (h0 : 0 ≤ i) (h1 : i < xs.length) (ho : o.op = .load t x) (hx : evalE E x = some (.pointer (some (b.add (i.toNat * 1))))) (ht : ∀ w, (isAgg t).run P w = .ok false w) : Qt P o E w (.int .i64 (nth xs i)) := by
  have hown := hS.get hl
  obtain ⟨g, rfl⟩ := own_addr hown (by omega)
  cases hA
  refine Q_ldC1 (own_cells hown) ho hx ht ?_
  rw [cget_eq, Nat.mul_one, (hr.intAt (by omega)).1, nth_get xs i (by omega)]
theorem D_setI (xs : List Int) (i u : Int) (hn : xs.length = n) (hS : St w0 w L) (hl : look L k = some (own e 1 (.slice A n cap) n fl)) (hr : Reps tI W no xs fl) (hA : A = some b) (h0 : 0 ≤ i) (h1 : i < xs.length) (ho : o.op = .store t x y) (hx : evalE E x = some (.pointer (some (b.add (i.toNat * 1))))) (hy : evalE E y = some (.int .i64 u))
    (hs : ∀ w, (sizeOf t).run P w = .ok 1 w)
    (h : ∀ w', St w0 w' (upd L k (own e 1 (.slice A n cap) n (fl.set i.toNat (.int .i64 u)))) → K undef w') : Does P o E w K := by
  have hown := hS.get hl
  have hfl := hr.1
  have hs1 : tI.sz = 1 := rfl
  rw [hs1, Nat.mul_one] at hfl
  obtain ⟨g, rfl⟩ := own_addr hown (by omega)
  cases hA
  refine D_storeO hS hl ho hx hy hs rfl rfl (by rw [Nat.ble_eq]; omega) fun w' hS' => ?_
  have he : putL fl (i.toNat * 1) (cl (.int .i64 u)) = fl.set i.toNat (.int .i64 u) := by rw [Nat.mul_one]; exact set_list _ _ _ (by omega)
  rw [he] at hS'
  exact h w' hS'
theorem Reps.zeros (n : Nat) : Reps tI W no (List.replicate n 0) (List.replicate n (.int .i64 0)) := by
  refine ⟨by simp [tI], fun q z hz => ?_⟩
  have hs1 : tI.sz = 1 := rfl
  rw [hs1, Nat.mul_one]
  obtain ⟨hq, rfl⟩ := List.getElem?_eq_some_iff.1 hz
  simp only [List.length_replicate] at hq
  rw [List.drop_replicate, List.take_replicate, show min 1 (n - q) = 1 by omega, List.getElem_replicate]
  exact mkI (by decide)
/-- make([]int, n). -/
theorem D_makeI {bytes : Nat} (q n : Nat) (fl : List Value) (hA : AppOk P t e 1 bytes) (hS : St w0 w L) (ho : o.op = .makeSlice t x y) (hx : evalE E x = some (.int .i64 (n : Int))) (hy : evalE E y = some (.int .i64 (n : Int)))
    (hz : ∀ z : TypeInfo, P.info? e = some z → ∀ v, z.zero = some v → (madeCells v.cells (n * 1)).toList = fl) (hb : bytes * n ≤ 281474976710656) (hn : n ≤ 16777216)
    (h : ∀ g w', St w0 w' ((q, own e 1 (.slice (some ⟨g, 0, none⟩) n n) n fl) :: L) → K (.slice (some ⟨g, 0, none⟩) n n) w') : Does P o E w K := fun nt D a ha => by
  obtain ⟨ht, ⟨i, z, hi, hz', hsz, hby, hzs⟩, hpos⟩ := hA
  obtain ⟨w', hr, hown, hg⟩ := run_makeSlice_full (P := P) w w.heap.size t e i z 1 ht hi hz' hsz .i64 .i64 n (hbytes := by rw [hby]; exact hb) (h63 := by simp only [maxLen]; omega) (hbase := Nat.le_refl _) (_hcells := by omega)
  rw [hz i hi z hz'] at hown
  have hk : Kp no w w' := (Kp.of_grown hg).mono fun b hb => by cases hb
  refine ⟨.value (.slice (some ⟨w.heap.size, 0, none⟩) n n), _, w', ?_, .inl rfl, h _ w' (hS.new hk q _ ⟨hown.1, ?_⟩ ?_)⟩
  · unfold execOp; rw [ho]; simp only [ha.eval hx, ha.eval hy, Sem.run_bind, hr, Result.andThen_ok]; rfl
  · rcases hown.2 with h1 | ⟨g, cap, cur, h1, _, h2⟩
    · exact .inl h1
    · exact .inr ⟨g, cap, cur, h1, Nat.zero_le _, h2⟩
  · intro b hb
    have hb' : some w.heap.size = some b := hb
    cases hb'
    rcases hown.2 with ⟨h1, _⟩ | ⟨g, cap, cur, h1, _, h2, _⟩
    · cases h1
    · cases h1
      exact ⟨Nat.le_refl _, (Array.getElem?_eq_some_iff.1 h2).1⟩
theorem Reps.inR (h : Reps tI W no xs fl) (h0 : 0 ≤ i) (h1 : i < xs.length) : InR (nth xs i) := by
  rw [nth_get xs i (by omega)]; exact (h.intAt (by omega)).2
/-- A row of one's own is read alone from here on. -/
theorem St.frzO (hS : St w0 w L) (k : Nat) (hl : look L k = some (own e sz v n fl)) : St w0 w (Sl.upd L k (fz w (fun b => v.ownBlock = some b))) :=
  hS.upd hl (Kp.refl _ _) (fun _ _ => rfl) fun b hb => .inl hb
theorem own_rd0 {α : Type} {d : Ty α} {zs : List α} (hS : St w0 w L) (k : Nat) (hl : look L k = some (own e d.sz v n fl)) (hn : n = zs.length) (hr : Reps d W no zs fl) (hm : zs.length ≤ 68719476736) : RdF (tSl d) w (fun b => v.ownBlock = some b) [v] zs :=
  (own_rd (F := no) (hS.get hl) hn (hr.any (W' := w)) hm (fun b hb => hb.elim)).mono fun b hb => hb.elim (fun h => h.elim) id
end
end Go.Sl

/- A small logic over the fenced walk: rows that grow, of elements that lie in blocks: those that came in, and new ones. -/
namespace Go.Sl
open Go Go.RowKit
/-- A row that is being built, and the new blocks in which its elements lie. -/
structure RowR (α : Type) where
  A : Option Addr
  c : Nat
  f : List Value
  l : List α
  W : World
  F : Nat → Prop
section
variable {α : Type} {d : Ty α} {x : α} {xs : List α} {w0 w w1 w2 W : World} {F F' G : Nat → Prop} {L : Hp} {k : Nat} {cs fl : List Value}
/-- What is told in blocks that came in and in the region k stands so now. -/
theorem St.agree2 (hG : ∀ b, G b → b < w0.heap.size) (hS : St w0 w1 L) (h0 : look L 0 = some (fz w0 (lt_ w0))) (k : Nat) (hk : look L k = some (fz W F)) (hW : Kp no w0 W) : ∀ b, or_ G F b → w1.heap[b]? = W.heap[b]? := fun b hb => by
  rcases hb with hb | hb
  · have e1 := hS.get h0 b (hG b hb)
    have e2 := hW.blk b (hG b hb) id
    exact e1.trans e2.symm
  · exact hS.get hk b hb
/-- The row's elements behind a call, its new blocks beside them. -/
theorem Reps.moved (h : Reps d W (or_ G F) xs fl) (hG : ∀ b, G b → b < w0.heap.size) (hS : St w0 w1 L) (h0 : look L 0 = some (fz w0 (lt_ w0))) (k : Nat) (hk : look L k = some (fz W F)) (hW : Kp no w0 W) (hc : Kp no w1 w2) : Reps d w2 (or_ G (or_ F (nw w1 w2))) xs fl := by
  have h1 : Reps d w1 (or_ G F) xs fl := h.at_ (hS.agree2 hG h0 k hk hW)
  have h2 : Reps d w2 (or_ G F) xs fl := h1.at_ fun b hb => by
    refine hc.blk b ?_ id
    rcases hb with hb | hb
    · exact Nat.lt_of_lt_of_le (hG b hb) hS.size
    · exact hS.fpLt hk b hb
  exact h2.mono fun b hb => hb.elim .inl fun h => .inr (.inl h)
/-- What came in, as an element. -/
theorem RdF.came (h : RdF d w0 G cs x) (hG : ∀ b, G b → b < w0.heap.size) (hW : Kp no w0 W) : RdF d W (or_ G F) cs x := (h.at_ fun b hb => hW.blk b (hG b hb) id).mono fun b hb => .inl hb
/-- What a call gave, as an element. -/
theorem RdF.gave (h : RdF d w2 (nw w1 w2) cs x) : RdF d w2 (or_ G (or_ F (nw w1 w2))) cs x := h.mono fun b hb => .inr (.inr hb)
/-- The row is handed back. -/
theorem St.giveR {v : Value} {n : Nat} {e : TypeId} (hG : ∀ b, G b → b < w0.heap.size) (hS : St w0 w L) (h0 : look L 0 = some (fz w0 (lt_ w0))) (k : Nat) (hk : look L k = some (own e d.sz v n fl)) (hne : Nat.beq 0 k = false) (m : Nat) (hm : look L m = some (fz W F)) (hmne : Nat.beq 0 m = false) (hn : n = xs.length) (hW : Kp no w0 W) (hr : Reps d W (or_ G F) xs fl) (hl : xs.length ≤ 68719476736) :
    RdF (tSl d) w (or_ G (nw w0 w)) [v] xs :=
  (own_rd (hS.get hk) hn hr hl (hS.agree2 hG h0 m hm hW)).mono fun b hb => hb.elim (fun h => h.elim .inl fun h => .inr (hS.fresh h0 hm hmne b h)) fun h => .inr (hS.fresh h0 hk hne b h)
/-- What a call gave out of what came in and new blocks, handed on. -/
theorem St.giveRd2 (hG : ∀ b, G b → b < w0.heap.size) (hS : St w0 w L) (h0 : look L 0 = some (fz w0 (lt_ w0))) (k : Nat) (hk : look L k = some (fz W F)) (hne : Nat.beq 0 k = false) (hW : Kp no w0 W) (hr : RdF d W (or_ G F) cs x) : RdF d w (or_ G (nw w0 w)) cs x :=
  (hr.at_ (hS.agree2 hG h0 k hk hW)).mono fun b hb => hb.elim .inl fun h => .inr (hS.fresh h0 hk hne b h)
theorem or_no (h : RdF d W (or_ no F) cs x) : RdF d W F cs x := h.mono fun b hb => hb.elim (fun h => False.elim h) id
theorem no_lt (w : World) : ∀ b, no b → b < w.heap.size := fun _ h => False.elim h
/-- A region of no blocks. -/
theorem St.none (hS : St w0 w L) (k : Nat) : St w0 w ((k, fz w no) :: L) := hS.new (Kp.refl _ _) k _ (fun _ _ => rfl) fun b hb => False.elim hb
end
end Go.Sl

/- A small logic over the fenced walk: a range over a function, its rounds, and how a function leaves with marks. -/
namespace Go.Sl
open Go Go.RowKit
/-- Temporaries at rest. -/
structure AgT (nt : Nat) (E : Env) (tm : Array Value) : Prop where
  size : tm.size = nt
  get : ∀ t v, E.get t = some v → tm.getD t undef = v
/-- A loop's record, but its state. -/
structure LB where
  fn : FuncId
  tm : Array Value
  ps : Array Tmp
  as_ : Code
  bd : Code
  dd : Nat
def lpO (B : LB) (s : LoopState) (p : Option Code) : Obj := .loop { state := s, pending := p, fn := B.fn, tmps := B.tm, params := B.ps, assign := B.as_, body := B.bd, defers := B.dd }
def lpE (l : Nat) (B : LB) (s : LoopState) (p : Option Code) : Ent := blk l (lpO B s p)
def dfE (d : Nat) : Ent := blk d (.deferred (some []))
structure LbOk (B : LB) (nt : Nat) (E : Env) (ps : Array Tmp) (as_ bd : Code) : Prop where
  ps : B.ps = ps
  as_ : B.as_ = as_
  bd : B.bd = bd
  tm : AgT nt E B.tm
def mark (d : Nat) : Deferred := { target := .collected d, args := #[] }
/-- What is owed when the function that was ranged over is over. -/
def RangeR (P : Program) (l nt : Nat) (D : List Deferred) (Q : Exit → Act → World → Prop) (E : Env) : Ending → World → Prop := fun e w =>
  (∃ v, e = .returned v) ∧ ∃ jump w', (Instr.endLoop l).run P w = .ok jump w' ∧ (match jump with
    | none => ∀ a, Ag nt D E a → Q .normal a w'
    | some c => C none P nt D c Q E w')
section
variable {P : Program} {nt : Nat} {D : List Deferred} {E : Env} {w w0 : World} {L : Hp} {Q : Exit → Act → World → Prop} {l kl kd d : Nat} {B : LB} {s : LoopState} {c : Code}
theorem Kp.putObj (w : World) (r : Nat) (o : Obj) : Kp (· = r) w (w.putObj r o) := Kp.setBlk w r o
theorem St.put (hS : St w0 w L) (k : Nat) {r : Nat} {o o' : Obj} (hl : look L k = some (blk r o)) : St w0 (w.putObj r o') (Sl.upd L k (blk r o')) :=
  hS.upd hl (Kp.putObj w r o') (World.putObj_heap_same (Array.getElem?_eq_some_iff.1 (show w.heap[r]? = some o from hS.get hl)).1) fun b hb => .inl hb
theorem Ag.rest {a : Act} (ha : Ag nt D E a) : AgT nt E a.tmps := ⟨ha.size, ha.get⟩
theorem C_range {g : Operand} {ps : Array Tmp} {as_ bd : Code} {f : FuncId} {caps : List Value} (kl kd : Nat) (hS : St w0 w L) (hg : evalE E g = some (.func (.func f) #[] caps.toArray)) (he : ∀ args w, (callFunc f args).run P w = .ok (.enter f args) w)
    (h : ∀ l d B w1, LbOk B nt E ps as_ bd → St w0 w1 ((kl, lpE l B .ready none) :: (kd, dfE d) :: L) → Calls P f (.func (.yield l) #[] #[] :: caps).toArray w1 (RangeR P l nt (mark d :: D) Q E)) :
    C none P nt D (.rangeFunc g ps as_ bd) Q E w := by
  intro a ha
  refine wpIn_rangeFunc fun fn hfn => ?_
  obtain ⟨B, hB⟩ : ∃ B : LB, B = { fn := fn, tm := a.tmps, ps := ps, as_ := as_, bd := bd, dd := w.heap.size } := ⟨_, rfl⟩
  have hS1 := (hS.alloc kd (.deferred (some []))).alloc kl (lpO B .ready none)
  rw [World.size_alloc] at hS1
  have hc := h (w.heap.size + 1) w.heap.size B _ (by rw [hB]; exact ⟨rfl, rfl, rfl, ha.rest⟩) hS1
  refine ⟨w.heap.size + 1, [mark w.heap.size], _, { target := .fn (.func f) caps.toArray, args := #[.func (.yield (w.heap.size + 1)) #[] #[]] }, (w.alloc (.deferred (some []))).alloc (.loop { state := .ready, pending := none, fn := fn, tmps := a.tmps, params := ps, assign := as_, body := bd, defers := w.heap.size }), f, (.func (.yield (w.heap.size + 1)) #[] #[] :: caps).toArray, (w.alloc (.deferred (some []))).alloc (.loop { state := .ready, pending := none, fn := fn, tmps := a.tmps, params := ps, assign := as_, body := bd, defers := w.heap.size }), run_enterLoop_outer _ _ _ _ _, ?_, fun _ _ => trivial, ?_, fun h => by simp [Fw] at h, ?_⟩
  · have hg' : a.eval g = _ := ha.eval hg
    simp only [resolve, rangeCall, hg', Deferred.ofValue, List.map_toArray, List.map_cons, List.map_nil]
    simp [Act.eval]
  · simp [invoke, he]
  · have hw : (w.alloc (.deferred (some []))).alloc (lpO B .ready none) = (w.alloc (.deferred (some []))).alloc (.loop { state := .ready, pending := none, fn := fn, tmps := a.tmps, params := ps, assign := as_, body := bd, defers := w.heap.size }) := by rw [hB]; rfl
    rw [hw] at hc
    refine (callsIn_fw_any none hc).mono ?_
    rintro e w3 ⟨⟨v, rfl⟩, jump, w4, hend, hj⟩
    have ha' : Ag nt (mark w.heap.size :: D) E { a with defers := [mark w.heap.size] ++ a.defers } := ⟨ha.size, by rw [ha.defers]; rfl, ha.get⟩
    refine ⟨jump, w4, hend, ?_⟩
    cases jump with
    | none => exact hj _ ha'
    | some c => exact hj _ ha'
theorem range_none (hS : St w0 w L) (k : Nat) (hl : look L k = some (lpE l B s none)) (hs : s ≠ .busy) (h : ∀ w', St w0 w' (upd L k (lpE l B .exhausted none)) → ∀ a, Ag nt D E a → Q .normal a w') (v : Value) : RangeR P l nt D Q E (.returned v) w :=
  ⟨⟨v, rfl⟩, none, _, run_endLoop (hS.get hl) hs, h _ (hS.put k hl)⟩
theorem range_jump (hS : St w0 w L) (k : Nat) (hl : look L k = some (lpE l B s (some c))) (hs : s ≠ .busy) (h : ∀ w', St w0 w' (upd L k (lpE l B .exhausted (some c))) → C none P nt D c Q E w') (v : Value) : RangeR P l nt D Q E (.returned v) w :=
  ⟨⟨v, rfl⟩, some c, _, run_endLoop (hS.get hl) hs, h _ (hS.put k hl)⟩
/-! ### A round -/
def RB (P : Program) (l : Nat) (K : Value → World → Prop) : Exit → Act → World → Prop := roundPost P l fun e w' => ∃ v, e = .returned v ∧ K v w'
def RA (P : Program) (l : Nat) (bd : Code) (K : Value → World → Prop) : Exit → Act → World → Prop :=
  Exit.then (fun a₁ w₁ => ∃ w₂, (Instr.beginRound l).run P w₁ = .ok () w₂ ∧ bd.wpIn (Fw (some l)) 0 P (RB P l K) a₁ w₂) QF
def bindE : List Nat → List Value → Env → Env
  | p :: ps, v :: vs, E => bindE ps vs ((p, v) :: E)
  | _, _, E => E
theorem bind_tm {P : Prop} : ∀ (ps : List Nat) (vs : List Value) (E : Env) (tm : Array Value), ps.all (fun p => Nat.blt p nt) = true → AgT nt E tm → AgT nt (bindE ps vs E) ((ps.zip vs).foldl (fun t (p : Nat × Value) => t.setIfInBounds p.1 p.2) tm)
  | [], vs, E, tm, _, h => by simpa [bindE] using h
  | p :: ps, [], E, tm, _, h => by simpa [bindE] using h
  | p :: ps, v :: vs, E, tm, hp, h => by
    simp only [List.all_cons, Bool.and_eq_true] at hp
    simp only [bindE, List.zip_cons_cons, List.foldl_cons]
    refine bind_tm (P := P) ps vs _ _ hp.2 ⟨by simp [h.size], fun t u hu => ?_⟩
    have hlt : p < tm.size := by rw [h.size]; simpa [Nat.blt_eq] using hp.1
    by_cases e : p = t
    · subst e
      rw [get_cons_same] at hu
      cases hu
      simp [Array.getD_eq_getD_getElem?, hlt]
    · rw [get_cons_other _ _ e] at hu
      have := h.get t u hu
      rw [Array.getD_eq_getD_getElem?] at this ⊢
      rw [Array.getElem?_setIfInBounds_ne e]
      exact this
theorem J_round {ro : Option Nat} {ops : Array Oper} {rest : List Nat} {i k : Nat} {o : Oper} {x : Operand} {ys : List Operand} {ts : Array TypeId} {vs : List Value} {ntc : Nat} {Ec : Env} {ps : Array Tmp} {as_ bd : Code} (d : Nat)
    (ho : ops[i]? = some o) (hf : fine ops o nt = true) (hw : wantsE ops o E = some true) (hd : o.dst = some d) (hop : o.op = .call { callee := .value x, args := ys.toArray, argTypes := ts })
    (hx : evalE E x = some (.func (.yield l) #[] #[])) (hv : evalsE E ys = some vs) (hB : LbOk B ntc Ec ps as_ bd) (hS : St w0 w L) (hl : look L k = some (lpE l B .ready none)) (hps : ps.size = vs.length) (hlt : ps.toList.all (fun p => Nat.blt p ntc) = true)
    (h : C (some l) P ntc [] as_ (RA P l bd fun v w' => J ro P nt D ops Q rest ((d, v) :: E) w') (bindE ps.toList vs Ec) w) : J ro P nt D ops Q (i :: rest) E w := by
  intro a ha
  have h1 := wanted_of ha hw (guardLt_of (fine_guard hf))
  have hbl : w.heap[l]? = some (lpO B .ready none) := hS.get hl
  have hev := evals_eq ha hv
  have hy := run_yield (P := P) (args := vs.toArray) hbl (by rw [List.size_toArray, ← hps, hB.ps])
  have hq : (execOp a.eval o).run P w = .ok (.round l B.fn ((B.ps.zip vs.toArray).foldl (fun tmps (t, a) => tmps.setIfInBounds t a) B.tm) B.as_ B.bd) w := by
    unfold execOp; rw [hop]
    simp only [resolve, ha.eval hx, Deferred.ofValue, List.map_toArray, Sem.run_bind, Sem.run_pure, Result.andThen_ok, invoke]
    rw [show List.map a.eval ys = vs from hev]
    simpa using hy
  simp only [wpOpsIn, ho, h1, if_true, Oper.wpIn, fine_semAt hf, hq, Oper.uponIn]
  refine ⟨fun _ _ => trivial, fun h => by simp [Fw] at h, ?_⟩
  have htm := bind_tm (P := True) ps.toList vs Ec B.tm hlt hB.tm
  have hact : Ag ntc [] (bindE ps.toList vs Ec) { tmps := (B.ps.zip vs.toArray).foldl (fun tmps (t, a) => tmps.setIfInBounds t a) B.tm, defers := [] } := by
    have e : ((B.ps.zip vs.toArray).foldl (fun tmps (t, a) => tmps.setIfInBounds t a) B.tm) = ((ps.toList.zip vs).foldl (fun t (p : Nat × Value) => t.setIfInBounds p.1 p.2) B.tm) := by
      rw [hB.ps, ← Array.foldl_toList, Array.toList_zip]
    rw [e]
    exact ⟨htm.size, rfl, htm.get⟩
  have hwp := h _ hact
  rw [← hB.as_] at hwp
  refine (roundIn_of_wpIn (F := Fw ro) (n := 0) (P := P) (l := l) (f := B.fn) (assign := B.as_) (body := B.bd) (R := fun e w' => ∃ v, e = .returned v ∧ J ro P nt D ops Q rest ((d, v) :: E) w') trivial ?_).mono ?_
  · refine wpIn_mono hwp ?_
    intro e a1 w1 hq1
    rw [hB.bd]
    cases e with
    | normal => exact hq1
    | exit id => exact hq1
    | goto t => exact hq1
    | ret => exact hq1
    | panic c => exact hq1
    | outgrown => exact hq1
  · rintro e w' ⟨v, rfl, hJ⟩
    have ha' := ha.after v hf
    unfold Sl.after at ha'
    rw [hd] at ha'
    have := hJ _ ha'
    rw [hd]
    exact this
theorem K_begin {bd : Code} {K : Value → World → Prop} {nt : Nat} (hS : St w0 w L) (k : Nat) (hl : look L k = some (lpE l B .ready none)) (h : ∀ w', St w0 w' (upd L k (lpE l B .busy none)) → C (some l) P nt D bd (RB P l K) E w') : ∀ a, Ag nt D E a → RA P l bd K .normal a w := fun a ha =>
  ⟨_, run_beginRound (hS.get hl) rfl, h _ (hS.put k hl) a ha⟩
theorem K_rend {K : Value → World → Prop} {nt : Nat} (hS : St w0 w L) (k : Nat) (hl : look L k = some (lpE l B .busy none)) (h : ∀ w', St w0 w' (upd L k (lpE l B .ready none)) → K (.bool true) w') : ∀ a, Ag nt D E a → RB P l K .normal a w := fun a ha =>
  ⟨_, _, run_endRound none (hS.get hl), _, rfl, h _ (hS.put k hl)⟩
theorem K_rret {K : Value → World → Prop} {nt : Nat} (hS : St w0 w L) (k : Nat) (hl : look L k = some (lpE l B .busy none)) (h : ∀ w', St w0 w' (upd L k (lpE l B .done (some .ret))) → K (.bool false) w') : ∀ a, Ag nt D E a → RB P l K .ret a w := fun a ha =>
  ⟨_, _, run_endRound (some .ret) (hS.get hl), _, rfl, h _ (hS.put k hl)⟩
theorem K_rexit {K : Value → World → Prop} {nt id : Nat} (hS : St w0 w L) (k : Nat) (hl : look L k = some (lpE l B .busy none)) (h : ∀ w', St w0 w' (upd L k (lpE l B .done (some (.exit id)))) → K (.bool false) w') : ∀ a, Ag nt D E a → RB P l K (.exit id) a w := fun a ha =>
  ⟨_, _, run_endRound (some (.exit id)) (hS.get hl), _, rfl, h _ (hS.put k hl)⟩
/-! ### A function that leaves with marks -/
structure BodyM (P : Program) (fn : Func) (R : Ending → World → Prop) (e : Exit) (a : Act) (w : World) : Prop where
  out : bodyPostM (Fw none) 0 P fn R e a w
theorem fn_callsM (nt : Nat) {f : FuncId} {fn : Func} {c : Code} {args : List Value} {R : Ending → World → Prop} (hf : P.funcs[f]? = some fn) (hb : fn.body = some c) (hn : fn.ntmps = nt) (hl : Nat.ble args.length nt = true)
    (h : C none P nt [] c (BodyM P fn R) (argsE 0 args) w) : Calls P f args.toArray w R := by
  have hl' : args.length ≤ nt := Nat.le_of_ble_eq_true hl
  have e : nt = args.toArray.size + (nt - args.length) := by simp; omega
  refine callsIn_fw.1 (callsIn_of_wp_marks (F := Fw none) hf hb trivial ?_ rfl)
  rw [hn]
  have hag := Ag.enter (args := args.toArray) (nt - args.length) (argsE 0 args) (fun t v ht => by have := argsE_get args 0 t v ht; simpa using this.2)
  rw [← e] at hag
  have hs : nt - args.toArray.size = nt - args.length := by simp
  rw [hs]
  exact wpIn_mono (h _ hag) fun _ _ _ hq => hq.out
/-- Marks are taken one by one. -/
inductive Marks (P : Program) (w0 : World) (R : World → Prop) : List Deferred → World → Prop
  | nil {w : World} (h : R w) : Marks P w0 R [] w
  | cons {w : World} {L : Hp} {D : List Deferred} {d : Nat} (k : Nat) (hS : St w0 w L) (hl : look L k = some (dfE d)) (h : ∀ w', St w0 w' (upd L k (blk d (.deferred none))) → Marks P w0 R D w') : Marks P w0 R (mark d :: D) w
theorem marks_leave {fn : Func} {tm : Array Value} {R : Ending → World → Prop} {u : FrameMode} (hu : u = .returning) : ∀ (D : List Deferred) (w : World), Marks P w0 (fun w' => ∃ v, (results fn tm).run P w' = .ok v w' ∧ R (.returned v) w') D w → LeavesInM (Fw none) 0 P fn tm R D u w
  | [], w, h => by
    cases h with
    | nil h =>
      obtain ⟨v, h1, h2⟩ := h
      subst hu
      show LeavesIn _ _ _ _ _ _ _ _ _
      simpa [LeavesIn] using ⟨v, h1, h2⟩
  | _ :: D, w, h => by
    cases h with
    | cons k hS hl h =>
      subst hu
      have hb := hS.get hl
      exact ⟨by simp, .inl ⟨_, _, rfl, run_takeDeferred hb, marks_leave rfl D _ (h _ (hS.put k hl))⟩⟩
def MEnd (P : Program) (fn : Func) (nt : Nat) (D : List Deferred) (E : Env) (R : Ending → World → Prop) (w' : World) : Prop := ∀ a, Ag nt D E a → ∃ v, (results fn a.tmps).run P w' = .ok v w' ∧ R (.returned v) w'
theorem bodyM_ret {fn : Func} {R : Ending → World → Prop} (hM : Marks P w0 (MEnd P fn nt D E R) D w) : ∀ a, Ag nt D E a → BodyM P fn R .ret a w := fun a ha => by
  refine ⟨?_⟩
  show LeavesInM _ _ _ _ _ _ a.defers _ _
  rw [ha.defers]
  refine marks_leave (w0 := w0) rfl D w ?_
  have key : ∀ D' w, Marks P w0 (MEnd P fn nt D E R) D' w → Marks P w0 (fun w' => ∃ v, (results fn a.tmps).run P w' = .ok v w' ∧ R (.returned v) w') D' w := by
    intro D' w h
    induction h with
    | nil h => exact .nil (h a ha)
    | cons k hS hl _ ih => exact .cons k hS hl ih
  exact key D w hM
theorem bodyM_end {fn : Func} {R : Ending → World → Prop} (hM : Marks P w0 (MEnd P fn nt D E R) D w) : ∀ a, Ag nt D E a → BodyM P fn R .normal a w := fun a ha => ⟨(bodyM_ret hM a ha).out⟩
theorem marks_end {fn : Func} {R : Ending → World → Prop} {v : Value} (hr : ∀ a, Ag nt D E a → (results fn a.tmps).run P w = .ok v w) (hR : R (.returned v) w) : Marks P w0 (MEnd P fn nt D E R) [] w := .nil fun a ha => ⟨v, hr a ha, hR⟩
end
section
variable {P : Program} {E : Env} {w : World} {o : Oper}
/-- A function value is made. -/
theorem Q_mkFunc {f : FuncId} {xs : List Operand} {vs : List Value} (ho : o.op = .makeFunc (.func f) #[] xs.toArray) (hv : evalsE E xs = some vs) : Qt P o E w (.func (.func f) #[] vs.toArray) := fun nt D a ha => by
  have := evals_eq ha hv
  unfold execOp; rw [ho]
  simp [Instr.makeFunc, this]
end
end Go.Sl

