/- A small logic over the fenced walk: named temporaries, blocks told apart, the rules of the statements. -/
import Derived.RangeFuncIn
import Derived.RangeFuncLeaves
import Derived.RangeFuncRecord
import Derived.Below
set_option linter.unusedVariables false
set_option linter.unusedSimpArgs false
namespace Go.Sl
open Go

/-! ### 1. Named temporaries -/
abbrev Env := List (Nat × Value)
def Env.get : Env → Nat → Option Value
  | [], _ => none
  | (k, v) :: r, t => match Nat.beq k t with
    | true => some v
    | false => Env.get r t
def evalE (E : Env) : Operand → Option Value
  | .tmp t => E.get t
  | .const v => some v
  | .global g => some (.pointer (some ⟨g, 0, none⟩))
  | .func f => some (.func (.func f) #[] #[])
/-- Every binding of the first holds in the second. -/
def SubE : Env → Env → Prop
  | [], _ => True
  | (t, v) :: r, E => E.get t = some v ∧ SubE r E
structure Ag (nt : Nat) (D : List Deferred) (E : Env) (a : Act) : Prop where
  size : a.tmps.size = nt
  defers : a.defers = D
  get : ∀ t v, E.get t = some v → a.tmps.getD t undef = v
theorem get_cons_same (E : Env) (t : Nat) (v : Value) : Env.get ((t, v) :: E) t = some v := by
  simp [Env.get, Nat.beq_refl]
theorem get_cons_other (E : Env) {k t : Nat} (v : Value) (h : k ≠ t) : Env.get ((k, v) :: E) t = Env.get E t := by
  have : Nat.beq k t = false := by
    cases hb : Nat.beq k t
    · rfl
    · exact absurd (Nat.eq_of_beq_eq_true hb) h
  simp [Env.get, this]
theorem SubE.get {E' E : Env} (h : SubE E' E) : ∀ t v, E'.get t = some v → E.get t = some v := by
  induction E' with
  | nil => intro t v hv; simp [Env.get] at hv
  | cons p r ih =>
    obtain ⟨k, u⟩ := p
    intro t v hv
    by_cases e : k = t
    · subst e
      rw [get_cons_same] at hv
      cases hv
      exact h.1
    · rw [get_cons_other _ _ e] at hv
      exact ih h.2 t v hv
section
variable {nt : Nat} {D : List Deferred} {E : Env} {a : Act}
theorem Ag.sub {E' : Env} (h : Ag nt D E a) (hs : SubE E' E) : Ag nt D E' a := ⟨h.size, h.defers, fun t v hv => h.get t v (hs.get t v hv)⟩
theorem Ag.eval (h : Ag nt D E a) {x : Operand} {v : Value} (hx : evalE E x = some v) : a.eval x = v := by
  cases x with
  | tmp t => exact h.get t v hx
  | const u => simpa [evalE, Act.eval] using hx
  | global g => simpa [evalE, Act.eval] using hx
  | func f => simpa [evalE, Act.eval] using hx
theorem Ag.put (h : Ag nt D E a) {d : Nat} (v : Value) (hd : Nat.blt d nt = true) : Ag nt D ((d, v) :: E) (a.put (some d) v) := by
  have hd' : d < a.tmps.size := by rw [h.size]; simpa [Nat.blt_eq] using hd
  refine ⟨by simp [Act.put, h.size], h.defers, fun t u hu => ?_⟩
  by_cases e : d = t
  · subst e
    rw [get_cons_same] at hu
    cases hu
    simp [Act.put, Array.getD_eq_getD_getElem?, hd']
  · rw [get_cons_other _ _ e] at hu
    have := h.get t u hu
    rw [Array.getD_eq_getD_getElem?] at this ⊢
    simp only [Act.put, Array.getElem?_setIfInBounds, e, if_false]
    exact this
theorem Ag.enter {args : Array Value} (k : Nat) (E : Env) (hE : ∀ t v, E.get t = some v → args[t]? = some v) :
    Ag (args.size + k) [] E { tmps := args ++ Array.replicate k undef, defers := [] } := by
  refine ⟨by simp, rfl, fun t v hv => ?_⟩
  have h1 := hE t v hv
  have hlt : t < args.size := by
    rcases Nat.lt_or_ge t args.size with h | h
    · exact h
    · rw [Array.getElem?_eq_none h] at h1; cases h1
  rw [Array.getD_eq_getD_getElem?, Array.getElem?_append_left hlt, h1]
  rfl
end

/-! ### 2. The wide fence, in a round or not -/
def Fw (ro : Option Nat) : Fence := { fn := fun _ => True, depth := none, alive := false, round := ro }
theorem callsIn_fw {P : Program} {f : FuncId} {args : Array Value} {w : World} {R : Ending → World → Prop} : CallsIn (Fw none) 0 P f args w R ↔ Calls P f args w R := callsIn_wide
theorem callsIn_fw_any {P : Program} {f : FuncId} {args : Array Value} {w : World} {R : Ending → World → Prop} (ro : Option Nat) {n : Nat} (h : Calls P f args w R) : CallsIn (Fw ro) n P f args w R := by
  have h1 : CallsIn Fence.wide n P f args w R := callsIn_wide.2 h
  exact h1

/-! ### 3. Operations -/
/-- An operation that reads alone. -/
def Qt (P : Program) (o : Oper) (E : Env) (w : World) (v : Value) : Prop :=
  ∀ (nt : Nat) (D : List Deferred) (a : Act), Ag nt D E a → (execOp a.eval o).run P w = .ok (.value v) w
/-- An operation that turns the world. -/
def Does (P : Program) (o : Oper) (E : Env) (w : World) (K : Value → World → Prop) : Prop :=
  ∀ (nt : Nat) (D : List Deferred) (a : Act), Ag nt D E a → ∃ nx v w', (execOp a.eval o).run P w = .ok nx w' ∧ (nx = .value v ∨ (nx = .skip ∧ v = undef)) ∧ K v w'
/-- An operation that calls. -/
def CallsTo (P : Program) (o : Oper) (E : Env) (w : World) (f : FuncId) (args : Array Value) : Prop :=
  ∀ (nt : Nat) (D : List Deferred) (a : Act), Ag nt D E a → (execOp a.eval o).run P w = .ok (.enter f args) w
def wantsE (ops : Array Oper) (o : Oper) (E : Env) : Option Bool :=
  match o.guard with
  | none => some true
  | some (j, want) => match (ops[j]?).bind (·.dst) with
    | some d => match E.get d with
      | some (.bool b) => some (b == want)
      | _ => none
    | none => none
theorem wanted_of {nt : Nat} {D : List Deferred} {E : Env} {a : Act} {ops : Array Oper} {o : Oper} {b : Bool} (h : Ag nt D E a) (hw : wantsE ops o E = some b) (hlt : ∀ j want d, o.guard = some (j, want) → (ops[j]?).bind (·.dst) = some d → d < nt) :
    Region.wanted o (yielded ops a.tmps) = b := by
  unfold wantsE at hw
  unfold Region.wanted
  cases hg : o.guard with
  | none => rw [hg] at hw; simpa using hw
  | some p =>
    obtain ⟨j, want⟩ := p
    rw [hg] at hw
    simp only at hw ⊢
    cases hd : (ops[j]?).bind (·.dst) with
    | none => rw [hd] at hw; cases hw
    | some d =>
      rw [hd] at hw
      simp only at hw
      cases hv : E.get d with
      | none => rw [hv] at hw; cases hw
      | some v =>
        rw [hv] at hw
        have hget := h.get d v hv
        have hlt' : d < a.tmps.size := by rw [h.size]; exact hlt j want d hg hd
        have hat : a.tmps[d]? = some v := by
          rw [Array.getD_eq_getD_getElem?, Array.getElem?_eq_getElem hlt'] at hget
          rw [Array.getElem?_eq_getElem hlt']
          simpa using hget
        cases v <;> simp at hw
        subst hw
        simp [yielded, hd, hat]

/-- What is to be shown of a region's operations from here on. -/
def J (ro : Option Nat) (P : Program) (nt : Nat) (D : List Deferred) (ops : Array Oper) (Q : Exit → Act → World → Prop) (l : List Nat) (E : Env) (w : World) : Prop :=
  ∀ a, Ag nt D E a → wpOpsIn (Fw ro) 0 P ops Q l a w
/-- .. of a statement. -/
def C (ro : Option Nat) (P : Program) (nt : Nat) (D : List Deferred) (c : Code) (Q : Exit → Act → World → Prop) (E : Env) (w : World) : Prop :=
  ∀ a, Ag nt D E a → c.wpIn (Fw ro) 0 P Q a w

def guardLt (ops : Array Oper) (o : Oper) (nt : Nat) : Bool :=
  match o.guard with
  | none => true
  | some (j, _) => match (ops[j]?).bind (·.dst) with
    | some d => Nat.blt d nt
    | none => true
theorem guardLt_of {ops : Array Oper} {o : Oper} {nt : Nat} (h : guardLt ops o nt = true) : ∀ j want d, o.guard = some (j, want) → (ops[j]?).bind (·.dst) = some d → d < nt := by
  intro j want d hg hd
  unfold guardLt at h
  rw [hg] at h
  simp only [hd] at h
  simpa [Nat.blt_eq] using h


def notDefer (o : Oper) : Bool := match o.op with
  | .defer _ => false
  | _ => true
/-- What of an operation's shape every rule asks, as one closed fact. -/
def fine (ops : Array Oper) (o : Oper) (nt : Nat) : Bool := notDefer o && guardLt ops o nt && (match o.dst with | some d => Nat.blt d nt | none => true)
/-- The temporaries behind an operation. -/
def after (o : Oper) (v : Value) (E : Env) : Env := match o.dst with
  | some d => (d, v) :: E
  | none => E
section
variable {ro : Option Nat} {P : Program} {nt : Nat} {D : List Deferred} {ops : Array Oper} {Q : Exit → Act → World → Prop} {l : List Nat} {E : Env} {w : World} {i : Nat} {o : Oper} {a : Act}
theorem fine_semAt (h : fine ops o nt = true) (ro : Option Nat) (ρ : Operand → Value) : o.semAt ro ρ = execOp ρ o := by
  refine Oper.semAt_eq ro ρ o fun c hc => ?_
  simp [fine, notDefer, hc] at h
theorem fine_guard (h : fine ops o nt = true) : guardLt ops o nt = true := by
  simp [fine] at h
  exact h.1.2
theorem Ag.after (ha : Ag nt D E a) (v : Value) (h : fine ops o nt = true) : Ag nt D (after o v E) (a.put o.dst v) := by
  unfold Sl.after
  cases hd : o.dst with
  | none => exact ha
  | some d =>
    refine ha.put v ?_
    simp [fine, hd] at h
    rw [Nat.blt_eq]
    exact h.2
theorem J_nil (h : ∀ a, Ag nt D E a → Q .normal a w) : J ro P nt D ops Q [] E w := fun a ha => h a ha
theorem J_q (d : Nat) {v : Value} (ho : ops[i]? = some o) (hf : fine ops o nt = true) (hw : wantsE ops o E = some true) (hd : o.dst = some d)
    (hq : Qt P o E w v) (hk : J ro P nt D ops Q l ((d, v) :: E) w) : J ro P nt D ops Q (i :: l) E w := by
  have hk : J ro P nt D ops Q l (after o v E) w := by unfold Sl.after; rw [hd]; exact hk
  intro a ha
  have h1 := wanted_of ha hw (guardLt_of (fine_guard hf))
  have h2 := hq nt D a ha
  have h3 := hk _ (ha.after v hf)
  simp only [wpOpsIn, ho, h1, if_true, Oper.wpIn, fine_semAt hf, h2, Oper.uponIn]
  exact ⟨fun _ _ => trivial, h3⟩
/-- Its guard does not want it. -/
theorem J_no (ho : ops[i]? = some o) (hf : fine ops o nt = true) (hw : wantsE ops o E = some false)
    (hk : J ro P nt D ops Q l E w) (hn : ∀ d, o.dst = some d → E.get d = none := by exact fun _ h => by cases h; rfl) : J ro P nt D ops Q (i :: l) E w := by
  have hk : J ro P nt D ops Q l (after o undef E) w := by
    unfold Sl.after
    cases hd : o.dst with
    | none => exact hk
    | some d =>
      refine fun a ha => hk a ⟨ha.size, ha.defers, fun t v hv => ha.get t v ?_⟩
      have hne : d ≠ t := fun e => by rw [← e, hn d hd] at hv; cases hv
      rw [get_cons_other _ _ hne]
      exact hv
  intro a ha
  have h1 := wanted_of ha hw (guardLt_of (fine_guard hf))
  have h3 := hk _ (ha.after undef hf)
  simp only [wpOpsIn, ho, h1]
  exact ⟨fun _ _ => trivial, h3⟩
theorem J_do' (ho : ops[i]? = some o) (hf : fine ops o nt = true) (hw : wantsE ops o E = some true)
    (hq : Does P o E w (fun v w' => J ro P nt D ops Q l (after o v E) w')) : J ro P nt D ops Q (i :: l) E w := by
  intro a ha
  have h1 := wanted_of ha hw (guardLt_of (fine_guard hf))
  obtain ⟨nx, v, w', hr, hnx, hK⟩ := hq nt D a ha
  have h3 := hK _ (ha.after v hf)
  simp only [wpOpsIn, ho, h1, if_true, Oper.wpIn, fine_semAt hf, hr]
  rcases hnx with rfl | ⟨rfl, rfl⟩
  · exact ⟨fun _ _ => trivial, h3⟩
  · exact ⟨fun _ _ => trivial, h3⟩
theorem J_do (d : Nat) (ho : ops[i]? = some o) (hf : fine ops o nt = true) (hw : wantsE ops o E = some true) (hd : o.dst = some d)
    (hq : Does P o E w (fun v w' => J ro P nt D ops Q l ((d, v) :: E) w')) : J ro P nt D ops Q (i :: l) E w :=
  J_do' ho hf hw (by unfold Sl.after; simp only [hd]; exact hq)
theorem J_do0 (ho : ops[i]? = some o) (hf : fine ops o nt = true) (hw : wantsE ops o E = some true) (hd : o.dst = none)
    (hq : Does P o E w (fun _ w' => J ro P nt D ops Q l E w')) : J ro P nt D ops Q (i :: l) E w :=
  J_do' ho hf hw (by unfold Sl.after; simp only [hd]; exact hq)
theorem J_call' {f : FuncId} {args : Array Value} {R : Ending → World → Prop} (ho : ops[i]? = some o) (hf : fine ops o nt = true) (hw : wantsE ops o E = some true)
    (hq : CallsTo P o E w f args) (hc : Calls P f args w R)
    (hk : ∀ e w', R e w' → ∃ v, e = .returned v ∧ J ro P nt D ops Q l (after o v E) w') : J ro P nt D ops Q (i :: l) E w := by
  intro a ha
  have h1 := wanted_of ha hw (guardLt_of (fine_guard hf))
  have h2 := hq nt D a ha
  simp only [wpOpsIn, ho, h1, if_true, Oper.wpIn, fine_semAt hf, h2, Oper.uponIn]
  refine ⟨fun _ _ => trivial, fun h => by simp [Fw] at h, ?_⟩
  refine (callsIn_fw_any ro hc).mono ?_
  rintro e w' hR
  obtain ⟨v, rfl, hJ⟩ := hk e w' hR
  exact hJ _ (ha.after v hf)
theorem J_call (d : Nat) {f : FuncId} {args : Array Value} {R : Ending → World → Prop} (ho : ops[i]? = some o) (hf : fine ops o nt = true) (hw : wantsE ops o E = some true) (hd : o.dst = some d)
    (hq : CallsTo P o E w f args) (hc : Calls P f args w R)
    (hk : ∀ e w', R e w' → ∃ v, e = .returned v ∧ J ro P nt D ops Q l ((d, v) :: E) w') : J ro P nt D ops Q (i :: l) E w :=
  J_call' ho hf hw hq hc (by unfold Sl.after; simp only [hd]; exact hk)
/-! ### 4. Statements -/
theorem C_region {id : Nat} (h : J ro P nt D ops Q (List.range ops.size) E w) : C ro P nt D (.region id ops false) Q E w :=
  fun a ha => wpIn_region (h a ha)
theorem C_seq {x y : Code} (h : C ro P nt D x (Exit.then (y.wpIn (Fw ro) 0 P Q) Q) E w) : C ro P nt D (.seq x y) Q E w := fun a ha => wpIn_seq (h a ha)
theorem C_skip (h : ∀ a, Ag nt D E a → Q .normal a w) : C ro P nt D .skip Q E w := fun a ha => wpIn_skip (h a ha)
theorem C_exit {id : Nat} (h : ∀ a, Ag nt D E a → Q (.exit id) a w) : C ro P nt D (.exit id) Q E w := fun a ha => wpIn_exit (h a ha)
theorem C_ret (h : ∀ a, Ag nt D E a → Q .ret a w) : C ro P nt D .ret Q E w := fun a ha => wpIn_ret (h a ha)
theorem C_block {id : Nat} {c : Code} (h : C ro P nt D c (Exit.inBlock id Q) E w) : C ro P nt D (.block id c) Q E w := fun a ha => wpIn_block (h a ha)
theorem C_true {c : Operand} {x y : Code} (hc : evalE E c = some (.bool true)) (h : C ro P nt D x Q E w) : C ro P nt D (.cond c x y) Q E w := fun a ha => wpIn_cond_true (ha.eval hc) (h a ha)
theorem C_false {c : Operand} {x y : Code} (hc : evalE E c = some (.bool false)) (h : C ro P nt D y Q E w) : C ro P nt D (.cond c x y) Q E w := fun a ha => wpIn_cond_false (ha.eval hc) (h a ha)
theorem C_if {c : Operand} {x y : Code} {p : Prop} [Decidable p] (hc : evalE E c = some (.bool (decide p))) (h1 : p → C ro P nt D x Q E w) (h2 : ¬ p → C ro P nt D y Q E w) : C ro P nt D (.cond c x y) Q E w := by
  by_cases h : p
  · exact C_true (by rw [hc, decide_eq_true h]) (h1 h)
  · exact C_false (by rw [hc, decide_eq_false h]) (h2 h)
theorem C_bool {c : Operand} {x y : Code} {b : Bool} (hc : evalE E c = some (.bool b)) (h1 : b = true → C ro P nt D x Q E w) (h2 : b = false → C ro P nt D y Q E w) : C ro P nt D (.cond c x y) Q E w := by
  cases b
  · exact C_false hc (h2 rfl)
  · exact C_true hc (h1 rfl)
/-- Fewer names, the same statement. -/
theorem C_sub {c : Code} {E' : Env} (hs : SubE E' E) (h : C ro P nt D c Q E' w) : C ro P nt D c Q E w := fun a ha => h a (ha.sub hs)
theorem J_sub {E' : Env} (hs : SubE E' E) (h : J ro P nt D ops Q l E' w) : J ro P nt D ops Q l E w := fun a ha => h a (ha.sub hs)
/-- What stands behind a statement of a sequence. -/
theorem K_seq {y : Code} {K : Exit → Act → World → Prop} (h : C ro P nt D y Q E w) : ∀ a, Ag nt D E a → (Exit.then (y.wpIn (Fw ro) 0 P Q) K) .normal a w := fun a ha => h a ha
/-- **A loop.** x: what a round goes by; μ: what every round lowers. -/
theorem C_loop {α : Type} {c : Code} (μ : α → Nat) (Eh : α → Env) (I : α → World → Prop) (x : α) (hI : I x w) (hE : SubE (Eh x) E)
    (round : ∀ x w, I x w → C ro P nt D c (Exit.then (fun a' w' => ∃ x', I x' w' ∧ μ x' < μ x ∧ Ag nt D (Eh x') a') Q) (Eh x) w) : C ro P nt D (.loop c) Q E w := by
  intro a ha b k cs hro hb hr
  have key : ∀ n x a w, μ x = n → I x w → Ag nt D (Eh x) a →
      ∃ e a' w', Q e a' w' ∧ ArrivesIn (Machine.fenced P (Fw ro)) P (lone (b.atR a (.code c :: .inLoop c :: k)) cs w) b k cs e a' w' := by
    intro n
    induction n using Nat.strongRecOn with
    | _ n ih =>
      intro x a w hn hI ha
      obtain ⟨e, a₁, w₁, hq, harr⟩ := round x w hI a ha b (.inLoop c :: k) cs hro hb hr
      cases e with
      | normal =>
        obtain ⟨x', hI', hlt, ha'⟩ := hq
        obtain ⟨e₂, a₂, w₂, hq₂, harr₂⟩ := ih (μ x') (hn ▸ hlt) x' a₁ w₁ rfl hI' ha'
        exact ⟨e₂, a₂, w₂, hq₂, .of_steps (StepsIn.trans harr (.one (fenced_calm hb hr rfl) stepR_inLoop)) harr₂⟩
      | exit id => exact ⟨_, a₁, w₁, hq, .pass (x := .inLoop c) rfl (fun _ _ => .inl (by simp)) harr⟩
      | goto l => exact ⟨_, a₁, w₁, hq, .pass (x := .inLoop c) rfl (fun _ _ => .inl (by simp)) harr⟩
      | ret => exact ⟨_, a₁, w₁, hq, .pass (x := .inLoop c) rfl (fun _ _ => .inl (by simp)) harr⟩
      | panic ch => exact ⟨_, a₁, w₁, hq, .pass (x := .inLoop c) rfl (fun _ _ => .inl (by simp)) harr⟩
      | outgrown => exact ⟨_, a₁, w₁, hq, .pass (x := .inLoop c) rfl (fun _ _ => .inl (by simp)) harr⟩
  obtain ⟨e, a', w', hq, harr⟩ := key _ x a w rfl hI (ha.sub hE)
  exact ⟨e, a', w', hq, .of_steps (.one (fenced_calm hb hr rfl) stepR_loop) harr⟩
/-- The end of a round. -/
theorem K_round {α : Type} {x : α} {μ : α → Nat} {Eh : α → Env} {I : α → World → Prop} (x' : α) (hI : I x' w) (hlt : μ x' < μ x) (hE : SubE (Eh x') E) :
    ∀ a, Ag nt D E a → (Exit.then (fun a' w' => ∃ x', I x' w' ∧ μ x' < μ x ∧ Ag nt D (Eh x') a') Q) .normal a w := fun _ ha => ⟨x', hI, hlt, ha.sub hE⟩
/-- What a function's body owes, as one word. -/
structure Body (P : Program) (fn : Func) (R : Ending → World → Prop) (e : Exit) (a : Act) (w : World) : Prop where
  out : bodyPost P fn R e a w
/-- **A function.** -/
theorem fn_calls {f : FuncId} {fn : Func} {c : Code} {args : Array Value} {R : Ending → World → Prop} (hf : P.funcs[f]? = some fn) (hb : fn.body = some c) (n : Nat) (hn : fn.ntmps = args.size + n) (E : Env)
    (hE : ∀ t v, E.get t = some v → args[t]? = some v) (h : C none P (args.size + n) [] c (bodyPost P fn R) E w) : Calls P f args w R := by
  refine callsIn_fw.1 (callsIn_of_wp (F := Fw none) hf hb trivial ?_ rfl)
  rw [hn, Nat.add_sub_cancel_left]
  exact h _ (Ag.enter n E hE)
def argsE : Nat → List Value → Env
  | _, [] => []
  | k, v :: r => (k, v) :: argsE (k + 1) r
theorem argsE_get : ∀ (l : List Value) (k t : Nat) (v : Value), (argsE k l).get t = some v → k ≤ t ∧ l[t - k]? = some v
  | [], k, t, v, h => by simp [argsE, Env.get] at h
  | u :: r, k, t, v, h => by
    by_cases e : k = t
    · subst e
      rw [argsE, get_cons_same] at h
      cases h
      simp
    · rw [argsE, get_cons_other _ _ e] at h
      obtain ⟨h1, h2⟩ := argsE_get r (k + 1) t v h
      refine ⟨by omega, ?_⟩
      rw [show t - k = (t - (k + 1)) + 1 by omega]
      simpa using h2
/-- .. its arguments named by their places. -/
theorem fn_calls' (nt : Nat) {f : FuncId} {fn : Func} {c : Code} {args : List Value} {R : Ending → World → Prop} (hf : P.funcs[f]? = some fn) (hb : fn.body = some c) (hn : fn.ntmps = nt) (hl : Nat.ble args.length nt = true)
    (h : C none P nt [] c (Body P fn R) (argsE 0 args) w) : Calls P f args.toArray w R := by
  have hl' : args.length ≤ nt := Nat.le_of_ble_eq_true hl
  have e : nt = args.toArray.size + (nt - args.length) := by simp; omega
  refine fn_calls (args := args.toArray) hf hb (nt - args.length) (by rw [hn]; exact e) (argsE 0 args) (fun t v ht => by have := argsE_get args 0 t v ht; simpa using this.2) ?_
  rw [← e]
  exact fun a ha => wpIn_mono (h a ha) fun _ _ _ hq => hq.out
/-- What a return owes. -/
theorem body_ret {fn : Func} {R : Ending → World → Prop} {v : Value} (hr : ∀ a, Ag nt [] E a → (results fn a.tmps).run P w = .ok v w) (hR : R (.returned v) w) : ∀ a, Ag nt [] E a → Body P fn R .ret a w :=
  fun a ha => ⟨⟨ha.defers, v, hr a ha, hR⟩⟩
theorem body_end {fn : Func} {R : Ending → World → Prop} {v : Value} (hr : ∀ a, Ag nt [] E a → (results fn a.tmps).run P w = .ok v w) (hR : R (.returned v) w) : ∀ a, Ag nt [] E a → Body P fn R .normal a w :=
  fun a ha => ⟨⟨ha.defers, v, hr a ha, hR⟩⟩
/-! ### 5. Which way a jump goes -/
section
variable {id id' : Nat} {K : Act → World → Prop}
theorem X_then (h : ∀ a, Ag nt D E a → Q (.exit id) a w) : ∀ a, Ag nt D E a → Exit.then K Q (.exit id) a w := h
theorem X_hit (h : ∀ a, Ag nt D E a → Q .normal a w) : ∀ a, Ag nt D E a → Exit.inBlock id Q (.exit id) a w := fun a ha => by simp only [Exit.inBlock, if_true]; exact h a ha
theorem X_miss (hne : Nat.beq id' id = false) (h : ∀ a, Ag nt D E a → Q (.exit id') a w) : ∀ a, Ag nt D E a → Exit.inBlock id Q (.exit id') a w := fun a ha => by
  have : id' ≠ id := fun e => by rw [e, Nat.beq_refl] at hne; cases hne
  simp only [Exit.inBlock, this, if_false]; exact h a ha
theorem N_blk (h : ∀ a, Ag nt D E a → Q .normal a w) : ∀ a, Ag nt D E a → Exit.inBlock id Q .normal a w := h
theorem R_then (h : ∀ a, Ag nt D E a → Q .ret a w) : ∀ a, Ag nt D E a → Exit.then K Q .ret a w := h
theorem R_blk (h : ∀ a, Ag nt D E a → Q .ret a w) : ∀ a, Ag nt D E a → Exit.inBlock id Q .ret a w := h
end
theorem C_ifT {c : Operand} {x y : Code} {p : Prop} [Decidable p] (hc : evalE E c = some (.bool (decide p))) (hp : p) (h : C ro P nt D x Q E w) : C ro P nt D (.cond c x y) Q E w := C_true (by rw [hc, decide_eq_true hp]) h
theorem C_ifF {c : Operand} {x y : Code} {p : Prop} [Decidable p] (hc : evalE E c = some (.bool (decide p))) (hp : ¬ p) (h : C ro P nt D y Q E w) : C ro P nt D (.cond c x y) Q E w := C_false (by rw [hc, decide_eq_false hp]) h
end
end Go.Sl
