/- A small logic over the fenced walk: stamps and changes. -/
import Derived.Test.YtceeellnjckmiaaSl5
set_option linter.unusedVariables false
set_option linter.unusedSimpArgs false
namespace Go.Sl
open Go Go.RowKit

structure Stamp where
  c : Int
  r : Int
  deriving DecidableEq, Inhabited
structure Change where
  at_ : Stamp
  seq : Int
  deps : List Int
  kind : Int
  node : Stamp
  par : Stamp
  aft : Stamp
  name : ByteArray
  val : ByteArray
  deriving DecidableEq, Inhabited
def stL (s : Stamp) : List Value := [.int .i64 s.c, .int .i64 s.r]
def chL (c : Change) (A : Option Addr) (cap : Nat) : List Value :=
  [.int .i64 c.at_.c, .int .i64 c.at_.r, .int .i64 c.seq, .slice A c.deps.length cap, .int .i64 c.kind, .int .i64 c.node.c, .int .i64 c.node.r, .int .i64 c.par.c, .int .i64 c.par.r, .int .i64 c.aft.c, .int .i64 c.aft.r, .string c.name, .string c.val]
def StOk (s : Stamp) : Prop := InR s.c ∧ InR s.r
structure ChOk (c : Change) : Prop where
  at_ : StOk c.at_
  seq : InR c.seq
  kind : InR c.kind
  node : StOk c.node
  par : StOk c.par
  aft : StOk c.aft
  name : c.name.size ≤ 140737488355328
  val : c.val.size ≤ 140737488355328
def tSt : Ty Stamp :=
  { sz := 2
    pos := by decide
    rd := fun _ cs s => cs = stL s ∧ StOk s
    len := fun h => by rw [h.1]; rfl
    one := fun h v hv => by rw [h.1] at hv; simp [stL] at hv; rcases hv with rfl | rfl <;> rfl
    st := fun _ h => h }
def tCh : Ty Change :=
  { sz := 13
    pos := by decide
    rd := fun w cs c => ∃ A cap, cs = chL c A cap ∧ (tSl tI).rd w [.slice A c.deps.length cap] c.deps ∧ ChOk c
    len := fun h => by obtain ⟨A, cap, rfl, _⟩ := h; rfl
    one := fun h v hv => by
      obtain ⟨A, cap, rfl, _⟩ := h
      simp [chL] at hv
      rcases hv with rfl | rfl | rfl | rfl | rfl | rfl | rfl | rfl | rfl | rfl | rfl | rfl | rfl <;> rfl
    st := fun hk h => by
      obtain ⟨A, cap, hc, h1, h2⟩ := h
      exact ⟨A, cap, hc, (tSl tI).st hk h1, h2⟩ }
section
variable {W : World} {F : Nat → Prop} {es : List Value}
theorem openI {x : Int} (h : RdF tI W F es x) : es = [.int .i64 x] ∧ InR x := h.here
theorem openSt {s : Stamp} (h : RdF tSt W F es s) : es = stL s ∧ StOk s := h.here
theorem openCh {c : Change} (h : RdF tCh W F es c) : ∃ A cap, es = chL c A cap ∧ RdF (tSl tI) W F [.slice A c.deps.length cap] c.deps ∧ ChOk c := by
  obtain ⟨A, cap, rfl, _, ho⟩ := h.here
  refine ⟨A, cap, rfl, fun w hw => ?_, ho⟩
  obtain ⟨A', cap', he, hd, _⟩ := h w hw
  simp [chL] at he
  obtain ⟨rfl, rfl⟩ := he
  exact hd
theorem mkI {x : Int} (h : InR x) : RdF tI W F [.int .i64 x] x := fun _ _ => ⟨rfl, h⟩
theorem mkSt {s : Stamp} (h : StOk s) : RdF tSt W F (stL s) s := fun _ _ => ⟨rfl, h⟩
theorem mkCh {c : Change} {A : Option Addr} {cap : Nat} (h : RdF (tSl tI) W F [.slice A c.deps.length cap] c.deps) (ho : ChOk c) : RdF tCh W F (chL c A cap) c := fun w hw => ⟨A, cap, rfl, h w hw, ho⟩
end
end Go.Sl
