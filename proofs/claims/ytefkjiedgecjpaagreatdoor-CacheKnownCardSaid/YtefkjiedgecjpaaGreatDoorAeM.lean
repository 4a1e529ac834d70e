/-
  Steps of the machine, with rounds; results of a function; calls; a step over a map.
-/
import Derived.Test.YtefkjiedgecjpaaGreatDoorAeL
import Derived.Control
import Derived.Calls
set_option linter.unusedSimpArgs false
set_option linter.unusedVariables false
set_option linter.unusedSectionVars false
namespace Go.AE

def Fx (fn : FuncId) (rd : Option Nat) (t : Array Value) (ds : List Deferred) (k : List Item) : Frame :=
  { fn, tmps := t, todo := k, defers := ds, mode := .run, kind := .normal, roundOf := rd }

theorem Fx_eval (fn : FuncId) (rd : Option Nat) (t : Array Value) (ds : List Deferred) (k : List Item) : (Fx fn rd t ds k).eval = (Act.mk t ds).eval := by
  funext x; cases x <;> rfl

def Closed (P : Program) (G : Machine → Prop) : Prop := ∀ m m', step P m = .next m' → G m' → G m

/-- G holds wherever the next step is m's. -/
def Fwd (P : Program) (G : Machine → Prop) (m : Machine) : Prop := ∀ m₁, step P m₁ = step P m → G m₁

section
variable {P : Program} {G : Machine → Prop} {fn : FuncId} {rd : Option Nat} {t : Array Value} {ds : List Deferred} {k : List Item} {cs : List Frame} {w : World}

theorem Fwd.of_step (hG : Closed P G) {m m' : Machine} (h : step P m = .next m') (h' : Fwd P G m') : Fwd P G m := fun m₁ h₁ => hG m₁ m' (h₁.trans h) (h' m' rfl)
theorem Fwd.here {m : Machine} (h : Fwd P G m) : G m := h m rfl
theorem Fwd.of_eq {m m' : Machine} (h : step P m = step P m') (h' : Fwd P G m') : Fwd P G m := fun m₁ h₁ => h' m₁ (h₁.trans h)

theorem st_skip : step P (lone (Fx fn rd t ds (.code .skip :: k)) cs w) = .next (lone (Fx fn rd t ds k) cs w) :=
  step_lone_go (by simp [stepG, stepG.exec, Fx])
theorem st_inBlock {id : Nat} : step P (lone (Fx fn rd t ds (.inBlock id :: k)) cs w) = .next (lone (Fx fn rd t ds k) cs w) :=
  step_lone_go (by simp [stepG, stepG.exec, Fx])
theorem st_seq {x y : Code} : step P (lone (Fx fn rd t ds (.code (.seq x y) :: k)) cs w) = .next (lone (Fx fn rd t ds (.code x :: .code y :: k)) cs w) :=
  step_lone_go (by simp [stepG, stepG.exec, Fx])
theorem st_cond {c : Operand} {x y : Code} {b : Bool} (h : (Act.mk t ds).eval c = .bool b) :
    step P (lone (Fx fn rd t ds (.code (.cond c x y) :: k)) cs w) = .next (lone (Fx fn rd t ds (.code (if b then x else y) :: k)) cs w) :=
  step_lone_go (by
    have := congrFun (Fx_eval fn rd t ds (.code (.cond c x y) :: k)) c
    simp only [Fx] at this
    simp [stepG, stepG.exec, Fx, this, h])
theorem st_block {id : Nat} {c : Code} : step P (lone (Fx fn rd t ds (.code (.block id c) :: k)) cs w) = .next (lone (Fx fn rd t ds (.code c :: .inBlock id :: k)) cs w) :=
  step_lone_go (by simp [stepG, stepG.exec, Fx])
theorem st_loop {c : Code} : step P (lone (Fx fn rd t ds (.code (.loop c) :: k)) cs w) = .next (lone (Fx fn rd t ds (.code c :: .inLoop c :: k)) cs w) :=
  step_lone_go (by simp [stepG, stepG.exec, Fx])
theorem st_inLoop {c : Code} : step P (lone (Fx fn rd t ds (.inLoop c :: k)) cs w) = .next (lone (Fx fn rd t ds (.code c :: .inLoop c :: k)) cs w) :=
  step_lone_go (by simp [stepG, stepG.exec, Fx])
theorem st_exit {id : Nat} {k' : List Item} (h : exitTo id k = some k') : step P (lone (Fx fn rd t ds (.code (.exit id) :: k)) cs w) = .next (lone (Fx fn rd t ds k') cs w) :=
  step_lone_go (by simp [stepG, stepG.exec, Fx, h])
theorem st_ret : step P (lone (Fx fn none t ds (.code .ret :: k)) cs w) = .next (lone { Fx fn none t ds (.code .ret :: k) with mode := .returning } cs w) :=
  step_lone_go (by simp [stepG, stepG.exec, Fx])
theorem st_end : step P (lone (Fx fn none t ds []) cs w) = .next (lone { Fx fn none t ds [] with mode := .returning } cs w) :=
  step_lone_go (by simp [stepG, stepG.exec, Fx])
theorem st_reg {id : Nat} {ops : Array Oper} : step P (lone (Fx fn rd t ds (.code (.region id ops false) :: k)) cs w) = .next (lone (Fx fn rd t ds (.inRegion ops (List.range ops.size) :: k)) cs w) :=
  step_lone_go (by simp [stepG, stepG.exec, Fx])
theorem st_dreg {id : Nat} {ops : Array Oper} : step P (lone (Fx fn rd t ds (.code (.region id ops true) :: k)) cs w) =
    .next (lone (Fx fn rd t ds (.inRegion ops (Region.schedule (P.follows .mixedOrders) ops (w.tape w.drawn (.order fn id))) :: k)) cs { w with drawn := w.drawn + 1 }) :=
  step_lone_go (by simp [stepG, stepG.exec, Fx, choose, Sem.run, Question.forced, Question.cut])
theorem st_regEnd {ops : Array Oper} : step P (lone (Fx fn rd t ds (.inRegion ops [] :: k)) cs w) = .next (lone (Fx fn rd t ds k) cs w) :=
  step_lone_go (by simp [stepG, stepG.exec, Fx])
theorem st_opSkip {ops : Array Oper} {i : Nat} {rest : List Nat} (h : ((ops[i]?).map (Region.wanted · (yielded ops t))).getD false = false) :
    step P (lone (Fx fn rd t ds (.inRegion ops (i :: rest) :: k)) cs w) = .next (lone ((Fx fn rd t ds (.inRegion ops (i :: rest) :: k)).finish undef) cs w) :=
  step_lone_go (by simp only [Fx] at *; simp [stepG, stepG.exec, h])

theorem Fx_finish {ops : Array Oper} {i : Nat} {rest : List Nat} {o : Oper} (ho : ops[i]? = some o) (v : Value) :
    (Fx fn rd t ds (.inRegion ops (i :: rest) :: k)).finish v = Fx fn rd ((Act.mk t ds).put o.dst v).tmps ds (.inRegion ops rest :: k) := by
  cases h : o.dst <;> simp [Frame.finish, Fx, Act.put, ho, h]

theorem stG_op {ops : Array Oper} {i : Nat} {rest : List Nat} {o : Oper} (ho : ops[i]? = some o) (hw : Region.wanted o (yielded ops t) = true) (hd : ∀ c, o.op ≠ .defer c) :
    stepG P true { frame := Fx fn rd t ds (.inRegion ops (i :: rest) :: k), callers := cs, status := .running, dying := none } w =
      stepG.apply P true (Fx fn rd t ds (.inRegion ops (i :: rest) :: k)) cs none (execOp (Act.mk t ds).eval o) w := by
  have he := Fx_eval fn rd t ds (.inRegion ops (i :: rest) :: k)
  simp only [Fx] at he
  simp [stepG, stepG.exec, stepG.oper, Frame.oper?, Fx, ho, hw, he]
  split
  · rename_i h; exact absurd h (hd _)
  · rfl

theorem exit_pass {id : Nat} {x : Item} (hx : exitTo id (x :: k) = exitTo id k) :
    step P (lone (Fx fn rd t ds (.code (.exit id) :: x :: k)) cs w) = step P (lone (Fx fn rd t ds (.code (.exit id) :: k)) cs w) := by
  rw [step, stepT, move_lone, step, stepT, move_lone]
  simp only [runT, lone, Array.swapAt!]
  cases he : exitTo id k with
  | some k' => simp [stepG, stepG.exec, Fx, hx, he, GStep.bare]
  | none =>
    simp [stepG, stepG.exec, Fx, hx, he]
    cases rd with
    | none => simp [Frame.pos, Frame.oper?]
    | some l =>
      simp [Frame.pos, Frame.oper?]
      cases (Instr.endRound l (some (.exit id))).run P w with
      | ok v w =>
        cases cs with
        | cons c cs => simp [doReturn, GStep.after]
        | nil =>
          simp only [doReturn]
          cases P.inits.idxOf? fn <;> simp [GStep.after]
      | halt x w => simp [GStep.after]
end
end Go.AE
