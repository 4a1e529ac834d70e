/-
  The lists that a translation is told.
-/
import Derived.Test.YtefkjiedgecjpaaGreatDoorAeX
set_option linter.unusedSimpArgs false
set_option linter.unusedVariables false
set_option linter.unusedSectionVars false
namespace Go.AE
def annLook : List (Nat × List Nat) → Nat → List Nat
  | [], _ => []
  | (k, v) :: r, n => match Nat.beq k n with
    | true => v
    | false => annLook r n

/-- every entry of a table. -/
def PT.All {α : Type} (Q : Nat → α → Prop) : PT α → Nat → Nat → Prop
  | .nil, _, _ => True
  | .node l v r, a, b => (match v with | some x => Q a x | none => True) ∧ PT.All Q l (a + b) (2 * b) ∧ PT.All Q r (a + 2 * b) (2 * b)

theorem PT.all_get {α : Type} {Q : Nat → α → Prop} : ∀ {t : PT α} {a b k : Nat} {x : α}, PT.All Q t a b → t.get k = some x → Q (a + b * k) x
  | .nil, a, b, k, x, _, h => by rw [PT.get_nil] at h; cases h
  | .node l v r, a, b, k, x, hA, h => by
    obtain ⟨h1, h2, h3⟩ := hA
    cases k with
    | zero =>
      simp only [PT.get] at h
      subst h
      simpa using h1
    | succ m =>
      simp only [PT.get] at h
      split at h
      · rename_i hm
        have := PT.all_get h2 h
        have e : a + b + 2 * b * (m / 2) = a + b * (m + 1) := by
          have h4 : m = 2 * (m / 2) := by omega
          rw [Nat.mul_comm 2 b, Nat.mul_assoc, ← h4, Nat.mul_add]; omega
        rwa [e] at this
      · rename_i hm
        have := PT.all_get h3 h
        have e : a + 2 * b + 2 * b * (m / 2) = a + b * (m + 1) := by
          have h4 : m = 2 * (m / 2) + 1 := by
            have : m % 2 ≠ 0 := hm
            omega
          have h5 : b * m = b * (2 * (m / 2)) + b := by rw [← Nat.mul_succ]; exact congrArg (b * ·) h4
          rw [Nat.mul_comm 2 b, Nat.mul_assoc, Nat.mul_add, h5]; omega
        rwa [e] at this

def EntryOk (P : Program) (f : Nat) : FSpec → Prop
  | .code ifn => ∃ A fn, P.funcs[f]? = some fn ∧ (fn.name == "runtime.NumGoroutine") = false ∧ cFunc P A fn = some ifn
  | .spec S => ∀ args H K, S args H K → CallSound P f args H K ∧ ∃ v H', K v H'

theorem tabOk_of {P : Program} {t : PT FSpec} (h : PT.All (EntryOk P) t 0 1) : TabOk P t.get := by
  constructor
  · intro f ifn hf
    have := PT.all_get h hf
    rw [Nat.zero_add, Nat.one_mul] at this
    exact this
  · intro f S hf
    have := PT.all_get h hf
    rw [Nat.zero_add, Nat.one_mul] at this
    exact this
end Go.AE
