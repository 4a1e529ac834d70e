/-
  'awake' and the three refusals worked out, each by itself.
-/
import Derived.Test.YtoinombhonbibaaGreatDoorAeK2
set_option linter.unusedSimpArgs false
set_option linter.unusedVariables false
set_option linter.unusedSectionVars false
set_option maxRecDepth 100000
namespace Go.AE
open Go.Proofs
theorem awake_run : wpB tabB0 (nat_lit 10000000) (.call 8 [] heap0 isTB) = true := by kernel_rfl
/-- memory of so many blocks, of which these stand, and nothing writes to them. -/
noncomputable def subHeap (n : Nat) (l : List (Nat × List AV)) : Heap := List.rec (motive := fun _ => Heap) ⟨n, .nil⟩ (fun p _ ih => setB ih p.1 (.cells false p.2)) l
theorem subHeap_next (n : Nat) : ∀ l, (subHeap n l).next = n
  | [] => rfl
  | p :: r => by
    show (setB (subHeap n r) p.1 (.cells false p.2)).next = n
    rw [setB_eq, Heap.next_set, subHeap_next n r]
theorem subHeap_get (n : Nat) : ∀ (l : List (Nat × List AV)) (b : Nat) (o : AObj), (subHeap n l).get b = some o → ∃ p ∈ l, b = p.1 ∧ o = .cells false p.2
  | [], b, o, h => by
    have : (⟨n, .nil⟩ : Heap).get b = none := PT.get_nil b
    rw [show (subHeap n []).get b = (⟨n, .nil⟩ : Heap).get b from rfl, this] at h; cases h
  | p :: r, b, o, h => by
    have h : (setB (subHeap n r) p.1 (.cells false p.2)).get b = some o := h
    rw [setB_eq] at h
    by_cases e : b = p.1
    · rw [e, get_set_same] at h
      injection h with h
      exact ⟨p, List.mem_cons_self, e, h.symm⟩
    · rw [get_set_ne e] at h
      obtain ⟨q, h1, h2⟩ := subHeap_get n r b o h
      exact ⟨q, List.mem_cons_of_mem _ h1, h2⟩
def globL : List (Nat × List AV) := [(nat_lit 0, wordsL shaH), (nat_lit 1, wordsL shaK), (nat_lit 2, halvesL sha3K)]
def noA0 : List AV := [(.agg [(.sl (nat_lit 576) (nat_lit 0) (nat_lit 1) (some (nat_lit 1)) (nat_lit 90)), (.sl (nat_lit 569) (nat_lit 0) (nat_lit 1) (some (nat_lit 1)) (nat_lit 27)), .nils, .nils]), (.int .i64 (Int.ofNat (nat_lit 33)))]
def noL0 : List (Nat × List AV) := [((nat_lit 569), [(.int .u64 (Int.ofNat (nat_lit 0)))]), ((nat_lit 576), [(.int .u8 (Int.ofNat (nat_lit 58))), (.int .u8 (Int.ofNat (nat_lit 164))), (.int .u8 (Int.ofNat (nat_lit 113))), (.int .u8 (Int.ofNat (nat_lit 200))), (.int .u8 (Int.ofNat (nat_lit 145))), (.int .u8 (Int.ofNat (nat_lit 121))), (.int .u8 (Int.ofNat (nat_lit 123))), (.int .u8 (Int.ofNat (nat_lit 254))), (.int .u8 (Int.ofNat (nat_lit 77))), (.int .u8 (Int.ofNat (nat_lit 153))), (.int .u8 (Int.ofNat (nat_lit 159))), (.int .u8 (Int.ofNat (nat_lit 243))), (.int .u8 (Int.ofNat (nat_lit 36))), (.int .u8 (Int.ofNat (nat_lit 116))), (.int .u8 (Int.ofNat (nat_lit 161))), (.int .u8 (Int.ofNat (nat_lit 216))), (.int .u8 (Int.ofNat (nat_lit 69))), (.int .u8 (Int.ofNat (nat_lit 19))), (.int .u8 (Int.ofNat (nat_lit 118))), (.int .u8 (Int.ofNat (nat_lit 10))), (.int .u8 (Int.ofNat (nat_lit 215))), (.int .u8 (Int.ofNat (nat_lit 137))), (.int .u8 (Int.ofNat (nat_lit 37))), (.int .u8 (Int.ofNat (nat_lit 90))), (.int .u8 (Int.ofNat (nat_lit 83))), (.int .u8 (Int.ofNat (nat_lit 44))), (.int .u8 (Int.ofNat (nat_lit 249))), (.int .u8 (Int.ofNat (nat_lit 64))), (.int .u8 (Int.ofNat (nat_lit 77))), (.int .u8 (Int.ofNat (nat_lit 130))), (.int .u8 (Int.ofNat (nat_lit 120))), (.int .u8 (Int.ofNat (nat_lit 250))), (.int .u32 (Int.ofNat (nat_lit 0))), (.int .u8 (Int.ofNat (nat_lit 1))), (.int .u8 (Int.ofNat (nat_lit 0))), (.int .u8 (Int.ofNat (nat_lit 0))), (.int .u8 (Int.ofNat (nat_lit 0))), (.int .u8 (Int.ofNat (nat_lit 0))), (.int .u8 (Int.ofNat (nat_lit 0))), (.int .u8 (Int.ofNat (nat_lit 0))), (.int .u8 (Int.ofNat (nat_lit 0))), (.int .u8 (Int.ofNat (nat_lit 0))), (.int .u8 (Int.ofNat (nat_lit 0))), (.int .u8 (Int.ofNat (nat_lit 0))), (.int .u8 (Int.ofNat (nat_lit 0))), (.int .u8 (Int.ofNat (nat_lit 0))), (.int .u8 (Int.ofNat (nat_lit 0))), (.int .u8 (Int.ofNat (nat_lit 0))), (.int .u8 (Int.ofNat (nat_lit 0))), (.int .u8 (Int.ofNat (nat_lit 0))), (.int .u8 (Int.ofNat (nat_lit 0))), (.int .u8 (Int.ofNat (nat_lit 0))), (.int .u8 (Int.ofNat (nat_lit 0))), (.int .u8 (Int.ofNat (nat_lit 0))), (.int .u8 (Int.ofNat (nat_lit 0))), (.int .u8 (Int.ofNat (nat_lit 0))), (.int .u8 (Int.ofNat (nat_lit 0))), (.int .u8 (Int.ofNat (nat_lit 0))), (.int .u8 (Int.ofNat (nat_lit 0))), (.int .u8 (Int.ofNat (nat_lit 0))), (.int .u8 (Int.ofNat (nat_lit 0))), (.int .u8 (Int.ofNat (nat_lit 0))), (.int .u8 (Int.ofNat (nat_lit 0))), (.int .u8 (Int.ofNat (nat_lit 0))), (.int .u8 (Int.ofNat (nat_lit 0))), (.int .i64 (Int.ofNat (nat_lit 1))), (.bool true), (.int .i64 (Int.ofNat (nat_lit 60))), .nils])]
theorem no_run0 : wpB tabB0 (nat_lit 10000000) (.call 26 noA0 (subHeap (nat_lit 2236) (globL ++ noL0)) isTB) = true := by kernel_rfl
def noA1 : List AV := [(.agg [(.sl (nat_lit 568) (nat_lit 0) (nat_lit 1) (some (nat_lit 1)) (nat_lit 90)), .nils, .nils, .nils]), (.int .i64 (Int.ofNat (nat_lit 33)))]
def noL1 : List (Nat × List AV) := [((nat_lit 568), [(.int .u8 (Int.ofNat (nat_lit 58))), (.int .u8 (Int.ofNat (nat_lit 164))), (.int .u8 (Int.ofNat (nat_lit 113))), (.int .u8 (Int.ofNat (nat_lit 200))), (.int .u8 (Int.ofNat (nat_lit 145))), (.int .u8 (Int.ofNat (nat_lit 121))), (.int .u8 (Int.ofNat (nat_lit 123))), (.int .u8 (Int.ofNat (nat_lit 254))), (.int .u8 (Int.ofNat (nat_lit 77))), (.int .u8 (Int.ofNat (nat_lit 153))), (.int .u8 (Int.ofNat (nat_lit 159))), (.int .u8 (Int.ofNat (nat_lit 243))), (.int .u8 (Int.ofNat (nat_lit 36))), (.int .u8 (Int.ofNat (nat_lit 116))), (.int .u8 (Int.ofNat (nat_lit 161))), (.int .u8 (Int.ofNat (nat_lit 216))), (.int .u8 (Int.ofNat (nat_lit 69))), (.int .u8 (Int.ofNat (nat_lit 19))), (.int .u8 (Int.ofNat (nat_lit 118))), (.int .u8 (Int.ofNat (nat_lit 10))), (.int .u8 (Int.ofNat (nat_lit 215))), (.int .u8 (Int.ofNat (nat_lit 137))), (.int .u8 (Int.ofNat (nat_lit 37))), (.int .u8 (Int.ofNat (nat_lit 90))), (.int .u8 (Int.ofNat (nat_lit 83))), (.int .u8 (Int.ofNat (nat_lit 44))), (.int .u8 (Int.ofNat (nat_lit 249))), (.int .u8 (Int.ofNat (nat_lit 64))), (.int .u8 (Int.ofNat (nat_lit 77))), (.int .u8 (Int.ofNat (nat_lit 130))), (.int .u8 (Int.ofNat (nat_lit 120))), (.int .u8 (Int.ofNat (nat_lit 250))), (.int .u32 (Int.ofNat (nat_lit 0))), (.int .u8 (Int.ofNat (nat_lit 1))), (.int .u8 (Int.ofNat (nat_lit 0))), (.int .u8 (Int.ofNat (nat_lit 0))), (.int .u8 (Int.ofNat (nat_lit 0))), (.int .u8 (Int.ofNat (nat_lit 0))), (.int .u8 (Int.ofNat (nat_lit 0))), (.int .u8 (Int.ofNat (nat_lit 0))), (.int .u8 (Int.ofNat (nat_lit 0))), (.int .u8 (Int.ofNat (nat_lit 0))), (.int .u8 (Int.ofNat (nat_lit 0))), (.int .u8 (Int.ofNat (nat_lit 0))), (.int .u8 (Int.ofNat (nat_lit 0))), (.int .u8 (Int.ofNat (nat_lit 0))), (.int .u8 (Int.ofNat (nat_lit 0))), (.int .u8 (Int.ofNat (nat_lit 0))), (.int .u8 (Int.ofNat (nat_lit 0))), (.int .u8 (Int.ofNat (nat_lit 0))), (.int .u8 (Int.ofNat (nat_lit 0))), (.int .u8 (Int.ofNat (nat_lit 0))), (.int .u8 (Int.ofNat (nat_lit 0))), (.int .u8 (Int.ofNat (nat_lit 0))), (.int .u8 (Int.ofNat (nat_lit 0))), (.int .u8 (Int.ofNat (nat_lit 0))), (.int .u8 (Int.ofNat (nat_lit 0))), (.int .u8 (Int.ofNat (nat_lit 0))), (.int .u8 (Int.ofNat (nat_lit 0))), (.int .u8 (Int.ofNat (nat_lit 0))), (.int .u8 (Int.ofNat (nat_lit 0))), (.int .u8 (Int.ofNat (nat_lit 0))), (.int .u8 (Int.ofNat (nat_lit 0))), (.int .u8 (Int.ofNat (nat_lit 0))), (.int .u8 (Int.ofNat (nat_lit 0))), (.int .i64 (Int.ofNat (nat_lit 1))), (.bool true), (.int .i64 (Int.ofNat (nat_lit 50))), .nils])]
theorem no_run1 : wpB tabB0 (nat_lit 10000000) (.call 26 noA1 (subHeap (nat_lit 2236) (globL ++ noL1)) isTB) = true := by kernel_rfl
def noA2 : List AV := [(.agg [.nils, .nils, .nils, .nils]), (.int .i64 (Int.ofNat (nat_lit 30)))]
def noL2 : List (Nat × List AV) := []
theorem no_run2 : wpB tabB0 (nat_lit 10000000) (.call 26 noA2 (subHeap (nat_lit 2236) (globL ++ noL2)) isTB) = true := by kernel_rfl
end Go.AE
