/-
  The table of the closed run: code, but for Sum256 and a chunk's change.
-/
import Derived.Test.YtoinombhonbibaaGreatDoorAeQ0
import Derived.Test.YtoinombhonbibaaGreatDoorAeQ1
import Derived.Test.YtoinombhonbibaaGreatDoorAeR0
import Derived.Test.YtoinombhonbibaaGreatDoorAeF1
import Derived.KernelRfl
set_option linter.unusedSimpArgs false
set_option linter.unusedVariables false
set_option linter.unusedSectionVars false
set_option maxRecDepth 100000
namespace Go.AE
open Go.Proofs
noncomputable def sumB (args : List AV) (H : Heap) (K : AV → Heap → Bool) : Bool := match sumG (memo1 sha256N memoS) args H with
  | some v => K (.agg v) H
  | none => false
theorem sumB_S {args : List AV} {H : Heap} {K : AV → Heap → Bool} (h : sumB args H K = true) : sumS args H (fun v H => K v H = true) := by
  unfold sumB at h
  rw [sumM] at h
  unfold sumS sumV
  split at h
  · rename_i hv; simp only [hv]; exact h
  · cases h
noncomputable def changeB (args : List AV) (H : Heap) (K : AV → Heap → Bool) : Bool := match changeG (memo3 change3 memoC) args H with
  | some v => K (.agg v) H
  | none => false
theorem changeB_S {args : List AV} {H : Heap} {K : AV → Heap → Bool} (h : changeB args H K = true) : changeS args H (fun v H => K v H = true) := by
  unfold changeB at h
  rw [changeM] at h
  unfold changeS changeV
  split at h
  · rename_i hv; simp only [hv]; exact h
  · cases h
noncomputable def tabB0 (k : Nat) : Option FSpecB := match Nat.beq k 104 with
  | true => some (.spec sumB)
  | false => match Nat.beq k 352 with
    | true => some (.spec changeB)
    | false => match PT.getR tab k with
      | some (.code f) => some (.code f)
      | _ => none
def tabP0 : Nat → Option FSpec := over (over tab.get 352 changeS) 104 sumS
theorem tabP0_ok : TabOk Tryz.prog tabP0 := (tabOk0.over changeS_ok).over sumS_ok
theorem tabP0_mono : TMono tabP0 := (tab_mono.over changeS_mono).over sumS_mono
theorem tabB0_ok : TabB tabB0 tabP0 where
  code := fun f ifn h => by
    unfold tabB0 at h
    unfold tabP0 over
    split at h
    · injection h with h; cases h
    · rename_i hb
      rw [hb]
      simp only
      split at h
      · injection h with h; cases h
      · rename_i hb2
        rw [hb2]
        simp only
        split at h
        · rename_i g hg
          rw [PT.getR_eq] at hg
          injection h with h; injection h with h; subst h
          exact hg
        · cases h
  spec := fun f S' h => by
    unfold tabB0 at h
    unfold tabP0 over
    split at h
    · rename_i hb
      rw [hb]
      injection h with h; injection h with h; subst h
      exact ⟨_, rfl, fun _ _ _ h => sumB_S h⟩
    · rename_i hb
      rw [hb]
      simp only
      split at h
      · rename_i hb2
        rw [hb2]
        injection h with h; injection h with h; subst h
        exact ⟨_, rfl, fun _ _ _ h => changeB_S h⟩
      · split at h
        · injection h with h; cases h
        · cases h

def wordsL : List Nat → List AV
  | [] => []
  | x :: r => .int .u64 (.ofNat x) :: wordsL r
theorem wordsL_eq : ∀ l, wordsL l = wordsA l
  | [] => rfl
  | x :: r => by show AV.int .u64 (.ofNat x) :: wordsL r = _; rw [wordsL_eq r]; rfl
def halvesL : List Nat → List AV
  | [] => []
  | x :: r => .int .u32 (.ofNat x) :: halvesL r
theorem halvesL_eq : ∀ l, halvesL l = halvesA l
  | [] => rfl
  | x :: r => by show AV.int .u32 (.ofNat x) :: halvesL r = _; rw [halvesL_eq r]; rfl
def heap0 : Heap := ⟨nat_lit 3, .node (.node .nil (some (.cells false (wordsL shaK))) .nil) (some (.cells false (wordsL shaH))) (.node .nil (some (.cells false (halvesL sha3K))) .nil)⟩
theorem heap0_eq : heap0 = heapG := by
  unfold heap0
  rw [wordsL_eq, wordsL_eq, halvesL_eq]; rfl
def isTB : AV → Heap → Bool := fun v _ => match v with
  | .bool true => true
  | _ => false
theorem isTB_ok {v : AV} {H : Heap} (h : isTB v H = true) : v = .bool true := by
  unfold isTB at h
  split at h
  · rfl
  · cases h
end Go.AE
