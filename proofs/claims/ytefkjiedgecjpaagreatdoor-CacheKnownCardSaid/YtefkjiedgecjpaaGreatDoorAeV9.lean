/-
  Two hashes' parent as a contract that the kernel can work out.
-/
import Derived.Test.YtefkjiedgecjpaaGreatDoorAeV8
set_option linter.unusedSimpArgs false
set_option linter.unusedVariables false
set_option linter.unusedSectionVars false
set_option maxHeartbeats 4000000
namespace Go.AE
open Go.Proofs
theorem follows_mixed : Tryz.prog.follows .mixedOrders = true := by kernel_rfl
theorem tabOk0 : TabOk Tryz.prog tab.get := tabOk_of tab_ok
theorem tabOk1 : TabOk Tryz.prog tab1 := (tabOk0.over (low_ok follows_mixed tabOk0)).over fun args H K h => Wp.sound follows_mixed tabOk0 (rightS_ok args H K h)
theorem tabOk2 : TabOk Tryz.prog tab2 := tabOk1.over (low_ok follows_mixed tabOk1)
theorem tabOk3 : TabOk Tryz.prog tab3 := (tabOk2.over (low_ok follows_mixed tabOk0)).over (low_ok follows_mixed tabOk2)
theorem tabOk4 : TabOk Tryz.prog tab4 := tabOk3.over (low_ok follows_mixed tabOk3)
theorem tabOk5 : TabOk Tryz.prog tab5 := tabOk4.over (low_ok follows_mixed tabOk4)
theorem tabOk6 : TabOk Tryz.prog tab6 := (tabOk5.over (low_ok follows_mixed tabOk5)).over (low_ok follows_mixed tabOk5)
theorem tabOk7 : TabOk Tryz.prog tab7 := tabOk6.over (low_ok follows_mixed tabOk6)

/-! ### Read and compared by the kernel -/
/-- the numbers of bytes' cells. -/
def numsB : List AV → Option (List Nat)
  | [] => some []
  | .int .u8 (.ofNat n) :: r => match numsB r with
    | some l => some (n :: l)
    | none => none
  | _ => none
theorem numsB_eq : ∀ {l : List AV} {m : List Nat}, numsB l = some m → l = bytesA m
  | [], m, h => by simp only [numsB, Option.some.injEq] at h; subst h; rfl
  | a :: r, m, h => by
    unfold numsB at h
    split at h
    · cases ‹_ :: _ = []›
    · rename_i n r' he
      injection he with h1 h2
      subst h1; subst h2
      split at h
      · rename_i l hl
        injection h with h; subst h
        rw [numsB_eq hl]; rfl
      · cases h
    · cases h
/-- are these the words' cells? -/
def areW : List AV → List Nat → Bool
  | [], [] => true
  | .int .u64 (.ofNat n) :: r, m :: t => match Nat.beq n m with
    | true => areW r t
    | false => false
  | _, _ => false
theorem areW_eq : ∀ {l : List AV} {m : List Nat}, areW l m = true → l = wordsA m
  | [], [], _ => rfl
  | [], _ :: _, h => by simp [areW] at h
  | a :: r, m, h => by
    unfold areW at h
    split at h
    · cases ‹_ :: _ = []›
    · rename_i n r' k t he
      injection he with h1 h2
      subst h1; subst h2
      split at h
      · rename_i hb
        rw [areW_eq h, Nat.eq_of_beq_eq_true hb]; rfl
      · cases h
    · cases h
def globB (H : Heap) : Bool := match H.get 0, H.get 1 with
  | some (.cells false a), some (.cells false b) => match Nat.ble 2 H.next with
    | true => match areW a shaH with
      | true => areW b shaK
      | false => false
    | false => false
  | _, _ => false
theorem globB_ok {H : Heap} (h : globB H = true) : Glob H := by
  unfold globB at h
  split at h
  · rename_i a b h0 h1
    split at h
    · rename_i hn
      split at h
      · rename_i ha
        exact ⟨by rw [h0, areW_eq ha], by rw [h1, areW_eq h], Nat.le_of_ble_eq_true hn⟩
      · cases h
    · cases h
  · cases h
def forceB {α : Type} (l : List Nat) (k : List AV → α) : α := match l with
  | [] => k []
  | x :: r => forceN x fun x => forceB r fun r => k (.int .u8 (.ofNat x) :: r)
theorem forceB_eq {α : Type} : ∀ (l : List Nat) (k : List AV → α), forceB l k = k (bytesA l)
  | [], k => rfl
  | x :: r, k => by simp only [forceB, forceN_eq, forceB_eq r]; rfl

/-- leaf.Parent, worked out. -/
def parentG (P : List Nat → List Nat → List Nat) (args : List AV) (H : Heap) : Option (List AV) := match args with
  | [.agg l, .agg r] => match numsB l, numsB r with
    | some a, some b => match Nat.beq a.length 32, Nat.beq b.length 32, globB H with
      | true, true, true => forceB (P a b) fun v => some v
      | _, _, _ => none
    | _, _ => none
  | _ => none
theorem parentG_ok {P : List Nat → List Nat → List Nat} (hP : ∀ (l r : List Nat) (H : Heap) (K : AV → Heap → Prop), l.length = 32 → r.length = 32 → Glob H → (∀ H', Keep [] H H' → K (.agg (bytesA (P l r))) H') → Wp tab7 (.call 25 [.agg (bytesA l), .agg (bytesA r)] H K))
    {args : List AV} {H : Heap} {v : List AV} (h : parentG P args H = some v) {K : AV → Heap → Prop} (hk : K (.agg v) H) : CallSound Tryz.prog 25 args H K ∧ ∃ v H', K v H' := by
  unfold parentG at h
  split at h
  · split at h
    · rename_i l r a b ha hb
      split at h
      · rename_i h1 h2 h3
        rw [forceB_eq] at h
        injection h with h; subst h
        have e1 := numsB_eq ha
        have e2 := numsB_eq hb
        subst e1; subst e2
        refine pure_ok follows_mixed tabOk7 (v := .agg (bytesA (P a b))) ?_ hk ?_
        · simp only [AV.under]; exact bytesA_under _ _
        · exact hP _ _ _ _ (Nat.eq_of_beq_eq_true h1) (Nat.eq_of_beq_eq_true h2) (globB_ok h3) fun H' hk => ⟨rfl, hk.le⟩
      · cases h
    · cases h
  · cases h
def parentV (args : List AV) (H : Heap) : Option (List AV) := parentG parentN args H
theorem parentV_ok {args : List AV} {H : Heap} {v : List AV} (h : parentV args H = some v) {K : AV → Heap → Prop} (hk : K (.agg v) H) : CallSound Tryz.prog 25 args H K ∧ ∃ v H', K v H' :=
  parentG_ok (P := parentN) (fun _ _ _ _ hl hr hG h => parent_w hl hr hG h) h hk
def parentS : List AV → Heap → (AV → Heap → Prop) → Prop := fun args H K => match parentV args H with
  | some v => K (.agg v) H
  | none => False
theorem parentS_ok : ∀ args H K, parentS args H K → CallSound Tryz.prog 25 args H K ∧ ∃ v H', K v H' := by
  intro args H K h
  unfold parentS at h
  split at h
  · rename_i v hv; exact parentV_ok hv h
  · exact h.elim
theorem parentS_mono : ∀ args H (K K' : AV → Heap → Prop), (∀ v H, K v H → K' v H) → parentS args H K → parentS args H K' := by
  intro args H K K' hK h
  unfold parentS at h ⊢
  split at h
  · exact hK _ _ h
  · exact h.elim
end Go.AE
