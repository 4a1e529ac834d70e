/-
  What the closed run takes by contract: Sum256, and a chunk's change.
-/
import Derived.Test.YtoinombhonbibaaGreatDoorAeV8
import Derived.Test.YtoinombhonbibaaGreatDoorAeU3
import Derived.Test.YtoinombhonbibaaGreatDoorAeF1
set_option linter.unusedSimpArgs false
set_option linter.unusedVariables false
set_option linter.unusedSectionVars false
set_option maxHeartbeats 4000000
namespace Go.AE
open Go.Proofs
theorem tabOkU1 : TabOk Tryz.prog u1 := tabOk0.over (low_ok follows_mixed tabOk0)
theorem tabOkU2 : TabOk Tryz.prog u2 := ((((tabOkU1.over (low_ok follows_mixed tabOkU1)).over (low_ok follows_mixed tabOkU1)).over (low_ok follows_mixed tabOk0)).over (low_ok follows_mixed tabOk0))
/-- the bytes of a slice that can be read. -/
noncomputable def sliceB (H : Heap) (s : AV) : Option (List Nat) := match s with
  | .nils => some []
  | .sl b o n _ e => match Nat.beq e 5, Nat.ble (Nat.succ b) H.next with
    | true, true => match getB H b with
      | some (.cells _ cs) => match takeF (dropF cs o) n with
        | some l => numsB l
        | none => none
      | _ => none
    | _, _ => none
  | _ => none
theorem span_len {c : List AV} {o n : Nat} {l : List AV} (h : span c o n = some l) : o + n ≤ c.length ∨ (n = 0 ∧ l = []) := by
  unfold span at h
  simp only at h
  split at h
  · rename_i hl
    rw [List.length_take, List.length_drop] at hl
    by_cases h0 : n = 0
    · subst h0; simp at h; exact .inr ⟨rfl, h⟩
    · left; omega
  · cases h
theorem span_val {c : List AV} {o n : Nat} {l : List AV} (h : span c o n = some l) : (c.drop o).take n = l ∧ l.length = n := by
  unfold span at h
  simp only at h
  split at h
  · rename_i hl; injection h with h; subst h; exact ⟨rfl, hl⟩
  · cases h
theorem sliceB_ok {H : Heap} {s : AV} {l : List Nat} (h : sliceB H s = some l) : ∃ n, Sl H 5 1 s n (bytesA l) ∧ n = l.length := by
  unfold sliceB at h
  split at h
  · injection h with h; subst h; exact ⟨0, .nils, rfl⟩
  · rename_i b o n c e
    split at h
    · rename_i h1 h2
      have h1 := Nat.eq_of_beq_eq_true h1
      have h2 := Nat.le_of_ble_eq_true h2
      subst h1
      split at h
      · rename_i w cs hc
        rw [getB_eq] at hc
        split at h
        · rename_i cl hcl
          rw [spanF_eq] at hcl
          have := numsB_eq h
          subst this
          obtain ⟨h3, h4⟩ := span_val hcl
          rw [bytesA_length] at h4
          refine ⟨n, ?_, h4.symm⟩
          rcases span_len hcl with h5 | ⟨h5, h6⟩
          · exact .some _ _ _ _ w cs _ hc (by omega) (by rw [Nat.mul_one]; exact h3) h2
          · have : l = [] := List.length_eq_zero_iff.1 (by omega)
            subst this; subst h5
            exact .zero _ _ _
        · cases h
      · cases h
    · cases h
  · cases h

/-- Sum256, worked out. -/
noncomputable def sumG (F : List Nat → List Nat) (args : List AV) (H : Heap) : Option (List AV) := match args with
  | [s] => match sliceB H s with
    | some l => match Nat.ble l.length 100000, globB H with
      | true, true => forceB (F l) fun v => some v
      | _, _ => none
    | none => none
  | _ => none
theorem sumG_ok {F : List Nat → List Nat} (hF : ∀ {s : AV} {n : Nat} {l : List Nat} {H : Heap} {K : AV → Heap → Prop}, Glob H → Sl H 5 1 s n (bytesA l) → n ≤ 2 ^ 39 → (∀ H', Keep [] H H' → K (.agg (bytesA (F l))) H') → Wp tab6 (.call 104 [s] H K))
    {args : List AV} {H : Heap} {v : List AV} (h : sumG F args H = some v) {K : AV → Heap → Prop} (hk : K (.agg v) H) : CallSound Tryz.prog 104 args H K ∧ ∃ v H', K v H' := by
  unfold sumG at h
  split at h
  · split at h
    · rename_i s l hl
      split at h
      · rename_i h1 h2
        rw [forceB_eq] at h
        injection h with h; subst h
        obtain ⟨n, hs, hn⟩ := sliceB_ok hl
        have h1 := Nat.le_of_ble_eq_true h1
        refine pure_ok follows_mixed tabOk6 (v := .agg (bytesA (F l))) ?_ hk ?_
        · simp only [AV.under]; exact bytesA_under _ _
        · exact hF (globB_ok h2) hs (by omega) fun H' hk => ⟨rfl, hk.le⟩
      · cases h
    · cases h
  · cases h
noncomputable def sumV (args : List AV) (H : Heap) : Option (List AV) := sumG sha256N args H
theorem sumV_ok {args : List AV} {H : Heap} {v : List AV} (h : sumV args H = some v) {K : AV → Heap → Prop} (hk : K (.agg v) H) : CallSound Tryz.prog 104 args H K ∧ ∃ v H', K v H' :=
  sumG_ok (F := sha256N) (fun hG hs hn h => sum_w hG hs hn h) h hk
def sumS : List AV → Heap → (AV → Heap → Prop) → Prop := fun args H K => match sumV args H with
  | some v => K (.agg v) H
  | none => False
theorem sumS_ok : ∀ args H K, sumS args H K → CallSound Tryz.prog 104 args H K ∧ ∃ v H', K v H' := by
  intro args H K h
  unfold sumS at h
  split at h
  · rename_i v hv; exact sumV_ok hv h
  · exact h.elim
theorem sumS_mono : ∀ args H (K K' : AV → Heap → Prop), (∀ v H, K v H → K' v H) → sumS args H K → sumS args H K' := by
  intro args H K K' hK h
  unfold sumS at h ⊢
  split at h
  · exact hK _ _ h
  · exact h.elim

/-- the numbers of words' cells. -/
def numsH : List AV → Option (List Nat)
  | [] => some []
  | .int .u32 (.ofNat n) :: r => match numsH r with
    | some l => some (n :: l)
    | none => none
  | _ => none
theorem numsH_eq : ∀ {l : List AV} {m : List Nat}, numsH l = some m → l = halvesA m
  | [], m, h => by simp only [numsH, Option.some.injEq] at h; subst h; rfl
  | a :: r, m, h => by
    unfold numsH at h
    split at h
    · cases ‹_ :: _ = []›
    · rename_i n r' he
      injection he with h1 h2
      subst h1; subst h2
      split at h
      · rename_i l hl
        injection h with h; subst h
        rw [numsH_eq hl]; rfl
      · cases h
    · cases h
/-- are these the words' cells? -/
def areH : List AV → List Nat → Bool
  | [], [] => true
  | .int .u32 (.ofNat n) :: r, m :: t => match Nat.beq n m with
    | true => areH r t
    | false => false
  | _, _ => false
theorem areH_eq : ∀ {l : List AV} {m : List Nat}, areH l m = true → l = halvesA m
  | [], [], _ => rfl
  | [], _ :: _, h => by simp [areH] at h
  | a :: r, m, h => by
    unfold areH at h
    split at h
    · cases ‹_ :: _ = []›
    · rename_i n r' k t he
      injection he with h1 h2
      subst h1; subst h2
      split at h
      · rename_i hb
        rw [areH_eq h, Nat.eq_of_beq_eq_true hb]; rfl
      · cases h
    · cases h
def glob3B (H : Heap) : Bool := match H.get 2 with
  | some (.cells false a) => match Nat.ble 3 H.next with
    | true => areH a sha3K
    | false => false
  | _ => false
theorem glob3B_ok {H : Heap} (h : glob3B H = true) : Glob3 H := by
  unfold glob3B at h
  split at h
  · rename_i a h0
    split at h
    · rename_i hn
      exact ⟨by rw [h0, areH_eq h], Nat.le_of_ble_eq_true hn⟩
    · cases h
  · cases h
def forceH {α : Type} (l : List Nat) (k : List AV → α) : α := match l with
  | [] => k []
  | x :: r => forceN x fun x => forceH r fun r => k (.int .u32 (.ofNat x) :: r)
theorem forceH_eq {α : Type} : ∀ (l : List Nat) (k : List AV → α), forceH l k = k (halvesA l)
  | [], k => rfl
  | x :: r, k => by simp only [forceH, forceN_eq, forceH_eq r]; rfl
/-- a chunk's change, worked out. -/
noncomputable def changeG (C : List Nat → List Nat → List Nat) (args : List AV) (H : Heap) : Option (List AV) := match args with
  | [.agg a, .sl b o n _ e] => match numsH a with
    | some s => match Nat.beq s.length 8, Nat.ble (Nat.succ b) H.next, Nat.ble 64 n, Nat.beq e 5 with
      | true, true, true, true => match getB H b with
        | some (.cells _ cs) => match numsB cs with
          | some m => match Nat.ble (Nat.add o 64) m.length, glob3B H with
            | true, true => forceH (C s ((m.drop o).take 64)) fun v => some v
            | _, _ => none
          | none => none
        | _ => none
      | _, _, _, _ => none
    | none => none
  | _ => none
theorem changeG_ok {C : List Nat → List Nat → List Nat} (hC : ∀ {sv : List Nat} {b o n : Nat} {c : Option Nat} {w : Bool} {cs l : List Nat} {H : Heap} {K : AV → Heap → Prop}, Glob3 H → sv.length = 8 → H.get b = some (.cells w (bytesA cs)) → b < H.next → (cs.drop o).take 64 = l → o + 64 ≤ cs.length → 64 ≤ n →
      (∀ H', Keep [] H H' → K (.agg (halvesA (C sv l))) H') → Wp u2 (.call 352 [.agg (halvesA sv), .sl b o n c 5] H K))
    {args : List AV} {H : Heap} {v : List AV} (h : changeG C args H = some v) {K : AV → Heap → Prop} (hk : K (.agg v) H) : CallSound Tryz.prog 352 args H K ∧ ∃ v H', K v H' := by
  unfold changeG at h
  split at h
  · rename_i a b o n c e
    split at h
    · rename_i s hs
      split at h
      · rename_i h1 h2 h3 h4
        split at h
        · rename_i w cs hc
          rw [getB_eq] at hc
          split at h
          · rename_i m hm
            split at h
            · rename_i h5 h6
              rw [forceH_eq] at h
              injection h with h; subst h
              have e1 := numsH_eq hs
              subst e1
              have e2 := numsB_eq hm
              subst e2
              have h4 := Nat.eq_of_beq_eq_true h4
              subst h4
              refine pure_ok follows_mixed tabOkU2 (v := .agg (halvesA (C s ((m.drop o).take 64)))) ?_ hk ?_
              · simp only [AV.under]; exact halvesA_under _ _
              · exact hC (glob3B_ok h6) (Nat.eq_of_beq_eq_true h1) hc (Nat.le_of_ble_eq_true h2) rfl (Nat.le_of_ble_eq_true h5) (Nat.le_of_ble_eq_true h3) fun H' hk => ⟨rfl, hk.le⟩
            · cases h
          · cases h
        · cases h
      · cases h
    · cases h
  · cases h
noncomputable def changeV (args : List AV) (H : Heap) : Option (List AV) := changeG change3 args H
theorem changeV_ok {args : List AV} {H : Heap} {v : List AV} (h : changeV args H = some v) {K : AV → Heap → Prop} (hk : K (.agg v) H) : CallSound Tryz.prog 352 args H K ∧ ∃ v H', K v H' :=
  changeG_ok (C := change3) (fun hG hs gb hb hl hlen hn hk => change_w hG hs gb hb hl hlen hn hk) h hk
def changeS : List AV → Heap → (AV → Heap → Prop) → Prop := fun args H K => match changeV args H with
  | some v => K (.agg v) H
  | none => False
theorem changeS_ok : ∀ args H K, changeS args H K → CallSound Tryz.prog 352 args H K ∧ ∃ v H', K v H' := by
  intro args H K h
  unfold changeS at h
  split at h
  · rename_i v hv; exact changeV_ok hv h
  · exact h.elim
theorem changeS_mono : ∀ args H (K K' : AV → Heap → Prop), (∀ v H, K v H → K' v H) → changeS args H K → changeS args H K' := by
  intro args H K K' hK h
  unfold changeS at h ⊢
  split at h
  · exact hK _ _ h
  · exact h.elim
end Go.AE
