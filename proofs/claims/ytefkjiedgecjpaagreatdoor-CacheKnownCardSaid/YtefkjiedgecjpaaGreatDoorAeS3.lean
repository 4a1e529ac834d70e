/-
  Tables with contracts laid over.
-/
import Derived.Test.YtefkjiedgecjpaaGreatDoorAeS1
set_option linter.unusedSimpArgs false
set_option linter.unusedVariables false
set_option linter.unusedSectionVars false
namespace Go.AE
/-- A table with a contract laid over. -/
def over (T : Nat → Option FSpec) (f : Nat) (S : List AV → Heap → (AV → Heap → Prop) → Prop) : Nat → Option FSpec := fun k => match Nat.beq k f with
  | true => some (.spec S)
  | false => T k
theorem TMono.over {T : Nat → Option FSpec} (h : TMono T) {f : Nat} {S : List AV → Heap → (AV → Heap → Prop) → Prop} (hS : ∀ args H (K K' : AV → Heap → Prop), (∀ v H, K v H → K' v H) → S args H K → S args H K') : TMono (over T f S) := by
  intro k S' hk
  unfold Go.AE.over at hk
  split at hk
  · injection hk with hk; injection hk with hk; subst hk; exact hS
  · exact h k S' hk
theorem TabOk.over {P : Program} {T : Nat → Option FSpec} (h : TabOk P T) {f : Nat} {S : List AV → Heap → (AV → Heap → Prop) → Prop} (hS : ∀ args H K, S args H K → CallSound P f args H K ∧ ∃ v H', K v H') : TabOk P (over T f S) where
  code := fun k ifn hk => by
    unfold Go.AE.over at hk
    split at hk
    · injection hk with hk; cases hk
    · exact h.code k ifn hk
  spec := fun k S' hk => by
    unfold Go.AE.over at hk
    split at hk
    · rename_i hb
      have := Nat.eq_of_beq_eq_true hb
      subst this
      injection hk with hk; injection hk with hk; subst hk; exact hS
    · exact h.spec k S' hk
/-- What a lower table answers for. -/
def low (T : Nat → Option FSpec) (f : Nat) : List AV → Heap → (AV → Heap → Prop) → Prop := fun args H K => Wp T (.call f args H K)
theorem low_mono {T : Nat → Option FSpec} {f : Nat} : ∀ args H (K K' : AV → Heap → Prop), (∀ v H, K v H → K' v H) → low T f args H K → low T f args H K' :=
  fun _ _ _ _ hK h => Wp.jmono.call hK h
theorem low_ok {P : Program} (hm : P.follows .mixedOrders = true) {T : Nat → Option FSpec} (hT : TabOk P T) {f : Nat} : ∀ args H K, low T f args H K → CallSound P f args H K ∧ ∃ v H', K v H' :=
  fun _ _ _ h => Wp.sound hm hT h
mutual
theorem AV.under_le {n m : Nat} (h : n ≤ m) : ∀ v : AV, AV.under n v = true → AV.under m v = true
  | .bool _, _ | .int _ _, _ | .str _, _ | .nilp, _ | .nils, _ | .nilm, _ | .nilf, _ | .nili, _ => rfl
  | .ptr b o, hu => by simp only [AV.under, decide_eq_true_eq] at hu ⊢; omega
  | .sl b o k c e, hu => by simp only [AV.under, decide_eq_true_eq] at hu ⊢; omega
  | .map b, hu => by simp only [AV.under, decide_eq_true_eq] at hu ⊢; omega
  | .yield b, hu => by simp only [AV.under, decide_eq_true_eq] at hu ⊢; omega
  | .fn f a c, hu => by
    simp only [AV.under, Bool.and_eq_true] at hu ⊢
    exact ⟨AV.unders_le h _ hu.1, AV.unders_le h _ hu.2⟩
  | .agg l, hu => by simp only [AV.under] at hu ⊢; exact AV.unders_le h _ hu
  | .tup l, hu => by simp only [AV.under] at hu ⊢; exact AV.unders_le h _ hu
theorem AV.unders_le {n m : Nat} (h : n ≤ m) : ∀ l : List AV, AV.unders n l = true → AV.unders m l = true
  | [], _ => rfl
  | a :: r, hu => by
    simp only [AV.unders, Bool.and_eq_true] at hu ⊢
    exact ⟨AV.under_le h _ hu.1, AV.unders_le h _ hu.2⟩
end
/-- A contract of what hands back what names nothing new, and leaves no trace. -/
theorem pure_ok {P : Program} (hm : P.follows .mixedOrders = true) {T : Nat → Option FSpec} (hT : TabOk P T) {f : Nat} {args : List AV} {H : Heap} {K : AV → Heap → Prop} {v : AV} (hv : AV.under H.next v = true) (hk : K v H)
    (h : Wp T (.call f args H fun u H' => u = v ∧ Heap.Le H H')) : CallSound P f args H K ∧ ∃ v H', K v H' := by
  refine ⟨CallSound.forget ?_, v, H, hk⟩
  have h2 : Wp T (.call f args H fun u H' => AV.under H.next u = true ∧ K u H ∧ Heap.Le H H') := Wp.jmono.call (by rintro u H' ⟨rfl, hle⟩; exact ⟨hv, hk, hle⟩) h
  exact (Wp.sound hm hT h2).1
theorem call_spec {T : Nat → Option FSpec} (hT : TMono T) {f : Nat} {S : List AV → Heap → (AV → Heap → Prop) → Prop} (hf : T f = some (.spec S)) (args : List AV) (H : Heap) (K : AV → Heap → Prop) : callX (Wp T) f args H K = S args H K := by
  rw [callX_eq]
  apply propext
  rw [Wp.iff hT]
  simp only [jobWp, hf]
end Go.AE
