/-
  The evaluator's pure operations are the model's.
-/
import Derived.Test.YtoinombhonbibaaGreatDoorAeD
import Derived.Laws.Strings
set_option linter.unusedSimpArgs false
set_option linter.unusedVariables false
set_option linter.unusedSectionVars false
namespace Go.AE

section
variable {P : Program} {β : Inj} {w : World} {ρ : Operand → Value}

theorem run_v {s : Sem Value} {a : Value} {w w' : World} (h : s.run P w = .ok a w') : (do pure (Next.value (← s)) : Sem Next).run P w = .ok (.value a) w' := by
  simp [h]

/-- what 'bound' gives. -/
theorem bound_run {x : AV} {v : Value} (hx : VRel P β x v) {y i : Nat} (h : bound x y = some i) (c : BoundsCode) (w : World) : i ≤ y ∧ ∀ y', y ≤ y' → (Instr.sliceBound v y' c).run P w = .ok i w := by
  unfold bound at h
  split at h
  · rename_i k n
    simp only [VRel] at hx
    subst hx
    split at h
    · rename_i hb
      injection h with h; subst h
      refine ⟨by omega, fun y' hy => ?_⟩
      simp only [Instr.sliceBound, asIntOf, Sem.run_bind, Sem.run_pure, Result.andThen_ok]
      rw [if_pos ⟨hb.1, by omega⟩]
      rfl
    · cases h
  · cases h

theorem bounds_run {len y cap : Nat} {lo hi mx : Bool} {xs : List AV} {l h : Nat} {m : Option Nat} (hb : bounds len y lo hi mx xs = some (l, h, m)) (hy : y ≤ cap) (isS : Bool)
    {vlo vhi vmx : Option Value} (e1 : vlo.isSome = lo) (e2 : vhi.isSome = hi) (e3 : vmx.isSome = mx) (hx : VRels P β xs (vlo.toList ++ vhi.toList ++ vmx.toList)) (w : World) :
    (Instr.sliceBounds isS len cap vlo vhi vmx).run P w = .ok (l, h, m.getD cap) w ∧ l ≤ h ∧ h ≤ (m.getD (max len y)) ∧ m.getD 0 ≤ y := by
  unfold bounds at hb
  split at hb
  · injection hb with hb; injection hb with h1 h2; injection h2 with h2 h3; subst h1; subst h2; subst h3
    cases vlo <;> cases vhi <;> cases vmx <;> simp at e1 e2 e3
    simp [Instr.sliceBounds]; omega
  · cases vlo <;> cases vhi <;> cases vmx <;> simp at e1 e2 e3
    rename_i vl
    obtain ⟨_, he, h1⟩ := VRels.one (by simpa using hx)
    simp only [List.cons.injEq, and_true] at he; subst he
    split at hb
    · rename_i l' hl'
      injection hb with hb; injection hb with g1 g2; injection g2 with g2 g3; subst g1; subst g2; subst g3
      obtain ⟨h2, h3⟩ := bound_run h1 hl' .sliceB w
      simp [Instr.sliceBounds, h3 len (Nat.le_refl _)]; omega
    · cases hb
  · cases vlo <;> cases vhi <;> cases vmx <;> simp at e1 e2 e3
    rename_i vh
    obtain ⟨_, he, h1⟩ := VRels.one (by simpa using hx)
    simp only [List.cons.injEq, and_true] at he; subst he
    split at hb
    · rename_i h' hh'
      injection hb with hb; injection hb with g1 g2; injection g2 with g2 g3; subst g1; subst g2; subst g3
      have h3 := fun c => (bound_run h1 hh' c w)
      have h2 := (h3 .index).1
      have h4 := fun c => (h3 c).2 cap hy
      cases isS <;> simp [Instr.sliceBounds, h4] <;> omega
    · cases hb
  · cases vlo <;> cases vhi <;> cases vmx <;> simp at e1 e2 e3
    rename_i vl vh
    obtain ⟨_, _, he, h1, h1'⟩ := VRels.two (by simpa using hx)
    simp only [List.cons.injEq, and_true] at he; obtain ⟨he1, he2⟩ := he; subst he1; subst he2
    split at hb
    · rename_i h' hh'
      split at hb
      · rename_i l' hl'
        injection hb with hb; injection hb with g1 g2; injection g2 with g2 g3; subst g1; subst g2; subst g3
        have h3 := fun c => (bound_run h1' hh' c w)
        have h2 := (h3 .index).1
        have h4 := fun c => (h3 c).2 cap hy
        obtain ⟨h5, h6⟩ := bound_run h1 hl' .sliceB w
        cases isS <;> simp [Instr.sliceBounds, h4, h6 h' (Nat.le_refl _)] <;> omega
      · cases hb
    · cases hb
  · cases vlo <;> cases vhi <;> cases vmx <;> simp at e1 e2 e3
    rename_i vh vm
    obtain ⟨_, _, he, h1, h1'⟩ := VRels.two (by simpa using hx)
    simp only [List.cons.injEq, and_true] at he; obtain ⟨he1, he2⟩ := he; subst he1; subst he2
    split at hb
    · rename_i m' hm'
      split at hb
      · rename_i h' hh'
        injection hb with hb; injection hb with g1 g2; injection g2 with g2 g3; subst g1; subst g2; subst g3
        have h3 := fun c => (bound_run h1' hm' c w)
        have h2 := (h3 .index).1
        have h4 := fun c => (h3 c).2 cap hy
        obtain ⟨h5, h6⟩ := bound_run h1 hh' .slice3B w
        cases isS <;> simp [Instr.sliceBounds, h4, h6 m' (Nat.le_refl _)] <;> omega
      · cases hb
    · cases hb
  · cases vlo <;> cases vhi <;> cases vmx <;> simp at e1 e2 e3
    rename_i vl vh vm
    obtain ⟨_, _, _, he, h1, h1', h1''⟩ := VRels.three (by simpa using hx)
    simp only [List.cons.injEq, and_true] at he; obtain ⟨he1, he2, he3⟩ := he; subst he1; subst he2; subst he3
    split at hb
    · rename_i m' hm'
      split at hb
      · rename_i h' hh'
        split at hb
        · rename_i l' hl'
          injection hb with hb; injection hb with g1 g2; injection g2 with g2 g3; subst g1; subst g2; subst g3
          have h3 := fun c => (bound_run h1'' hm' c w)
          have h2 := (h3 .index).1
          have h4 := fun c => (h3 c).2 cap hy
          obtain ⟨h5, h6⟩ := bound_run h1' hh' .slice3B w
          obtain ⟨h7, h8⟩ := bound_run h1 hl' .slice3C w
          cases isS <;> simp [Instr.sliceBounds, h4, h6 m' (Nat.le_refl _), h8 h' (Nat.le_refl _)] <;> omega
        · cases hb
      · cases hb
    · cases hb
  · cases hb

/-! ### Integers -/
theorem ofInt_toNat (k : Nat) (x : Int) : (BitVec.ofInt k x).toNat = (x % 2 ^ k).toNat := by
  simp [BitVec.toNat_ofInt]

theorem binInt_run {op : BinOp} {k : IntKind} {a b : Int} {v : AV} (h : binInt op k a b = some v) (h1 : op ≠ .shl) (h2 : op ≠ .shr) (t : TypeId) (w : World) :
    ∃ u, (binOp op t (.int k a) (.int k b)).run P w = .ok u w ∧ VRel P β v u := by
  cases op with
  | shl => exact absurd rfl h1
  | shr => exact absurd rfl h2
  | quo =>
    simp only [binInt, mkInt_eq] at h
    split at h
    · cases h
    · rename_i hb
      injection h with h; subst h; refine ⟨_, by simp [binOp, Op.intDiv, hb]; rfl, ?_⟩; simp [VRel]
  | rem =>
    simp only [binInt, mkInt_eq] at h
    split at h
    · cases h
    · rename_i hb
      injection h with h; subst h; refine ⟨_, by simp [binOp, Op.intDiv, hb]; rfl, ?_⟩; simp [VRel]
  | and =>
    simp only [binInt, mkInt_eq] at h
    injection h with h; subst h
    refine ⟨_, by simp only [binOp, Op.intBits, ne_eq, not_true_eq_false, if_false, Sem.run_pure]; rfl, ?_⟩
    simp only [VRel, bits, BitVec.toNat_and, ofInt_toNat]
  | or =>
    simp only [binInt, mkInt_eq] at h
    injection h with h; subst h
    refine ⟨_, by simp only [binOp, Op.intBits, ne_eq, not_true_eq_false, if_false, Sem.run_pure]; rfl, ?_⟩
    simp only [VRel, bits, BitVec.toNat_or, ofInt_toNat]
  | xor =>
    simp only [binInt, mkInt_eq] at h
    injection h with h; subst h
    refine ⟨_, by simp only [binOp, Op.intBits, ne_eq, not_true_eq_false, if_false, Sem.run_pure]; rfl, ?_⟩
    simp only [VRel, bits, BitVec.toNat_xor, ofInt_toNat]
  | andNot =>
    simp only [binInt, mkInt_eq] at h
    injection h with h; subst h
    refine ⟨_, by simp only [binOp, Op.intBits, ne_eq, not_true_eq_false, if_false, Sem.run_pure]; rfl, ?_⟩
    simp only [VRel, bits, BitVec.toNat_and, BitVec.toNat_not, ofInt_toNat]
  | add | sub | mul =>
    simp only [binInt, mkInt_eq] at h
    injection h with h; subst h; refine ⟨_, by simp [binOp, Op.intArith]; rfl, ?_⟩; simp [VRel]
  | eql | neq | lss | leq | gtr | geq =>
    simp only [binInt] at h
    injection h with h; subst h; refine ⟨_, by simp [binOp, Op.intCmp]; rfl, ?_⟩; simp [VRel]

theorem strLess_eq : ∀ (a b : List UInt8), Op.bytesLess a b = strLess a b
  | [], [] => rfl
  | [], _ :: _ => rfl
  | _ :: _, [] => rfl
  | a :: x, b :: y => by simp [Op.bytesLess, strLess, strLess_eq x y]

theorem binA_run {op : BinOp} {x y v : AV} {a b : Value} (hx : VRel P β x a) (hy : VRel P β y b) (h : binA op x y = some v) (t : TypeId) (w : World) :
    ∃ u, (binOp op t a b).run P w = .ok u w ∧ VRel P β v u := by
  unfold binA at h
  split at h
  · rename_i k m j n
    simp only [VRel] at hx hy
    subst hx; subst hy
    split at h
    · split at h
      · cases h
      · rename_i hb
        simp only [mkInt_eq] at h; injection h with h; subst h
        refine ⟨_, by simp only [binOp, Op.shift]; rw [if_neg hb]; rfl, ?_⟩
        simp only [VRel, Nat.min_def]
    · split at h
      · cases h
      · rename_i hb
        simp only [mkInt_eq] at h; injection h with h; subst h
        refine ⟨_, by simp only [binOp, Op.shift]; rw [if_neg hb]; rfl, ?_⟩
        simp only [VRel, Nat.min_def]
    · rename_i h1 h2
      split at h
      · rename_i hj; subst hj
        exact binInt_run h (fun e => h1 e) (fun e => h2 e) t w
      · cases h
  · rename_i a' b'
    simp only [VRel] at hx hy
    obtain ⟨s, rfl, hs⟩ := hx
    obtain ⟨s', rfl, hs'⟩ := hy
    have e1 : s.toList = a' := by rw [← hs]; exact Go.ByteArray.toList_eq s
    have e2 : s'.toList = b' := by rw [← hs']; exact Go.ByteArray.toList_eq s'
    have l1 : s.size = a'.length := by rw [← hs]; simp
    have l2 : s'.size = b'.length := by rw [← hs']; simp
    cases op <;> simp only [binStr] at h <;> try (cases h; done)
    case add =>
      split at h
      · rename_i hl
        injection h with h; subst h
        refine ⟨.string (s ++ s'), ?_, ?_⟩
        · simp only [binOp, Op.stringOp]
          rw [if_neg]
          · rfl
          · have : IntKind.i64.max = 9223372036854775807 := by decide
            rw [this]; omega
        · simp only [VRel]; exact ⟨_, rfl, by rw [← hs, ← hs']; simp⟩
      · cases h
    all_goals
      injection h with h; subst h
      refine ⟨_, by simp only [binOp, Op.stringOp, e1, e2, strLess_eq]; rfl, ?_⟩
      simp [VRel]
  · cases h

theorem unA_run {op : UnOp} {x v : AV} {a : Value} (hx : VRel P β x a) (h : unA op x = some v) (w : World) : ∃ u, (Op.unary op a).run P w = .ok u w ∧ VRel P β v u := by
  unfold unA at h
  split at h
  · rename_i k n
    simp only [VRel] at hx; subst hx
    simp only [mkInt_eq] at h; injection h with h; subst h
    exact ⟨_, by simp only [Op.unary, Op.intArith]; rfl, by simp [VRel]⟩
  · rename_i k n
    simp only [VRel] at hx; subst hx
    simp only [mkInt_eq] at h; injection h with h; subst h
    refine ⟨_, by simp only [Op.unary, Op.intBits]; rfl, ?_⟩
    simp only [VRel, bits, BitVec.toNat_xor, ofInt_toNat]
  · rename_i b
    simp only [VRel] at hx; subst hx
    injection h with h; subst h
    exact ⟨_, by simp only [Op.unary]; rfl, by simp [VRel]⟩
  · cases h

theorem toList_eq (s : ByteArray) : s.toList = s.data.toList := by
  exact Go.ByteArray.toList_eq s

end
end Go.AE
