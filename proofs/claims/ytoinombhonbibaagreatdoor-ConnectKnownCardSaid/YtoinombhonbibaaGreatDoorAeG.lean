/-
  The evaluator's pure operations are the model's: all of them.
-/
import Derived.Test.YtoinombhonbibaaGreatDoorAeF
set_option linter.unusedSimpArgs false
set_option linter.unusedVariables false
set_option linter.unusedSectionVars false
namespace Go.AE

section
variable {P : Program} {β : Inj} {ρ : Operand → Value}

/-- equality at one level, whatever the depth. -/
theorem eqIn_one {t : TypeId} {d : TypeDesc} (hu : P.underlying t = some d) {a b : Value} {r : Bool} (w : World)
    (h : (d = .bool ∧ ∃ x y, a = .bool x ∧ b = .bool y ∧ r = (x == y)) ∨
      ((∃ e, d = .pointer e) ∧ ((a = .pointer none ∧ b = .pointer none ∧ r = true) ∨ (a = .pointer none ∧ (∃ x, b = .pointer (some x)) ∧ r = false) ∨ ((∃ x, a = .pointer (some x)) ∧ b = .pointer none ∧ r = false))) ∨
      ((∃ e, d = .slice e) ∧ ((a = .slice none 0 0 ∧ b = .slice none 0 0 ∧ r = true) ∨ (a = .slice none 0 0 ∧ (∃ x m n, b = .slice (some x) m n) ∧ r = false) ∨ ((∃ x m n, a = .slice (some x) m n) ∧ b = .slice none 0 0 ∧ r = false))) ∨
      ((∃ e f, d = .map e f) ∧ ((a = .map none ∧ b = .map none ∧ r = true) ∨ (a = .map none ∧ (∃ x, b = .map (some x)) ∧ r = false) ∨ ((∃ x, a = .map (some x)) ∧ b = .map none ∧ r = false))) ∨
      ((∃ e f g, d = .func e f g) ∧ ((a = .nilFunc ∧ b = .nilFunc ∧ r = true) ∨ (a = .nilFunc ∧ (∃ x y z, b = .func x y z) ∧ r = false) ∨ ((∃ x y z, a = .func x y z) ∧ b = .nilFunc ∧ r = false)))) (n : Nat) :
    (Op.equalIn (n + 1) t a b).run P w = .ok r w := by
  rcases h with ⟨rfl, x, y, rfl, rfl, rfl⟩ | ⟨⟨e, rfl⟩, h⟩ | ⟨⟨e, rfl⟩, h⟩ | ⟨⟨e, f, rfl⟩, h⟩ | ⟨⟨e, f, g, rfl⟩, h⟩
  · simp [Op.equalIn, run_underlying hu]
  · rcases h with ⟨rfl, rfl, rfl⟩ | ⟨rfl, ⟨x, rfl⟩, rfl⟩ | ⟨⟨x, rfl⟩, rfl, rfl⟩ <;> simp [Op.equalIn, run_underlying hu]
  · rcases h with ⟨rfl, rfl, rfl⟩ | ⟨rfl, ⟨x, m, n, rfl⟩, rfl⟩ | ⟨⟨x, m, n, rfl⟩, rfl, rfl⟩ <;> simp [Op.equalIn, run_underlying hu]
  · rcases h with ⟨rfl, rfl, rfl⟩ | ⟨rfl, ⟨x, rfl⟩, rfl⟩ | ⟨⟨x, rfl⟩, rfl, rfl⟩ <;> simp [Op.equalIn, run_underlying hu]
  · rcases h with ⟨rfl, rfl, rfl⟩ | ⟨rfl, ⟨x, y, z, rfl⟩, rfl⟩ | ⟨⟨x, y, z, rfl⟩, rfl, rfl⟩ <;> simp [Op.equalIn, run_underlying hu]

theorem equal_one {t : TypeId} {a b : Value} {r : Bool} {w : World} (h : ∀ n, (Op.equalIn (n + 1) t a b).run P w = .ok r w) : (Op.equal t a b).run P w = .ok r w := h 9999

theorem aEq_run {k : EqK} {x y : AV} {r : Bool} {t : TypeId} {neg : Bool} {iop : IOp} (hc : cEq P neg t = some iop) (hi : iop = .eq neg k) (h : aEq k x y = some r) {a b : Value} (hx : VRel P β x a) (hy : VRel P β y b)
    (o1 o2 : Operand) (w : World) :
    (do eqGuard (if neg then .neq else .eql) t o1 o2 a b; binOp (if neg then .neq else .eql) t a b : Sem Value).run P w = .ok (.bool (if neg then !r else r)) w := by
  subst hi
  unfold cEq at hc
  have plain : ∀ (a b : Value), (match a, b with | .nilIface, .nilIface => False | .agg _, .agg _ => False | _, _ => True) → (eqGuard (if neg then .neq else .eql) t o1 o2 a b).run P w = .ok () w := by
    intro a b hab
    cases neg <;> cases a <;> cases b <;> first | exact hab.elim | simp [eqGuard]
  have eqs : ∀ (a b : Value), (∀ k m n j, ¬ (a = .int k m ∧ b = .int j n)) → (∀ k m n j, ¬ (a = .float k m ∧ b = .float j n)) → (∀ k m n i j p q, ¬ (a = .complex k m i ∧ b = .complex j n p ∧ q = 0)) →
      (∀ m n, ¬ (a = .string m ∧ b = .string n)) → (Op.equal t a b).run P w = .ok r w → (binOp (if neg then .neq else .eql) t a b).run P w = .ok (.bool (if neg then !r else r)) w := by
    intro a b h1 h2 h3 h4 he
    cases neg
    · simp only [Bool.false_eq_true, if_false]
      unfold binOp
      split <;> first
        | exact absurd ⟨rfl, rfl⟩ (h1 _ _ _ _)
        | exact absurd ⟨rfl, rfl⟩ (h2 _ _ _ _)
        | exact absurd ⟨rfl, rfl, rfl⟩ (h3 _ _ _ _ _ _ _)
        | exact absurd ⟨rfl, rfl⟩ (h4 _ _)
        | (simp [he]; done)
        | contradiction
        | skip
    · simp only [if_true]
      unfold binOp
      split <;> first
        | exact absurd ⟨rfl, rfl⟩ (h1 _ _ _ _)
        | exact absurd ⟨rfl, rfl⟩ (h2 _ _ _ _)
        | exact absurd ⟨rfl, rfl, rfl⟩ (h3 _ _ _ _ _ _ _)
        | exact absurd ⟨rfl, rfl⟩ (h4 _ _)
        | (simp [he]; done)
        | contradiction
        | skip
  have fin : ∀ (a b : Value), (match a, b with | .nilIface, .nilIface => False | .agg _, .agg _ => False | _, _ => True) → (∀ k m n j, ¬ (a = .int k m ∧ b = .int j n)) → (∀ k m n j, ¬ (a = .float k m ∧ b = .float j n)) →
      (∀ k m n i j p q, ¬ (a = .complex k m i ∧ b = .complex j n p ∧ q = 0)) → (∀ m n, ¬ (a = .string m ∧ b = .string n)) → (Op.equal t a b).run P w = .ok r w →
      (do eqGuard (if neg then .neq else .eql) t o1 o2 a b; binOp (if neg then .neq else .eql) t a b : Sem Value).run P w = .ok (.bool (if neg then !r else r)) w := by
    intro a b h0 h1 h2 h3 h4 he
    simp only [Sem.run_bind, plain a b h0, Result.andThen_ok, eqs a b h1 h2 h3 h4 he]
  split at hc
  · rename_i hu
    injection hc with hc; injection hc with _ hk; subst hk
    unfold aEq at h
    split at h <;> first | (cases ‹EqK.bool = _›; done) | skip
    all_goals first | (cases h; done) | skip
    · simp only [VRel] at hx hy; subst hx; subst hy
      injection h with h
      refine fin _ _ trivial (by rintro _ _ _ _ ⟨h, _⟩; cases h) (by rintro _ _ _ _ ⟨h, _⟩; cases h) (by rintro _ _ _ _ _ _ _ ⟨h, _⟩; cases h) (by rintro _ _ ⟨h, _⟩; cases h) ?_
      exact equal_one (eqIn_one hu w (.inl ⟨rfl, _, _, rfl, rfl, h.symm⟩))
  · injection hc with hc; cases hc
  · injection hc with hc; cases hc
  · rename_i e hu
    injection hc with hc; injection hc with _ hk; subst hk
    unfold aEq at h
    split at h <;> first | (cases ‹EqK.ptr = _›; done) | skip
    all_goals first | (cases h; done) | skip
    · simp only [VRel] at hx hy; subst hx; subst hy
      injection h with h; subst h
      refine fin _ _ trivial (by rintro _ _ _ _ ⟨h, _⟩; cases h) (by rintro _ _ _ _ ⟨h, _⟩; cases h) (by rintro _ _ _ _ _ _ _ ⟨h, _⟩; cases h) (by rintro _ _ ⟨h, _⟩; cases h) ?_
      exact equal_one (eqIn_one hu w (.inr (.inl ⟨⟨_, rfl⟩, .inl ⟨rfl, rfl, rfl⟩⟩)))
    · simp only [VRel] at hx hy; subst hx; obtain ⟨L, _, rfl⟩ := hy
      injection h with h; subst h
      refine fin _ _ trivial (by rintro _ _ _ _ ⟨h, _⟩; cases h) (by rintro _ _ _ _ ⟨h, _⟩; cases h) (by rintro _ _ _ _ _ _ _ ⟨h, _⟩; cases h) (by rintro _ _ ⟨h, _⟩; cases h) ?_
      exact equal_one (eqIn_one hu w (.inr (.inl ⟨⟨_, rfl⟩, .inr (.inl ⟨rfl, ⟨_, rfl⟩, rfl⟩)⟩)))
    · simp only [VRel] at hx hy; subst hy; obtain ⟨L, _, rfl⟩ := hx
      injection h with h; subst h
      refine fin _ _ trivial (by rintro _ _ _ _ ⟨h, _⟩; cases h) (by rintro _ _ _ _ ⟨h, _⟩; cases h) (by rintro _ _ _ _ _ _ _ ⟨h, _⟩; cases h) (by rintro _ _ ⟨h, _⟩; cases h) ?_
      exact equal_one (eqIn_one hu w (.inr (.inl ⟨⟨_, rfl⟩, .inr (.inr ⟨⟨_, rfl⟩, rfl, rfl⟩)⟩)))
  · rename_i e hu
    injection hc with hc; injection hc with _ hk; subst hk
    unfold aEq at h
    split at h <;> first | (cases ‹EqK.slice = _›; done) | skip
    all_goals first | (cases h; done) | skip
    · simp only [VRel] at hx hy; subst hx; subst hy
      injection h with h; subst h
      refine fin _ _ trivial (by rintro _ _ _ _ ⟨h, _⟩; cases h) (by rintro _ _ _ _ ⟨h, _⟩; cases h) (by rintro _ _ _ _ _ _ _ ⟨h, _⟩; cases h) (by rintro _ _ ⟨h, _⟩; cases h) ?_
      exact equal_one (eqIn_one hu w (.inr (.inr (.inl ⟨⟨_, rfl⟩, .inl ⟨rfl, rfl, rfl⟩⟩))))
    · simp only [VRel] at hx hy; subst hx; obtain ⟨L, _, _, _, _, _, rfl, _⟩ := hy
      injection h with h; subst h
      refine fin _ _ trivial (by rintro _ _ _ _ ⟨h, _⟩; cases h) (by rintro _ _ _ _ ⟨h, _⟩; cases h) (by rintro _ _ _ _ _ _ _ ⟨h, _⟩; cases h) (by rintro _ _ ⟨h, _⟩; cases h) ?_
      exact equal_one (eqIn_one hu w (.inr (.inr (.inl ⟨⟨_, rfl⟩, .inr (.inl ⟨rfl, ⟨_, _, _, rfl⟩, rfl⟩)⟩))))
    · simp only [VRel] at hx hy; subst hy; obtain ⟨L, _, _, _, _, _, rfl, _⟩ := hx
      injection h with h; subst h
      refine fin _ _ trivial (by rintro _ _ _ _ ⟨h, _⟩; cases h) (by rintro _ _ _ _ ⟨h, _⟩; cases h) (by rintro _ _ _ _ _ _ _ ⟨h, _⟩; cases h) (by rintro _ _ ⟨h, _⟩; cases h) ?_
      exact equal_one (eqIn_one hu w (.inr (.inr (.inl ⟨⟨_, rfl⟩, .inr (.inr ⟨⟨_, _, _, rfl⟩, rfl, rfl⟩)⟩))))
  · rename_i e e' hu
    injection hc with hc; injection hc with _ hk; subst hk
    unfold aEq at h
    split at h <;> first | (cases ‹EqK.map = _›; done) | skip
    all_goals first | (cases h; done) | skip
    · simp only [VRel] at hx hy; subst hx; subst hy
      injection h with h; subst h
      refine fin _ _ trivial (by rintro _ _ _ _ ⟨h, _⟩; cases h) (by rintro _ _ _ _ ⟨h, _⟩; cases h) (by rintro _ _ _ _ _ _ _ ⟨h, _⟩; cases h) (by rintro _ _ ⟨h, _⟩; cases h) ?_
      exact equal_one (eqIn_one hu w (.inr (.inr (.inr (.inl ⟨⟨_, _, rfl⟩, .inl ⟨rfl, rfl, rfl⟩⟩)))))
    · simp only [VRel] at hx hy; subst hx; obtain ⟨L, _, rfl⟩ := hy
      injection h with h; subst h
      refine fin _ _ trivial (by rintro _ _ _ _ ⟨h, _⟩; cases h) (by rintro _ _ _ _ ⟨h, _⟩; cases h) (by rintro _ _ _ _ _ _ _ ⟨h, _⟩; cases h) (by rintro _ _ ⟨h, _⟩; cases h) ?_
      exact equal_one (eqIn_one hu w (.inr (.inr (.inr (.inl ⟨⟨_, _, rfl⟩, .inr (.inl ⟨rfl, ⟨_, rfl⟩, rfl⟩)⟩)))))
    · simp only [VRel] at hx hy; subst hy; obtain ⟨L, _, rfl⟩ := hx
      injection h with h; subst h
      refine fin _ _ trivial (by rintro _ _ _ _ ⟨h, _⟩; cases h) (by rintro _ _ _ _ ⟨h, _⟩; cases h) (by rintro _ _ _ _ _ _ _ ⟨h, _⟩; cases h) (by rintro _ _ ⟨h, _⟩; cases h) ?_
      exact equal_one (eqIn_one hu w (.inr (.inr (.inr (.inl ⟨⟨_, _, rfl⟩, .inr (.inr ⟨⟨_, rfl⟩, rfl, rfl⟩)⟩)))))
  · rename_i e e' e'' hu
    injection hc with hc; injection hc with _ hk; subst hk
    unfold aEq at h
    split at h <;> first | (cases ‹EqK.func = _›; done) | skip
    all_goals first | (cases h; done) | skip
    · simp only [VRel] at hx hy; subst hx; subst hy
      injection h with h; subst h
      refine fin _ _ trivial (by rintro _ _ _ _ ⟨h, _⟩; cases h) (by rintro _ _ _ _ ⟨h, _⟩; cases h) (by rintro _ _ _ _ _ _ _ ⟨h, _⟩; cases h) (by rintro _ _ ⟨h, _⟩; cases h) ?_
      exact equal_one (eqIn_one hu w (.inr (.inr (.inr (.inr ⟨⟨_, _, _, rfl⟩, .inl ⟨rfl, rfl, rfl⟩⟩)))))
    · simp only [VRel] at hx hy; subst hx; obtain ⟨_, _, rfl, _⟩ := hy
      injection h with h; subst h
      refine fin _ _ trivial (by rintro _ _ _ _ ⟨h, _⟩; cases h) (by rintro _ _ _ _ ⟨h, _⟩; cases h) (by rintro _ _ _ _ _ _ _ ⟨h, _⟩; cases h) (by rintro _ _ ⟨h, _⟩; cases h) ?_
      exact equal_one (eqIn_one hu w (.inr (.inr (.inr (.inr ⟨⟨_, _, _, rfl⟩, .inr (.inl ⟨rfl, ⟨_, _, _, rfl⟩, rfl⟩)⟩)))))
    · simp only [VRel] at hx hy; subst hy; obtain ⟨_, _, rfl, _⟩ := hx
      injection h with h; subst h
      refine fin _ _ trivial (by rintro _ _ _ _ ⟨h, _⟩; cases h) (by rintro _ _ _ _ ⟨h, _⟩; cases h) (by rintro _ _ _ _ _ _ _ ⟨h, _⟩; cases h) (by rintro _ _ ⟨h, _⟩; cases h) ?_
      exact equal_one (eqIn_one hu w (.inr (.inr (.inr (.inr ⟨⟨_, _, _, rfl⟩, .inr (.inr ⟨⟨_, _, _, rfl⟩, rfl, rfl⟩)⟩)))))
  all_goals first | (cases hc; done) | skip
  all_goals
    rename_i hu
    split at hc
    · rename_i ks hks
      split at hc
      · cases hc
      · rename_i hg
        injection hc with hc; injection hc with _ hk; subst hk
        unfold aEq at h
        split at h <;> first | (cases ‹EqK.flat _ = _›; done) | skip
        all_goals first | (cases h; done) | skip
        rename_i ks' as bs he
        injection he with he; subst he
        simp only [VRel] at hx hy
        obtain ⟨vs, rfl, hvs⟩ := hx
        obtain ⟨us, rfl, hus⟩ := hy
        have hgd : (eqGuard (if neg then .neq else .eql) t o1 o2 (.agg vs) (.agg us)).run P w = .ok () w := by
          cases neg <;> simp [eqGuard, hg]
        have heq := flat_eq 8 t ks hks 10000 (by omega) as bs _ _ r hvs hus h (.agg vs) (.agg us) (by unfold MkV; simp only [hu]) (by unfold MkV; simp only [hu]) w
        have := eqs (.agg vs) (.agg us) (by rintro _ _ _ _ ⟨h, _⟩; cases h) (by rintro _ _ _ _ ⟨h, _⟩; cases h) (by rintro _ _ _ _ _ _ _ ⟨h, _⟩; cases h) (by rintro _ _ ⟨h, _⟩; cases h) heq
        simp only [Sem.run_bind, hgd, Result.andThen_ok, this]
    · cases hc

end
end Go.AE
