/-
  Values that are compared cell by cell; keys of maps.
-/
import Derived.Test.YtoinombhonbibaaGreatDoorAeE
import Derived.ChangeKeysEq
set_option linter.unusedSimpArgs false
set_option linter.unusedVariables false
set_option linter.unusedSectionVars false
namespace Go.AE

section
variable {P : Program} {β : Inj}

theorem cksEq_append : ∀ (ks ls : List CK) (xs ys : List AV) (r : Bool), cksEq (ks ++ ls) xs ys = some r →
    ∃ a b, cksEq ks (xs.take ks.length) (ys.take ks.length) = some a ∧ cksEq ls (xs.drop ks.length) (ys.drop ks.length) = some b ∧ r = (a && b)
  | [], ls, xs, ys, r, h => ⟨true, r, by simp [cksEq], by simpa using h, by simp⟩
  | k :: ks, ls, xs, ys, r, h => by
    cases xs with
    | nil => simp [cksEq] at h
    | cons x xs =>
      cases ys with
      | nil => simp [cksEq] at h
      | cons y ys =>
        simp only [List.cons_append, cksEq] at h
        split at h
        · rename_i c hc
          split at h
          · rename_i d hd
            injection h with h
            obtain ⟨a, b, h1, h2, h3⟩ := cksEq_append ks ls xs ys d hd
            exact ⟨c && a, b, by simp [cksEq, hc, h1], by simpa using h2, by rw [← h, h3, Bool.and_assoc]⟩
          · cases h
        · cases h

theorem cksEq_length : ∀ {ks : List CK} {xs ys : List AV} {r : Bool}, cksEq ks xs ys = some r → xs.length = ks.length ∧ ys.length = ks.length
  | [], xs, ys, r, h => by cases xs <;> cases ys <;> simp [cksEq] at h <;> simp
  | k :: ks, [], ys, r, h => by simp [cksEq] at h
  | k :: ks, x :: xs, [], r, h => by simp [cksEq] at h
  | k :: ks, x :: xs, y :: ys, r, h => by
    simp only [cksEq] at h
    split at h
    · split at h
      · rename_i d hd
        obtain ⟨h1, h2⟩ := cksEq_length hd
        simp [h1, h2]
      · cases h
    · cases h

/-- v is the value of type t with these cells. -/
def MkV (P : Program) (t : TypeId) (cs : List Value) (v : Value) : Prop :=
  match P.underlying t with
  | some (.struct _) | some (.array ..) => v = .agg cs.toArray
  | _ => cs = [v]

theorem flatK_und {d : Nat} {t : TypeId} {ks : List CK} (h : flatK P d t = some ks) : ∃ u, P.underlying t = some u := by
  cases d with
  | zero => simp [flatK] at h
  | succ d =>
    simp only [flatK] at h
    split at h <;> first | exact ⟨_, by assumption⟩ | cases h

/-- A part of an aggregate. -/
theorem flat_part {d : Nat} {t : TypeId} {ks : List CK} (h : flatK P d t = some ks) (hs : szOf P t = some ks.length) {cs : Array Value} {off : Nat} (hl : off + ks.length ≤ cs.size) (w : World) :
    ∃ v, (part t cs off).run P w = .ok v w ∧ MkV P t ((cs.toList.drop off).take ks.length) v := by
  have agg : (match P.underlying t with | some (.struct _) | some (.array ..) => True | _ => False) → ∃ v, (part t cs off).run P w = .ok v w ∧ MkV P t ((cs.toList.drop off).take ks.length) v := by
    intro ha
    have e : (cs.extract off (off + ks.length)) = ((cs.toList.drop off).take ks.length).toArray := by
      apply Array.ext'; simp
    refine ⟨.agg (cs.extract off (off + ks.length)), ?_, ?_⟩
    · unfold part isAgg
      split at ha
      · rename_i hu; simp [run_underlying hu, run_szOf hs]
      · rename_i hu; simp [run_underlying hu, run_szOf hs]
      · exact ha.elim
    · unfold MkV
      split at ha
      · rename_i hu; simp only [hu, e]
      · rename_i hu; simp only [hu, e]
      · exact ha.elim
  have one : ks.length = 1 → (match P.underlying t with | some (.struct _) | some (.array ..) => False | _ => True) → ∃ v, (part t cs off).run P w = .ok v w ∧ MkV P t ((cs.toList.drop off).take ks.length) v := by
    intro h1 ha
    obtain ⟨v, hv⟩ : ∃ v, cs[off]? = some v := ⟨cs[off]'(by omega), by simp [Array.getElem?_eq_getElem (show off < cs.size by omega)]⟩
    obtain ⟨u, hu⟩ := flatK_und h
    have hna : (isAgg t).run P w = .ok false w := by
      simp only [hu] at ha
      cases u <;> first | exact ha.elim | simp [isAgg, run_underlying hu]
    refine ⟨v, by simp [part, hna, hv], ?_⟩
    have e : (cs.toList.drop off).take ks.length = [v] := by
      rw [h1]
      apply List.ext_getElem?
      intro i
      cases i with
      | zero => simpa using hv
      | succ i => simp [List.getElem?_take]
    rw [e]
    unfold MkV
    simp only [hu] at ha ⊢
    cases u <;> first | exact ha.elim | (simp; done) | trivial
  cases d with
  | zero => simp [flatK] at h
  | succ d =>
    simp only [flatK] at h
    split at h
    · rename_i hu; injection h with h; exact one (by rw [← h]; rfl) (by simp [hu])
    · rename_i hu; injection h with h; exact one (by rw [← h]; rfl) (by simp [hu])
    · rename_i hu; injection h with h; exact one (by rw [← h]; rfl) (by simp [hu])
    · rename_i hu; exact agg (by simp [hu])
    · rename_i hu; exact agg (by simp [hu])
    · cases h

theorem ckEq_cells {k : CK} {a b : AV} {r : Bool} (h : ckEq k a b = some r) {v u : Value} (hv : VRel P β a v) (hu : VRel P β b u) :
    (k = .bool ∧ ∃ x y, v = .bool x ∧ u = .bool y ∧ r = (x == y)) ∨ (∃ j, k = .int j ∧ ∃ x y, v = .int j x ∧ u = .int j y ∧ r = (x == y)) ∨
    (k = .str ∧ ∃ x y : ByteArray, v = .string x ∧ u = .string y ∧ r = (x.toList == y.toList)) := by
  unfold ckEq at h
  split at h
  · simp only [VRel] at hv hu; subst hv; subst hu; injection h with h; exact .inl ⟨rfl, _, _, rfl, rfl, h.symm⟩
  · simp only [VRel] at hv hu; subst hv; subst hu
    split at h
    · rename_i hk; obtain ⟨rfl, rfl⟩ := hk; injection h with h; exact .inr (.inl ⟨_, rfl, _, _, rfl, rfl, h.symm⟩)
    · cases h
  · simp only [VRel] at hv hu
    obtain ⟨x, rfl, rfl⟩ := hv
    obtain ⟨y, rfl, rfl⟩ := hu
    injection h with h
    exact .inr (.inr ⟨rfl, x, y, rfl, rfl, by rw [← h, Go.ByteArray.toList_eq, Go.ByteArray.toList_eq]⟩)
  · cases h

/-- One cell. -/
theorem eq_cell {k : CK} {a b : AV} {r : Bool} (h : ckEq k a b = some r) {v u : Value} (hv : VRel P β a v) (hu : VRel P β b u) {t : TypeId}
    (ht : (k = .bool ∧ P.underlying t = some .bool) ∨ (∃ j, k = .int j ∧ P.underlying t = some (.int j)) ∨ (k = .str ∧ P.underlying t = some .string)) (D : Nat) (w : World) :
    (Op.equalIn (D + 1) t v u).run P w = .ok r w := by
  rcases ckEq_cells h hv hu with ⟨rfl, x, y, rfl, rfl, rfl⟩ | ⟨j, rfl, x, y, rfl, rfl, rfl⟩ | ⟨rfl, x, y, rfl, rfl, rfl⟩
  · rcases ht with ⟨_, ht⟩ | ⟨j, e, _⟩ | ⟨e, _⟩
    · simp [Op.equalIn, run_underlying ht]
    · cases e
    · cases e
  · rcases ht with ⟨e, ht⟩ | ⟨j', e, ht⟩ | ⟨e, _⟩
    · cases e
    · injection e with e; subst e; exact run_equalIn_int w D t j j x y ht
    · cases e
  · rcases ht with ⟨e, ht⟩ | ⟨j', e, ht⟩ | ⟨e, ht⟩
    · cases e
    · cases e
    · exact run_equalIn_string w D t x y ht

theorem eqItems_run {D : Nat} {e : TypeId} {c : Nat} {ks : List CK} (hpos : 0 < ks.length) (hc : c = ks.length) {xs ys : List AV} {vs us : Array Value} (hv : VRels P β xs vs.toList) (hu : VRels P β ys us.toList)
    (hpart : ∀ (cs : Array Value) (off : Nat) (w : World), off + ks.length ≤ cs.size → ∃ v, (part e cs off).run P w = .ok v w ∧ MkV P e ((cs.toList.drop off).take ks.length) v)
    (IH : ∀ (xs ys : List AV) (vs us : List Value) (r : Bool), VRels P β xs vs → VRels P β ys us → cksEq ks xs ys = some r → ∀ (v u : Value), MkV P e vs v → MkV P e us u → ∀ (w : World), (Op.equalIn D e v u).run P w = .ok r w) :
    ∀ (n k : Nat) (r : Bool) (w : World), cksEq (List.replicate n ks).flatten (xs.drop (k * c)) (ys.drop (k * c)) = some r →
      (Op.eqItems D e c vs us (List.range' k n)).run P w = .ok r w := by
  intro n
  induction n with
  | zero =>
    intro k r w h
    simp only [List.replicate_zero, List.flatten_nil] at h
    have hl := cksEq_length h
    have : xs.drop (k * c) = [] := List.eq_nil_of_length_eq_zero (by simpa using hl.1)
    have h2 : ys.drop (k * c) = [] := List.eq_nil_of_length_eq_zero (by simpa using hl.2)
    rw [this, h2] at h
    simp [cksEq] at h
    subst h
    simp [Op.eqItems]
  | succ n ih =>
    intro k r w h
    simp only [List.replicate_succ, List.flatten_cons] at h
    have hl := cksEq_length h
    simp only [List.length_append, List.length_drop] at hl
    obtain ⟨a, b, h1, h2, rfl⟩ := cksEq_append _ _ _ _ _ h
    have hvl := hv.length
    have hul := hu.length
    simp only [Array.length_toList] at hvl hul
    obtain ⟨v, p1, m1⟩ := hpart vs (k * c) w (by omega)
    obtain ⟨u, p2, m2⟩ := hpart us (k * c) w (by omega)
    have heq := IH _ _ _ _ a ((hv.drop (k * c)).take ks.length) ((hu.drop (k * c)).take ks.length) h1 v u m1 m2 w
    have hrec := ih (k + 1) b w (by
      rw [Nat.add_mul, Nat.one_mul]
      simp only [List.drop_drop] at h2
      rw [← hc] at h2
      exact h2)
    simp only [List.range'_succ, Op.eqItems, Sem.run_bind, p1, p2, heq, Result.andThen_ok]
    cases a
    · simp
    · simpa using hrec

theorem flat_eq : ∀ (d : Nat) (t : TypeId) (ks : List CK), flatK P d t = some ks → ∀ (D : Nat), d ≤ D → ∀ (xs ys : List AV) (vs us : List Value) (r : Bool), VRels P β xs vs → VRels P β ys us →
    cksEq ks xs ys = some r → ∀ (v u : Value), MkV P t vs v → MkV P t us u → ∀ (w : World), (Op.equalIn D t v u).run P w = .ok r w := by
  intro d
  induction d with
  | zero => intro t ks h; simp [flatK] at h
  | succ d ih =>
    intro t ks h D hD xs ys vs us r hv hu hc v u mv mu w
    obtain ⟨D, rfl⟩ : ∃ m, D = m + 1 := ⟨D - 1, by omega⟩
    have cell : ∀ k, ks = [k] → ((k = .bool ∧ P.underlying t = some .bool) ∨ (∃ j, k = .int j ∧ P.underlying t = some (.int j)) ∨ (k = .str ∧ P.underlying t = some .string)) →
        vs = [v] → us = [u] → (Op.equalIn (D + 1) t v u).run P w = .ok r w := by
      rintro k rfl ht rfl rfl
      have hl := cksEq_length hc
      match xs, ys, hl with
      | [x], [y], _ =>
        obtain ⟨_, e1, r1⟩ := hv.one
        obtain ⟨_, e2, r2⟩ := hu.one
        injection e1 with e1 _; injection e2 with e2 _
        subst e1; subst e2
        simp only [cksEq] at hc
        split at hc
        · rename_i z hz
          simp at hc; subst hc
          exact eq_cell hz r1 r2 ht D w
        · cases hc
    have h' := h
    simp only [flatK] at h
    split at h
    · rename_i hund; injection h with h
      unfold MkV at mv mu; simp only [hund] at mv mu
      exact cell _ h.symm (.inl ⟨rfl, hund⟩) mv mu
    · rename_i k hund; injection h with h
      unfold MkV at mv mu; simp only [hund] at mv mu
      exact cell _ h.symm (.inr (.inl ⟨k, rfl, hund⟩)) mv mu
    · rename_i hund; injection h with h
      unfold MkV at mv mu; simp only [hund] at mv mu
      exact cell _ h.symm (.inr (.inr ⟨rfl, hund⟩)) mv mu
    · rename_i n e hund
      split at h
      · rename_i ls hls
        split at h
        · rename_i hsz
          obtain ⟨hpos, hsz⟩ := hsz
          injection h with h; subst h
          unfold MkV at mv mu; simp only [hund] at mv mu
          subst mv; subst mu
          obtain ⟨i, hi⟩ : ∃ i, P.info? e = some i := by
            unfold szOf at hsz
            split at hsz
            · rename_i i hi; exact ⟨i, hi⟩
            · cases hsz
          rw [run_equalIn_array w D _ _ hund hi, List.range_eq_range']
          have hco : P.cellsOf e = ls.length := by
            rw [szOf_info hi] at hsz
            simp [Program.cellsOf, hi]; injection hsz
          rw [hco]
          exact eqItems_run hpos rfl (by simpa using hv) (by simpa using hu) (fun cs off w hl => flat_part hls hsz hl w)
            (fun xs ys vs us r a b c v u mv mu w => ih e ls hls D (by omega) xs ys vs us r a b c v u mv mu w) n 0 r w (by simpa using hc)
        · cases h
      · cases h
    · rename_i fs hund
      split at h
      · cases h
      · rename_i hst
        unfold MkV at mv mu; simp only [hund] at mv mu
        subst mv; subst mu
        have hfo : P.fieldsOf t = fs := by simp [Program.fieldsOf, hund]
        rw [run_equalIn_struct w D t _ _ (by rw [hfo]; exact hund) (by simpa using hst), hfo]
        have key : ∀ (L : List Field) (off : Nat) (ks : List CK) (r : Bool), flatGo P (fun u => flatK P d u) L off = some ks → cksEq ks (xs.drop off) (ys.drop off) = some r →
            (Op.eqFields D vs.toArray us.toArray L).run P w = .ok r w := by
          intro L
          induction L with
          | nil =>
            intro off ks r hgo hck
            simp [flatGo] at hgo; subst hgo
            have hl := cksEq_length hck
            have e1 : xs.drop off = [] := List.eq_nil_of_length_eq_zero (by simpa using hl.1)
            have e2 : ys.drop off = [] := List.eq_nil_of_length_eq_zero (by simpa using hl.2)
            rw [e1, e2] at hck
            simp [cksEq] at hck; subst hck
            simp [Op.eqFields]
          | cons f L ihL =>
            intro off ks r hgo hck
            simp only [flatGo] at hgo
            split at hgo
            · cases hgo
            · rename_i hno
              simp only [Bool.or_eq_true, decide_eq_true_eq, not_or, Decidable.not_not] at hno
              obtain ⟨hname, hoff⟩ := hno
              split at hgo
              · rename_i ls hls
                split at hgo
                · rename_i hsz
                  obtain ⟨hpos, hsz⟩ := hsz
                  split at hgo
                  · rename_i ms hms
                    injection hgo with hgo; subst hgo
                    have hl := cksEq_length hck
                    simp only [List.length_append, List.length_drop] at hl
                    obtain ⟨a, b, h1, h2, rfl⟩ := cksEq_append _ _ _ _ _ hck
                    have hvl := hv.length
                    have hul := hu.length
                    subst hoff
                    obtain ⟨v, p1, m1⟩ := flat_part hls hsz (cs := vs.toArray) (off := f.offset) (by simp; omega) w
                    obtain ⟨u, p2, m2⟩ := flat_part hls hsz (cs := us.toArray) (off := f.offset) (by simp; omega) w
                    have heq := ih f.type ls hls D (by omega) _ _ _ _ a ((hv.drop f.offset).take ls.length) ((hu.drop f.offset).take ls.length) h1 v u (by simpa using m1) (by simpa using m2) w
                    have hrec := ihL (f.offset + ls.length) ms b hms (by simpa [List.drop_drop] using h2)
                    simp only [Op.eqFields, hname, ne_eq, not_false_eq_true, if_true, Sem.run_bind, p1, p2, heq, Result.andThen_ok]
                    cases a
                    · simp
                    · simpa using hrec
                  · cases hgo
                · cases hgo
              · cases hgo
        exact key fs.toList 0 ks r h (by simpa using hc)
    · cases h

/-! ### Keys -/
theorem flat_check (em : Bool) : ∀ (d : Nat) (t : TypeId) (ks : List CK), flatK P d t = some ks → ∀ (D : Nat), d ≤ D → ∀ (xs : List AV) (vs : List Value) (r : Bool), VRels P β xs vs →
    cksEq ks xs xs = some r → ∀ (v : Value), MkV P t vs v → ∀ (w : World), (Instr.checkKey em D t v).run P w = .ok () w := by
  intro d
  induction d with
  | zero => intro t ks h; simp [flatK] at h
  | succ d ih =>
    intro t ks h D hD xs vs r hv hc v mv w
    obtain ⟨D, rfl⟩ : ∃ m, D = m + 1 := ⟨D - 1, by omega⟩
    simp only [flatK] at h
    split at h
    · rename_i hund; simp [Instr.checkKey, run_underlying hund]
    · rename_i k hund; simp [Instr.checkKey, run_underlying hund]
    · rename_i hund; simp [Instr.checkKey, run_underlying hund]
    · rename_i n e hund
      split at h
      · rename_i ls hls
        split at h
        · rename_i hsz
          obtain ⟨hpos, hsz⟩ := hsz
          injection h with h; subst h
          unfold MkV at mv; simp only [hund] at mv
          subst mv
          rw [Instr.checkKey]
          simp only [Sem.run_bind, run_underlying hund, Result.andThen_ok]
          simp only [Std.Legacy.Range.forIn_eq_forIn_range', Std.Legacy.Range.size, Nat.sub_zero, Nat.add_one_sub_one, Nat.div_one]
          have key : ∀ (n k : Nat) (r : Bool), cksEq (List.replicate n ls).flatten (xs.drop (k * ls.length)) (xs.drop (k * ls.length)) = some r →
              (forIn (m := Sem) (List.range' k n) PUnit.unit fun i _ => do
                Instr.checkKey em D e (← part e vs.toArray (i * (← sizeOf e)))
                pure (ForInStep.yield PUnit.unit)).run P w = .ok PUnit.unit w := by
            intro n
            induction n with
            | zero => intro k r _; simp
            | succ n ihn =>
              intro k r hk
              simp only [List.replicate_succ, List.flatten_cons] at hk
              have hl := cksEq_length hk
              simp only [List.length_append, List.length_drop] at hl
              obtain ⟨a, b, h1, h2, _⟩ := cksEq_append _ _ _ _ _ hk
              have hvl := hv.length
              obtain ⟨v, p1, m1⟩ := flat_part hls hsz (cs := vs.toArray) (off := k * ls.length) (by simp; omega) w
              have hch := ih e ls hls D (by omega) _ _ a ((hv.drop (k * ls.length)).take ls.length) h1 v (by simpa using m1) w
              have hrec := ihn (k + 1) b (by rw [Nat.add_mul, Nat.one_mul]; simpa only [List.drop_drop] using h2)
              simp only [List.range'_succ, List.forIn_cons, Sem.run_bind, run_szOf hsz, Result.andThen_ok, p1, hch, Sem.run_pure]
              simpa using hrec
          have := key n 0 r (by simpa using hc)
          simp at this
          simp [this]
        · cases h
      · cases h
    · rename_i fs hund
      split at h
      · cases h
      · unfold MkV at mv; simp only [hund] at mv
        subst mv
        rw [Instr.checkKey]
        simp only [Sem.run_bind, run_underlying hund, Result.andThen_ok]
        rw [← Array.forIn_toList]
        have key : ∀ (L : List Field) (off : Nat) (ks : List CK) (r : Bool), flatGo P (fun u => flatK P d u) L off = some ks → cksEq ks (xs.drop off) (xs.drop off) = some r →
            (forIn (m := Sem) L PUnit.unit fun f _ => do
              if f.name ≠ "_" then
                Instr.checkKey em D f.type (← part f.type vs.toArray f.offset)
                pure (ForInStep.yield PUnit.unit)
              else pure (ForInStep.yield PUnit.unit)).run P w = .ok PUnit.unit w := by
          intro L
          induction L with
          | nil => intro off ks r _ _; simp
          | cons f L ihL =>
            intro off ks r hgo hck
            simp only [flatGo] at hgo
            split at hgo
            · cases hgo
            · rename_i hno
              simp only [Bool.or_eq_true, decide_eq_true_eq, not_or, Decidable.not_not] at hno
              obtain ⟨hname, hoff⟩ := hno
              split at hgo
              · rename_i ls hls
                split at hgo
                · rename_i hsz
                  obtain ⟨hpos, hsz⟩ := hsz
                  split at hgo
                  · rename_i ms hms
                    injection hgo with hgo; subst hgo
                    have hl := cksEq_length hck
                    simp only [List.length_append, List.length_drop] at hl
                    obtain ⟨a, b, h1, h2, _⟩ := cksEq_append _ _ _ _ _ hck
                    have hvl := hv.length
                    subst hoff
                    obtain ⟨v, p1, m1⟩ := flat_part hls hsz (cs := vs.toArray) (off := f.offset) (by simp; omega) w
                    have hch := ih f.type ls hls D (by omega) _ _ a ((hv.drop f.offset).take ls.length) h1 v (by simpa using m1) w
                    have hrec := ihL (f.offset + ls.length) ms b hms (by simpa [List.drop_drop] using h2)
                    simp only [List.forIn_cons, Sem.run_bind, hname, ne_eq, not_false_eq_true, if_true, p1, hch, Result.andThen_ok, Sem.run_pure]
                    simpa using hrec
                  · cases hgo
                · cases hgo
              · cases hgo
        have := key fs.toList 0 ks r h (by simpa using hc)
        simp at this
        simp [this]
    · cases h

theorem sameBits_cells (n : Nat) : ∀ {ks : List CK} {xs ys : List AV} {vs us : List Value}, cksEq ks xs ys = some true → VRels P β xs vs → VRels P β ys us →
    ((us.zip vs).all fun (x, y) => Instr.sameBits n x y) = true
  | [], xs, ys, vs, us, h, hv, hu => by
    cases xs <;> cases ys <;> simp [cksEq] at h
    simp only [VRels] at hv hu; subst hv; subst hu; rfl
  | k :: ks, [], ys, vs, us, h, hv, hu => by simp [cksEq] at h
  | k :: ks, x :: xs, [], vs, us, h, hv, hu => by simp [cksEq] at h
  | k :: ks, x :: xs, y :: ys, vs, us, h, hv, hu => by
    obtain ⟨v, vs, rfl, r1, hv⟩ := hv.cons
    obtain ⟨u, us, rfl, r2, hu⟩ := hu.cons
    simp only [cksEq] at h
    split at h
    · rename_i a ha
      split at h
      · rename_i b hb
        injection h with h
        simp only [Bool.and_eq_true] at h
        obtain ⟨rfl, rfl⟩ := h
        simp only [List.zip_cons_cons, List.all_cons, Bool.and_eq_true]
        refine ⟨?_, sameBits_cells n hb hv hu⟩
        rcases ckEq_cells ha r1 r2 with ⟨_, x, y, rfl, rfl, e⟩ | ⟨j, _, x, y, rfl, rfl, e⟩ | ⟨_, x, y, rfl, rfl, e⟩
        · cases n <;> simp [Instr.sameBits] <;> exact (eq_of_beq e.symm).symm
        · cases n <;> simp [Instr.sameBits] <;> exact (eq_of_beq e.symm).symm
        · have : x.toList = y.toList := eq_of_beq e.symm
          cases n <;> simp only [Instr.sameBits] <;> rw [beq_toListBytes, this] <;> simp
      · cases h
    · cases h

end
end Go.AE
