/-
  The evaluator without a depth: the least predicate that the evaluator's step keeps. Its laws.
-/
import Derived.Test.YtoinombhonbibaaGreatDoorAeXY
set_option linter.unusedSimpArgs false
set_option linter.unusedVariables false
set_option linter.unusedSectionVars false
namespace Go.AE

/-- A predicate on jobs that grows with what is asked of the end. -/
structure JMono (X : Job → Prop) : Prop where
  code : ∀ {c : ICode} {e : Env} {H : Heap} {Q Q' : Out → Env → Heap → Prop}, (∀ x e H, Q x e H → Q' x e H) → X (.code c e H Q) → X (.code c e H Q')
  call : ∀ {f : Nat} {args : List AV} {H : Heap} {K K' : AV → Heap → Prop}, (∀ v H, K v H → K' v H) → X (.call f args H K) → X (.call f args H K')

section
variable {X Y : Job → Prop} (hXY : ∀ j, X j → Y j) (hY : JMono Y)
include hXY hY

theorem code_mono {c : ICode} {e : Env} {H : Heap} {Q Q' : Out → Env → Heap → Prop} (hQ : ∀ x e H, Q x e H → Q' x e H) (h : X (.code c e H Q)) : Y (.code c e H Q') :=
  hY.code hQ (hXY _ h)
theorem call_mono {f : Nat} {args : List AV} {H : Heap} {K K' : AV → Heap → Prop} (hK : ∀ v H, K v H → K' v H) (h : X (.call f args H K)) : Y (.call f args H K') :=
  hY.call hK (hXY _ h)

theorem round_mono {l : Nat} {args : List AV} {H : Heap} {K K' : AV → Heap → Prop} (hK : ∀ v H, K v H → K' v H) : roundWp X l args H K → roundWp Y l args H K' := by
  unfold roundWp
  split
  · split
    · refine code_mono hXY hY fun x e H1 => ?_
      split
      · split
        · refine code_mono hXY hY fun x e H2 => ?_
          split
          · split
            · exact hK _ _
            · exact hK _ _
          · exact id
        · exact id
      · exact id
    · exact id
  · exact id

theorem op_mono {op : IOp} {xs : List AV} {H : Heap} {K K' : AV → Heap → Prop} (hK : ∀ v H, K v H → K' v H) : opWp X op xs H K → opWp Y op xs H K' := by
  unfold opWp
  split
  · split
    · exact hK _ _
    · exact id
  · split
    · exact hK _ _
    · exact id
  · split
    · exact hK _ _
    · exact id
  · split
    · exact hK _ _
    · exact id
  · split
    · exact call_mono hXY hY hK
    · exact round_mono hXY hY hK
    · exact id
  · split
    · unfold nextWp
      split
      · split
        · split
          · split
            · exact hK _ _
            · exact fun h e he => hK _ _ (h e he)
          · exact id
        · exact id
      · exact id
    · exact id

theorem reg_mono : ∀ {l : List IOper} {e : Env} {H : Heap} {K K' : Env → Heap → Prop}, (∀ e H, K e H → K' e H) → regWp X l e H K → regWp Y l e H K'
  | [], e, H, K, K', hK => hK _ _
  | o :: r, e, H, K, K', hK => by
    simp only [regWp]
    split
    · split
      · exact op_mono hXY hY fun v H' => reg_mono hK
      · exact id
    · exact reg_mono hK
    · exact id

theorem dreg_mono {base : Nat} : ∀ {l : List DOp} {e : Env} {H : Heap} {q : List (Nat × AObj)} {ws : List Watch} {K K' : Env → Heap → Prop}, (∀ e H, K e H → K' e H) → dregWp X base l e H q ws K → dregWp Y base l e H q ws K'
  | [], e, H, q, ws, K, K', hK => hK _ _
  | d :: r, e, H, q, ws, K, K', hK => by
    simp only [dregWp]
    split
    · split
      · split
        · split
          · exact dreg_mono hK
          · exact id
        · split
          · exact dreg_mono hK
          · exact id
        · split
          · exact dreg_mono hK
          · exact id
        · refine op_mono hXY hY fun v H' => ?_
          split
          · exact dreg_mono hK
          · exact id
      · exact id
    · exact dreg_mono hK
    · exact id

theorem codeWp_mono {c : ICode} {e : Env} {H : Heap} {Q Q' : Out → Env → Heap → Prop} (hQ : ∀ x e H, Q x e H → Q' x e H) : codeWp X c e H Q → codeWp Y c e H Q' := by
  cases c <;> simp only [codeWp]
  case skip => exact hQ _ _ _
  case reg => exact reg_mono hXY hY fun e H => hQ _ _ _
  case dreg => exact dreg_mono hXY hY fun e H => hQ _ _ _
  case seq a b =>
    refine code_mono hXY hY fun x e H => ?_
    split
    · exact code_mono hXY hY hQ
    · exact hQ _ _ _
  case cond =>
    split
    · exact code_mono hXY hY hQ
    · exact code_mono hXY hY hQ
    · exact id
  case block =>
    refine code_mono hXY hY fun x e H => ?_
    split
    · split
      · exact hQ _ _ _
      · exact hQ _ _ _
    · exact hQ _ _ _
  case loop =>
    refine code_mono hXY hY fun x e H => ?_
    split
    · exact code_mono hXY hY hQ
    · exact hQ _ _ _
  case exit => exact hQ _ _ _
  case ret => exact hQ _ _ _
  case rangeFunc =>
    split
    · refine call_mono hXY hY fun v H2 => ?_
      split
      · exact id
      · exact hQ _ _ _
      · exact id
    · exact id
end

/-- What is laid into a table grows with what is asked of the end. -/
def TMono (T : Nat → Option FSpec) : Prop := ∀ f S, T f = some (.spec S) → ∀ args H (K K' : AV → Heap → Prop), (∀ v H, K v H → K' v H) → S args H K → S args H K'

/-- What a function's end asks. -/
def retK (rs : List ResV) (K : AV → Heap → Prop) : Out → Env → Heap → Prop := fun x e H' => match x with
  | .exit _ => False
  | _ => match resultsA e H' rs with
    | some v => K v H'
    | none => False

theorem retK_mono {rs : List ResV} {K K' : AV → Heap → Prop} (hK : ∀ v H, K v H → K' v H) : ∀ x e H, retK rs K x e H → retK rs K' x e H := by
  intro x e H
  unfold retK
  split
  · exact id
  · split
    · exact hK _ _
    · exact id

theorem job_mono {T : Nat → Option FSpec} (hT : TMono T) {X Y : Job → Prop} (hXY : ∀ j, X j → Y j) (hY : JMono Y) : ∀ j, jobWp T X j → jobWp T Y j
  | .code c e H Q => codeWp_mono hXY hY fun _ _ _ h => h
  | .call f args H K => by
    simp only [jobWp]
    split
    · split
      · exact hXY _
      · exact id
    · exact id
    · exact id

theorem job_jmono {T : Nat → Option FSpec} (hT : TMono T) {X : Job → Prop} (hX : JMono X) : JMono (jobWp T X) where
  code := fun hQ h => codeWp_mono (fun _ h => h) hX hQ h
  call := fun {f args H K K'} hK h => by
    simp only [jobWp] at h ⊢
    split at h
    · split at h
      · refine hX.code ?_ h
        intro x e H'
        split
        · exact id
        · split
          · exact hK _ _
          · exact id
      · exact h.elim
    · rename_i S hS
      exact hT f S hS _ _ _ _ hK h
    · exact h.elim

/-- What the code does, whatever the depth. -/
def Wp (T : Nat → Option FSpec) (j : Job) : Prop := ∀ X : Job → Prop, JMono X → (∀ j, jobWp T X j → X j) → X j

section
variable {T : Nat → Option FSpec} (hT : TMono T)

theorem Wp.jmono : JMono (Wp T) where
  code := fun hQ h X hX hc => hX.code hQ (h X hX hc)
  call := fun hK h X hX hc => hX.call hK (h X hX hc)

include hT
theorem Wp.intro {j : Job} (h : jobWp T (Wp T) j) : Wp T j := fun X hX hc =>
  hc j (job_mono hT (fun _ h => h X hX hc) hX j h)

theorem Wp.out {j : Job} (h : Wp T j) : jobWp T (Wp T) j :=
  h _ (job_jmono hT Wp.jmono) fun j h => job_mono hT (fun _ h => Wp.intro hT h) Wp.jmono j h

theorem Wp.iff {j : Job} : Wp T j ↔ jobWp T (Wp T) j := ⟨Wp.out hT, Wp.intro hT⟩

theorem Wp.of_wp : ∀ {n : Nat} {j : Job}, wp T n j → Wp T j
  | 0, _, h => by rw [wp_zero] at h; exact h.elim
  | n + 1, j, h => by
    rw [wp_succ] at h
    exact Wp.intro hT (job_mono hT (fun _ h => Wp.of_wp h) Wp.jmono j h)
end

section
variable {P : Program} {prv : List (Nat × Obj)} {w0 : World} {β : Inj}

theorem sound_jmono : JMono (fun j => JobSound P j ∧ JobInh j) where
  code := fun {c e H Q Q'} hQ h => by
    refine ⟨?_, ?_⟩
    · have := h.1
      simp only [JobSound, CodeSound] at this ⊢
      intro inr N A c hc w0 prv β w Ds fn rd t k cs G hG hrd hDs hR hE cont
      exact this inr N A c hc w0 prv β w Ds fn rd t k cs G hG hrd hDs hR hE fun x e' H' β' w' t' Ds' hq => cont x e' H' β' w' t' Ds' (hQ _ _ _ hq)
    · obtain ⟨x, e, H, hq⟩ := h.2
      exact ⟨x, e, H, hQ _ _ _ hq⟩
  call := fun {f args H K K'} hK h => by
    refine ⟨?_, ?_⟩
    · have := h.1
      simp only [JobSound, CallSound] at this ⊢
      refine ⟨this.1, ?_⟩
      intro w0 prv β w vargs cs G hG hR ha cont
      exact this.2 w0 prv β w vargs cs G hG hR ha fun v H' β' w' u fr' hk => cont v H' β' w' u fr' (hK _ _ hk)
    · obtain ⟨v, H, hq⟩ := h.2
      exact ⟨v, H, hK _ _ hq⟩

theorem Wp.sound (hm : P.follows .mixedOrders = true) {T : Nat → Option FSpec} (hT : TabOk P T) {j : Job} (h : Wp T j) : JobSound P j ∧ JobInh j :=
  h _ sound_jmono fun j h => ⟨jobWp_sound hm hT (fun _ h => h.1) (fun _ h => h.2) j h, jobWp_inh hT (fun _ h => h.2) j h⟩

/-- A call that the evaluator answers for. -/
theorem calls_of_Wp (hm : P.follows .mixedOrders = true) {T : Nat → Option FSpec} (hT : TabOk P T) {f : Nat} {args : List AV} {H : Heap} {K : AV → Heap → Prop} (h : Wp T (.call f args H K)) {w : World} (hR : Rel P w [] β H w) {vargs : Array Value} (ha : VRels P β args vargs.toList)
    {R : Ending → World → Prop} (hK : ∀ v H' β' w' u, K v H' → Ext H.next β β' → Rel P w [] β' H' w' → VRel P β' v u → R (.returned u) w') : Calls P f vargs w R := by
  intro cs
  have hs := (Wp.sound hm hT h).1
  simp only [JobSound] at hs
  refine hs.2 w [] β w vargs cs (fun m => ∃ e w' fr, R e w' ∧ Comes P m (lone fr cs w') e ∧ fr.fn = f ∧ fr.leaving P w' e) ?_ hR ha ?_
  · rintro m m' hst ⟨e, w', fr, h1, h2, h3⟩
    exact ⟨e, w', fr, h1, Comes.of_steps (.one hst) h2, h3⟩
  · intro v H' β' w' u fr' hk hx _ hR' hv hl hf
    exact ⟨.returned u, w', fr', hK v H' β' w' u hk hx hR' hv, Steps.refl _ _, hf, hl⟩

/-! ### What a call leaves behind is forgotten -/
mutual
/-- A value that names only blocks below n. -/
def AV.under (n : Nat) : AV → Bool
  | .ptr b _ => decide (b < n)
  | .sl b _ _ _ _ => decide (b < n)
  | .map b => decide (b < n)
  | .yield b => decide (b < n)
  | .fn _ fs c => AV.unders n fs && AV.unders n c
  | .agg l => AV.unders n l
  | .tup l => AV.unders n l
  | _ => true
def AV.unders (n : Nat) : List AV → Bool
  | [] => true
  | a :: r => AV.under n a && AV.unders n r
end

mutual
theorem VRel.back {n : Nat} {β β' : Inj} (hx : Ext n β β') : ∀ (a : AV) (v : Value), AV.under n a = true → VRel P β' a v → VRel P β a v
  | .bool _, _, _, h => by simpa [VRel] using h
  | .int _ _, _, _, h => by simpa [VRel] using h
  | .str _, _, _, h => by simpa [VRel] using h
  | .nilp, _, _, h => by simpa [VRel] using h
  | .nils, _, _, h => by simpa [VRel] using h
  | .nilm, _, _, h => by simpa [VRel] using h
  | .nilf, _, _, h => by simpa [VRel] using h
  | .nili, _, _, h => by simpa [VRel] using h
  | .ptr b o, v, hb, h => by
    simp only [VRel, AV.under, decide_eq_true_eq] at h hb ⊢
    obtain ⟨L, h1, h2⟩ := h
    exact ⟨L, (hx.new _ _ h1).resolve_right (by omega), h2⟩
  | .sl b o m c e, v, hb, h => by
    simp only [VRel, AV.under, decide_eq_true_eq] at h hb ⊢
    obtain ⟨L, a, cap, i, h1, h2⟩ := h
    exact ⟨L, a, cap, i, (hx.new _ _ h1).resolve_right (by omega), h2⟩
  | .map b, v, hb, h => by
    simp only [VRel, AV.under, decide_eq_true_eq] at h hb ⊢
    obtain ⟨L, h1, h2⟩ := h
    exact ⟨L, (hx.new _ _ h1).resolve_right (by omega), h2⟩
  | .yield b, v, hb, h => by
    simp only [VRel, AV.under, decide_eq_true_eq] at h hb ⊢
    obtain ⟨L, h1, h2⟩ := h
    exact ⟨L, (hx.new _ _ h1).resolve_right (by omega), h2⟩
  | .fn f fs c, v, hb, h => by
    simp only [VRel, AV.under, Bool.and_eq_true] at h hb ⊢
    obtain ⟨us, vs, h1, h2, h3⟩ := h
    exact ⟨us, vs, h1, VRels.back hx _ _ hb.1 h2, VRels.back hx _ _ hb.2 h3⟩
  | .agg l, v, hb, h => by
    simp only [VRel, AV.under] at h hb ⊢
    obtain ⟨vs, h1, h2⟩ := h
    exact ⟨vs, h1, VRels.back hx _ _ hb h2⟩
  | .tup l, v, hb, h => by
    simp only [VRel, AV.under] at h hb ⊢
    obtain ⟨vs, h1, h2⟩ := h
    exact ⟨vs, h1, VRels.back hx _ _ hb h2⟩
theorem VRels.back {n : Nat} {β β' : Inj} (hx : Ext n β β') : ∀ (l : List AV) (vs : List Value), AV.unders n l = true → VRels P β' l vs → VRels P β l vs
  | [], _, _, h => by simpa [VRels] using h
  | a :: r, vs, hb, h => by
    simp only [VRels, AV.unders, Bool.and_eq_true] at h hb ⊢
    obtain ⟨v, vs', h1, h2, h3⟩ := h
    exact ⟨v, vs', h1, VRel.back hx _ _ hb.1 h2, VRels.back hx _ _ hb.2 h3⟩
end

mutual
/-- What is related here names only what is named. -/
theorem VRel.isUnder {n : Nat} {β : Inj} (hd : ∀ b L, β b = some L → b < n) : ∀ (a : AV) (v : Value), VRel P β a v → AV.under n a = true
  | .bool _, _, _ => rfl
  | .int _ _, _, _ => rfl
  | .str _, _, _ => rfl
  | .nilp, _, _ => rfl
  | .nils, _, _ => rfl
  | .nilm, _, _ => rfl
  | .nilf, _, _ => rfl
  | .nili, _, _ => rfl
  | .ptr b o, v, h => by
    simp only [VRel, AV.under, decide_eq_true_eq] at h ⊢
    obtain ⟨L, h1, _⟩ := h
    exact hd _ _ h1
  | .sl b o m c e, v, h => by
    simp only [VRel, AV.under, decide_eq_true_eq] at h ⊢
    obtain ⟨L, a, cap, i, h1, h2⟩ := h
    exact hd _ _ h1
  | .map b, v, h => by
    simp only [VRel, AV.under, decide_eq_true_eq] at h ⊢
    obtain ⟨L, h1, _⟩ := h
    exact hd _ _ h1
  | .yield b, v, h => by
    simp only [VRel, AV.under, decide_eq_true_eq] at h ⊢
    obtain ⟨L, h1, _⟩ := h
    exact hd _ _ h1
  | .fn f fs c, v, h => by
    simp only [VRel, AV.under, Bool.and_eq_true] at h ⊢
    obtain ⟨us, vs, h1, h2, h3⟩ := h
    exact ⟨VRels.isUnder hd _ _ h2, VRels.isUnder hd _ _ h3⟩
  | .agg l, v, h => by
    simp only [VRel, AV.under] at h ⊢
    obtain ⟨vs, h1, h2⟩ := h
    exact VRels.isUnder hd _ _ h2
  | .tup l, v, h => by
    simp only [VRel, AV.under] at h ⊢
    obtain ⟨vs, h1, h2⟩ := h
    exact VRels.isUnder hd _ _ h2
theorem VRels.isUnder {n : Nat} {β : Inj} (hd : ∀ b L, β b = some L → b < n) : ∀ (l : List AV) (vs : List Value), VRels P β l vs → AV.unders n l = true
  | [], _, _ => rfl
  | a :: r, vs, h => by
    simp only [VRels, AV.unders, Bool.and_eq_true] at h ⊢
    obtain ⟨v, vs', h1, h2, h3⟩ := h
    exact ⟨VRel.isUnder hd _ _ h2, VRels.isUnder hd _ _ h3⟩
end

theorem ERels.back {n : Nat} {β β' : Inj} (hx : Ext n β β') (hd : ∀ b L, β b = some L → b < n) : ∀ {es : List (AV × AV × Nat)} {en en' : List MapEntry}, ERels P β es en → ERels P β' es en' → ERels P β es en'
  | [], en, en', _, h => by simpa [ERels] using h
  | e :: r, en, en', h0, h => by
    simp only [ERels] at h0 h ⊢
    obtain ⟨x, y, h1, h2, h3, h4, h5⟩ := h
    obtain ⟨x0, y0, _, g2, g3, _, g5⟩ := h0
    exact ⟨x, y, h1, VRel.back hx _ _ (VRel.isUnder hd _ _ g2) h2, VRel.back hx _ _ (VRel.isUnder hd _ _ g3) h3, h4, ERels.back hx hd g5 h5⟩

theorem ORel.back {n : Nat} {β β' : Inj} (hx : Ext n β β') (hd : ∀ b L, β b = some L → b < n) {w w' : World} {L : Loc} {o : AObj} (h0 : ORel P β w L o) (h : ORel P β' w' L o) : ORel P β w' L o := by
  cases o with
  | cells wr c =>
    simp only [ORel] at h0 h ⊢
    obtain ⟨_, _, _, _, _, _, g, _⟩ := h0
    obtain ⟨cs, ty, fz, h1, h2, h3, h4, h5⟩ := h
    exact ⟨cs, ty, fz, h1, h2, h3, VRels.back hx _ _ (VRels.isUnder hd _ _ g) h4, h5⟩
  | map es clock =>
    simp only [ORel] at h0 h ⊢
    obtain ⟨_, _, g, _⟩ := h0
    obtain ⟨en, h1, h2, h3⟩ := h
    exact ⟨en, h1, ERels.back hx hd g h2, h3⟩
  | iter m clock seen =>
    simp only [ORel] at h0 h ⊢
    obtain ⟨M0, g1, _⟩ := h0
    obtain ⟨M, h1, h2⟩ := h
    exact ⟨M, (hx.new _ _ h1).resolve_right (by have := hd _ _ g1; omega), h2⟩
  | loop env ps assign body st pend =>
    simp only [ORel] at h0 h ⊢
    obtain ⟨_, _, _, _, g, _⟩ := h0
    obtain ⟨r, N, A, h1, h2, h3⟩ := h
    exact ⟨r, N, A, h1, ⟨h2.1, fun t v hv => VRel.back hx _ _ (VRel.isUnder hd _ _ (g.2 t v hv)) (h2.2 t v hv)⟩, h3⟩

/-- If all blocks of H stand as they stood, H is there still. -/
theorem Rel.forget {β β' : Inj} {w w' : World} {H H' : Heap} (h : Rel P w0 prv β H w) (h' : Rel P w0 prv β' H' w') (hx : Ext H.next β β') (hs : ∀ b, b < H.next → H'.get b = H.get b) : Rel P w0 prv β H w' where
  obj := fun b o hb => by
    obtain ⟨L, h1, h2⟩ := h.obj b o hb
    have hlt := h.dom b L h1
    obtain ⟨L', h3, h4⟩ := h'.obj b o ((hs b hlt).trans hb)
    rw [hx.keep _ _ h1] at h3; injection h3 with h3; subst h3
    exact ⟨L, h1, ORel.back hx h.dom h2 h4⟩
  new := h.new
  inj := h.inj
  dom := h.dom
  blk := fun b L hb => h'.blk b L (hx.keep _ _ hb)
  glob := h.glob
  old := h'.old
  size := h'.size
  same := h'.same
  prvs := h'.prvs
  prvN := h.prvN

/-- H' holds what H holds, and more. -/
def Heap.Le (H H' : Heap) : Prop := H.next ≤ H'.next ∧ ∀ b, b < H.next → H'.get b = H.get b

/-- What a function hands back that names only what was there: nothing else is to be seen of the call. -/
theorem CallSound.forget {f : Nat} {args : List AV} {H : Heap} {K : AV → Heap → Prop} (h : CallSound P f args H (fun v H' => AV.under H.next v = true ∧ K v H ∧ Heap.Le H H')) : CallSound P f args H K := by
  refine ⟨h.1, ?_⟩
  intro w0 prv β w vargs cs G hG hR ha cont
  refine h.2 w0 prv β w vargs cs G hG hR ha ?_
  intro v H' β' w' u fr' ⟨hv, hk, hle⟩ hx hev hR' hu hl hf
  exact cont v H β w' u fr' hk (Ext.refl _ _) (Evo.refl _) (hR.forget hR' hx hle.2) (VRel.back hx _ _ hv hu) hl hf

/-- A call that was worked out in a part of memory that nothing writes to. -/
theorem CallSound.frame {f : Nat} {args : List AV} {Hs H : Heap} {K : AV → Heap → Prop} (h : CallSound P f args Hs (fun v _ => AV.under 0 v = true ∧ K v H))
    (hn : Hs.next ≤ H.next) (hg : P.globals.size ≤ Hs.next) (hs : ∀ b o, Hs.get b = some o → H.get b = some o ∧ b < Hs.next ∧ ∃ c, o = .cells false c ∧ AV.unders Hs.next c = true) (ha : AV.unders Hs.next args = true) : CallSound P f args H K := by
  refine ⟨h.1, ?_⟩
  intro w0 prv β w vargs cs G hG hR hargs cont
  let γ : Inj := fun b => if b < Hs.next then β b else none
  have hγ : Ext Hs.next γ β := by
    refine ⟨fun b L hb => ?_, fun b L hb => ?_⟩
    · simp only [γ] at hb; split at hb
      · exact hb
      · cases hb
    · by_cases e : b < Hs.next
      · exact .inl (by simp only [γ, if_pos e]; exact hb)
      · exact .inr (by omega)
  have hRs : Rel P w [] γ Hs w := by
    constructor
    · intro b o hb
      obtain ⟨h1, h2, c, rfl, h3⟩ := hs b o hb
      obtain ⟨L, g1, g2⟩ := hR.obj b _ h1
      refine ⟨L, by simp only [γ, if_pos h2]; exact g1, ?_⟩
      simp only [ORel] at g2 ⊢
      obtain ⟨cs, ty, fz, k1, k2, k3, k4, k5⟩ := g2
      exact ⟨cs, ty, fz, k1, k2, k3, VRels.back hγ _ _ h3 k4, k5⟩
    · intro b o L hb _ hw
      obtain ⟨_, _, c, rfl, _⟩ := hs b o hb
      cases hw
    · intro b b' o o' L L' _ hb _ _ _ hw
      obtain ⟨_, _, c, rfl, _⟩ := hs b o hb
      cases hw
    · intro b L hb
      simp only [γ] at hb; split at hb
      · assumption
      · cases hb
    · intro b L hb; exact hR.blk b L (hγ.keep _ _ hb)
    · intro g hg'
      obtain ⟨L, h1, h2⟩ := hR.glob g hg'
      exact ⟨L, by simp only [γ, if_pos (Nat.lt_of_lt_of_le hg' hg)]; exact h1, h2⟩
    · intro i _; rfl
    · exact Nat.le_refl _
    · exact ⟨rfl, rfl, rfl⟩
    · intro r o hr; cases hr
    · intro r o b ob L hr; cases hr
  refine h.2 w [] γ w vargs cs G hG hRs (VRels.back hγ _ _ ha hargs) ?_
  intro v H' β' w' u fr' ⟨hv, hk⟩ hx hev hR' hu hl hf
  have hsz := hR'.size
  have hsame : ∀ i, i < w.heap.size → w'.heap[i]? = w.heap[i]? := hR'.old
  have hlt : ∀ {r : Nat} {o : Obj}, w.heap[r]? = some o → r < w.heap.size := fun {r o} h => by
    rcases Nat.lt_or_ge r w.heap.size with h' | h'
    · exact h'
    · simp [Array.getElem?_eq_none h'] at h
  refine cont v H β w' u fr' hk (Ext.refl _ _) (Evo.refl _) ?_ ?_ hl hf
  · constructor
    · intro b o hb
      obtain ⟨L, h1, h2⟩ := hR.obj b o hb
      exact ⟨L, h1, h2.mono (fun _ _ h => h) (hsame _ (hR.blk b L h1))⟩
    · exact hR.new
    · exact hR.inj
    · exact hR.dom
    · intro b L hb; exact Nat.lt_of_lt_of_le (hR.blk b L hb) hsz
    · exact hR.glob
    · intro i hi; rw [hsame i (Nat.lt_of_lt_of_le hi hR.size)]; exact hR.old i hi
    · exact Nat.le_trans hR.size hsz
    · obtain ⟨h1, h2, h3⟩ := hR'.same
      obtain ⟨g1, g2, g3⟩ := hR.same
      exact ⟨h1.trans g1, h2.trans g2, h3.trans g3⟩
    · intro r o hr
      have := hR.prvs r o hr
      rw [hsame r (hlt this)]; exact this
    · exact hR.prvN
  · have h0 : Ext 0 (fun _ => none) β' := ⟨fun _ _ h => (by cases h), fun _ _ _ => .inr (Nat.zero_le _)⟩
    exact VRel.mono (fun _ _ h => (by cases h)) _ _ (VRel.back h0 _ _ hv hu)
end
end Go.AE
