/-
  'awake' and the refusals as contracts of the closed run.
-/
import Derived.Test.YtoinombhonbibaaGreatDoorAeK3
set_option linter.unusedSimpArgs false
set_option linter.unusedVariables false
set_option linter.unusedSectionVars false
set_option maxRecDepth 100000
namespace Go.AE
open Go.Proofs
def awakeS : List AV → Heap → (AV → Heap → Prop) → Prop := fun args H K => args = [] ∧ Glob H ∧ Glob3 H ∧ K (.bool true) H
def awakeB : List AV → Heap → (AV → Heap → Bool) → Bool := fun args H K => match args with
  | [] => match globB H, glob3B H with
    | true, true => K (.bool true) H
    | _, _ => false
  | _ => false
theorem awakeS_ok : ∀ args H K, awakeS args H K → CallSound Tryz.prog 8 args H K ∧ ∃ v H', K v H' := by
  rintro args H K ⟨rfl, hG, hG3, hk⟩
  refine ⟨?_, _, _, hk⟩
  have h1 : Wp tabP0 (.call 8 [] heap0 fun v H => isTB v H = true) := wpB_ok tabP0_mono tabB0_ok _ _ awake_run
  have h2 : Wp tabP0 (.call 8 [] heap0 fun v _ => AV.under 0 v = true ∧ K v H) := Wp.jmono.call (fun v H' h => by rw [isTB_ok h]; exact ⟨rfl, hk⟩) h1
  rw [heap0_eq] at h2
  refine CallSound.frame (Hs := heapG) (Wp.sound follows_mixed tabP0_ok h2).1 hG3.next (by rw [nGlob]; exact Nat.le_refl 3) ?_ rfl
  intro b o hb
  rcases heapG_get b o hb with ⟨rfl, rfl⟩ | ⟨rfl, rfl⟩ | ⟨rfl, rfl⟩
  · exact ⟨hG.first, by decide, _, rfl, wordsA_under _ _⟩
  · exact ⟨hG.konst, by decide, _, rfl, wordsA_under _ _⟩
  · exact ⟨hG3.konst, by decide, _, rfl, halvesA_under _ _⟩
theorem awakeS_mono : ∀ args H (K K' : AV → Heap → Prop), (∀ v H, K v H → K' v H) → awakeS args H K → awakeS args H K' :=
  fun _ _ _ _ hK ⟨h1, h2, h3, h4⟩ => ⟨h1, h2, h3, hK _ _ h4⟩
theorem awakeB_S {args : List AV} {H : Heap} {K : AV → Heap → Bool} (h : awakeB args H K = true) : awakeS args H (fun v H => K v H = true) := by
  unfold awakeB at h
  split at h
  · split at h
    · rename_i hg hg3; exact ⟨rfl, globB_ok hg, glob3B_ok hg3, h⟩
    · cases h
  · cases h

/-! ### A refusal -/
theorem frame_sub {P : Program} {f : Nat} {args : List AV} {Hs H : Heap} {K : AV → Heap → Prop} (h : CallSound P f args Hs (fun v _ => AV.under 0 v = true ∧ K v H)) (hn : Hs.next = H.next) (hs : ∀ b o, Hs.get b = some o → H.frozen.get b = some o) : CallSound P f args H K := by
  refine ⟨h.1, ?_⟩
  intro w0 prv β w vargs cs G hG hR ha cont
  refine h.2 w [] β w vargs cs G hG (hR.frozen.sub hs (by rw [hn]; exact Nat.le_refl _)) ha ?_
  intro v H' β' w' u fr' ⟨hv, hk⟩ hx hev hR' hu hl hf
  refine cont v H β w' u fr' hk (Ext.refl _ _) (Evo.refl _) (hR.thaw hR') ?_ hl hf
  have h0 : Ext 0 (fun _ => none) β' := ⟨fun _ _ h => (by cases h), fun _ _ _ => .inr (Nat.zero_le _)⟩
  exact VRel.mono (fun _ _ h => (by cases h)) _ _ (VRel.back h0 _ _ hv hu)
noncomputable def standsB (H : Heap) (l : List (Nat × List AV)) : Bool := List.rec (motive := fun _ => Bool) true (fun p _ ih => match getB H p.1 with
  | some (.cells _ c) => match AV.beqs c p.2 with
    | true => ih
    | false => false
  | _ => false) l
theorem standsB_ok {H : Heap} : ∀ {l : List (Nat × List AV)}, standsB H l = true → ∀ p ∈ l, H.frozen.get p.1 = some (.cells false p.2)
  | [], _, p, hp => by cases hp
  | q :: r, h, p, hp => by
    have h : (match getB H q.1 with
      | some (.cells _ c) => match AV.beqs c q.2 with
        | true => standsB H r
        | false => false
      | _ => false) = true := h
    rw [getB_eq] at h
    split at h
    · rename_i w c hc
      split at h
      · rename_i he
        have he := AV.beqs_eq _ _ he
        rcases List.mem_cons.1 hp with rfl | hp
        · show (PT.mapO H.mem).get p.1 = _
          rw [PT.mapO_get]
          have hc : H.mem.get p.1 = some (.cells w c) := hc
          rw [hc, he]; rfl
        · exact standsB_ok h p hp
      · cases h
    · cases h
/-- A refusal whose run is known. -/
structure Known where
  args : List AV
  next : Nat
  mem : List (Nat × List AV)
  run : wpB tabB0 (nat_lit 10000000) (.call 26 args (subHeap next (globL ++ mem)) isTB) = true
noncomputable def knownB (args : List AV) (H : Heap) (l : List Known) : Bool := List.rec (motive := fun _ => Bool) false (fun k _ ih => match AV.beqs args k.args with
  | true => match Nat.beq H.next k.next with
    | true => match standsB H k.mem with
      | true => true
      | false => ih
    | false => ih
  | false => ih) l
theorem knownB_ok {args : List AV} {H : Heap} : ∀ {l : List Known}, knownB args H l = true → ∃ k ∈ l, args = k.args ∧ H.next = k.next ∧ ∀ p ∈ k.mem, H.frozen.get p.1 = some (.cells false p.2)
  | [], h => by
    have h : false = true := h
    cases h
  | k :: r, h => by
    have h : (match AV.beqs args k.args with
      | true => match Nat.beq H.next k.next with
        | true => match standsB H k.mem with
          | true => true
          | false => knownB args H r
        | false => knownB args H r
      | false => knownB args H r) = true := h
    have more : knownB args H r = true → ∃ k' ∈ k :: r, args = k'.args ∧ H.next = k'.next ∧ ∀ p ∈ k'.mem, H.frozen.get p.1 = some (.cells false p.2) := fun h => by
      obtain ⟨k', h1, h2⟩ := knownB_ok h
      exact ⟨k', List.mem_cons_of_mem _ h1, h2⟩
    split at h
    · rename_i h1
      split at h
      · rename_i h2
        split at h
        · rename_i h3
          exact ⟨k, List.mem_cons_self, AV.beqs_eq _ _ h1, Nat.eq_of_beq_eq_true h2, standsB_ok h3⟩
        · exact more h
      · exact more h
    · exact more h
def knowns : List Known := [⟨noA0, nat_lit 2236, noL0, no_run0⟩, ⟨noA1, nat_lit 2236, noL1, no_run1⟩, ⟨noA2, nat_lit 2236, noL2, no_run2⟩]
noncomputable def noB (args : List AV) (H : Heap) (K : AV → Heap → Bool) : Bool := match knownB args H knowns, globB H, glob3B H with
  | true, true, true => K (.bool true) H
  | _, _, _ => false
def noS : List AV → Heap → (AV → Heap → Prop) → Prop := fun args H K => knownB args H knowns = true ∧ Glob H ∧ Glob3 H ∧ K (.bool true) H
theorem noS_mono : ∀ args H (K K' : AV → Heap → Prop), (∀ v H, K v H → K' v H) → noS args H K → noS args H K' :=
  fun _ _ _ _ hK ⟨h1, h2, h3, h4⟩ => ⟨h1, h2, h3, hK _ _ h4⟩
theorem noB_S {args : List AV} {H : Heap} {K : AV → Heap → Bool} (h : noB args H K = true) : noS args H (fun v H => K v H = true) := by
  unfold noB at h
  split at h
  · rename_i h1 h2 h3; exact ⟨h1, globB_ok h2, glob3B_ok h3, h⟩
  · cases h
theorem noS_ok : ∀ args H K, noS args H K → CallSound Tryz.prog 26 args H K ∧ ∃ v H', K v H' := by
  rintro args H K ⟨hb, hG, hG3, hk⟩
  obtain ⟨k, _, rfl, hn, hm⟩ := knownB_ok hb
  refine ⟨?_, _, _, hk⟩
  have h1 : Wp tabP0 (.call 26 k.args (subHeap k.next (globL ++ k.mem)) fun v H => isTB v H = true) := wpB_ok tabP0_mono tabB0_ok _ _ k.run
  have h2 : Wp tabP0 (.call 26 k.args (subHeap k.next (globL ++ k.mem)) fun v _ => AV.under 0 v = true ∧ K v H) := Wp.jmono.call (fun v H' h => by rw [isTB_ok h]; exact ⟨rfl, hk⟩) h1
  refine frame_sub (Wp.sound follows_mixed tabP0_ok h2).1 (by rw [subHeap_next, hn]) ?_
  intro b o hb
  obtain ⟨p, hp, rfl, rfl⟩ := subHeap_get _ _ _ _ hb
  have frz : ∀ {b : Nat} {c : List AV}, H.get b = some (.cells false c) → H.frozen.get b = some (.cells false c) := by
    intro b c h
    show (PT.mapO H.mem).get b = _
    have h : H.mem.get b = some (.cells false c) := h
    rw [PT.mapO_get, h]; rfl
  rcases List.mem_append.1 hp with hp | hp
  · simp only [globL, List.mem_cons, List.not_mem_nil, or_false] at hp
    rcases hp with rfl | rfl | rfl
    · rw [wordsL_eq]; exact frz hG.first
    · rw [wordsL_eq]; exact frz hG.konst
    · rw [halvesL_eq]; exact frz hG3.konst
  · exact hm p hp

/-! ### The table of the closed run -/
noncomputable def tabB1 (k : Nat) : Option FSpecB := match Nat.beq k 8 with
  | true => some (.spec awakeB)
  | false => match Nat.beq k 26 with
    | true => some (.spec noB)
    | false => tabB0 k
def tabP1 : Nat → Option FSpec := over (over tabP0 26 noS) 8 awakeS
theorem tabP1_ok : TabOk Tryz.prog tabP1 := (tabP0_ok.over noS_ok).over awakeS_ok
theorem tabP1_mono : TMono tabP1 := (tabP0_mono.over noS_mono).over awakeS_mono
theorem tabB1_ok : TabB tabB1 tabP1 where
  code := fun f ifn h => by
    unfold tabB1 at h
    unfold tabP1 over
    split at h
    · injection h with h; cases h
    · rename_i hb
      rw [hb]
      simp only
      split at h
      · injection h with h; cases h
      · rename_i hb2
        rw [hb2]
        exact tabB0_ok.code f ifn h
  spec := fun f S' h => by
    unfold tabB1 at h
    unfold tabP1 over
    split at h
    · rename_i hb
      rw [hb]
      injection h with h; injection h with h; subst h
      exact ⟨_, rfl, fun _ _ _ h => awakeB_S h⟩
    · rename_i hb
      rw [hb]
      simp only
      split at h
      · rename_i hb2
        rw [hb2]
        injection h with h; injection h with h; subst h
        exact ⟨_, rfl, fun _ _ _ h => noB_S h⟩
      · rename_i hb2
        rw [hb2]
        exact tabB0_ok.spec f S' h
end Go.AE
