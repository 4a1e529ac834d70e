/-
  A call worked out in memory that nothing writes to, behind which one fresh slice of plain cells stays.
-/
import Derived.Test.YtefkjiedgecjpaaGreatDoorAeF2
set_option linter.unusedSimpArgs false
set_option linter.unusedVariables false
set_option linter.unusedSectionVars false
namespace Go.AE

/-- What memory holds, as cells that nothing writes to; the rest left out. -/
def frozenO : AObj → Option AObj
  | .cells _ c => some (.cells false c)
  | _ => none
def PT.mapO : PT AObj → PT AObj
  | .nil => .nil
  | .node l v r => .node (PT.mapO l) (match v with
    | some o => frozenO o
    | none => none) (PT.mapO r)
theorem PT.mapO_get : ∀ (t : PT AObj) (n : Nat), (PT.mapO t).get n = (t.get n).bind frozenO
  | .nil, n => by rw [PT.get_nil]; show PT.get .nil n = _; rw [PT.get_nil]; rfl
  | .node l v r, 0 => by
    show (match v with | some o => frozenO o | none => none) = v.bind frozenO
    cases v <;> rfl
  | .node l v r, m + 1 => by
    show (match m % 2 with | 0 => (PT.mapO l).get (m / 2) | _ => (PT.mapO r).get (m / 2)) = (match m % 2 with | 0 => l.get (m / 2) | _ => r.get (m / 2)).bind frozenO
    rw [PT.mapO_get l, PT.mapO_get r]
    split <;> rfl
def Heap.frozen (H : Heap) : Heap := ⟨H.next, PT.mapO H.mem⟩
theorem frozen_get {H : Heap} {b : Nat} {o : AObj} (h : H.frozen.get b = some o) : ∃ w c, H.get b = some (.cells w c) ∧ o = .cells false c := by
  have h : (PT.mapO H.mem).get b = some o := h
  rw [PT.mapO_get] at h
  cases hg : H.mem.get b with
  | none => rw [hg] at h; cases h
  | some ob =>
    rw [hg] at h
    cases ob with
    | cells w c => exact ⟨w, c, hg, by simpa [frozenO] using h.symm⟩
    | map _ _ => cases h
    | iter _ _ _ => cases h
    | loop _ _ _ _ _ _ => cases h

section
variable {P : Program}
theorem Rel.frozen {w0 w : World} {prv : List (Nat × Obj)} {β : Inj} {H : Heap} (hR : Rel P w0 prv β H w) : Rel P w [] β H.frozen w where
  obj := fun b o hb => by
    obtain ⟨wr, c, h1, rfl⟩ := frozen_get hb
    obtain ⟨L, g1, g2⟩ := hR.obj b _ h1
    refine ⟨L, g1, ?_⟩
    simp only [ORel] at g2 ⊢
    obtain ⟨cs, ty, fz, k1, k2, k3, k4, k5, _⟩ := g2
    exact ⟨cs, ty, fz, k1, k2, k3, k4, k5, by simp⟩
  new := fun b o L hb _ hw => by
    obtain ⟨wr, c, h1, rfl⟩ := frozen_get hb
    cases hw
  inj := fun b b' o o' L L' _ hb _ _ _ hw => by
    obtain ⟨wr, c, h1, rfl⟩ := frozen_get hb
    cases hw
  dom := hR.dom
  blk := hR.blk
  glob := hR.glob
  old := fun _ _ => rfl
  size := Nat.le_refl _
  same := ⟨rfl, rfl, rfl⟩
  prvs := fun r o hr => by cases hr
  prvN := fun r o b ob L hr => by cases hr

theorem heap_lt {w : World} {r : Nat} {o : Obj} (h : w.heap[r]? = some o) : r < w.heap.size := by
  rcases Nat.lt_or_ge r w.heap.size with h' | h'
  · exact h'
  · simp [Array.getElem?_eq_none h'] at h

/-- Nothing that was there turned: all stands as it stood. -/
theorem Rel.thaw {w0 w w' : World} {prv : List (Nat × Obj)} {β β' : Inj} {H H' : Heap} (hR : Rel P w0 prv β H w) (hR' : Rel P w [] β' H' w') : Rel P w0 prv β H w' where
  obj := fun b o hb => by
    obtain ⟨L, h1, h2⟩ := hR.obj b o hb
    exact ⟨L, h1, h2.mono (fun _ _ h => h) (hR'.old _ (hR.blk b L h1))⟩
  new := hR.new
  inj := hR.inj
  dom := hR.dom
  blk := fun b L hb => Nat.lt_of_lt_of_le (hR.blk b L hb) hR'.size
  glob := hR.glob
  old := fun i hi => by rw [hR'.old i (Nat.lt_of_lt_of_le hi hR.size)]; exact hR.old i hi
  size := Nat.le_trans hR.size hR'.size
  same := ⟨hR'.same.1.trans hR.same.1, hR'.same.2.1.trans hR.same.2.1, hR'.same.2.2.trans hR.same.2.2⟩
  prvs := fun r o hr => by
    have := hR.prvs r o hr
    rw [hR'.old r (heap_lt this)]; exact this
  prvN := hR.prvN

theorem frame_plain {f : Nat} {args : List AV} {H : Heap} {K : AV → Heap → Prop} (h : CallSound P f args H.frozen (fun v _ => AV.under 0 v = true ∧ K v H)) : CallSound P f args H K := by
  refine ⟨h.1, ?_⟩
  intro w0 prv β w vargs cs G hG hR ha cont
  refine h.2 w [] β w vargs cs G hG hR.frozen ha ?_
  intro v H' β' w' u fr' ⟨hv, hk⟩ hx hev hR' hu hl hf
  refine cont v H β w' u fr' hk (Ext.refl _ _) (Evo.refl _) (hR.thaw hR') ?_ hl hf
  have h0 : Ext 0 (fun _ => none) β' := ⟨fun _ _ h => (by cases h), fun _ _ _ => .inr (Nat.zero_le _)⟩
  exact VRel.mono (fun _ _ h => (by cases h)) _ _ (VRel.back h0 _ _ hv hu)

/-- The answer: a slice of a fresh block of plain cells, and a plain value. -/
theorem frame_slice {f : Nat} {args : List AV} {H : Heap} {K : AV → Heap → Prop} {l : List AV} {n e : Nat} {x : AV} (hl : AV.unders 0 l = true) (hx : AV.under 0 x = true)
    (hk : K (.tup [.sl H.next 0 n none e, x]) (H.push (.cells true l)))
    (h : CallSound P f args H.frozen (fun v H' => ∃ b, v = .tup [.sl b 0 n none e, x] ∧ H'.get b = some (.cells true l))) : CallSound P f args H K := by
  refine ⟨h.1, ?_⟩
  intro w0 prv β w vargs cs G hG hR ha cont
  refine h.2 w [] β w vargs cs G hG hR.frozen ha ?_
  rintro v H' β' w' u fr' ⟨b, rfl, hb⟩ hxx hev hR' hu hlv hf
  have hT := hR.thaw hR'
  obtain ⟨L, hL, hO⟩ := hR'.obj b _ hb
  have hnew : w.heap.size ≤ L.blk := hR'.new b _ L hb hL rfl
  have h0 : Ext 0 (fun _ => none) β' := ⟨fun _ _ h => (by cases h), fun _ _ _ => .inr (Nat.zero_le _)⟩
  have up : ∀ (γ : Inj) (l : List AV) (vs : List Value), AV.unders 0 l = true → VRels P β' l vs → VRels P γ l vs := fun γ l vs hu hr =>
    VRels.mono (fun _ _ h => (by cases h)) _ _ (VRels.back h0 _ _ hu hr)
  have hfr : β H.next = none := hR.fresh
  have hkeep := Inj.put_keep (L := L) hfr
  refine cont _ _ (β.put H.next L) w' u fr' hk ⟨hkeep, ?_⟩ ⟨by simp, fun c hc hn => by rw [Heap.get_push, if_neg (by omega)]; exact hn⟩ ?_ ?_ hlv hf
  · intro c M hM
    unfold Inj.put at hM
    split at hM
    · rename_i hc; exact .inr (by omega)
    · exact .inl hM
  · have hne : ∀ {c : Nat}, c ≠ H.next → (H.push (.cells true l)).get c = H.get c := fun {c} hc => by rw [Heap.get_push, if_neg hc]
    have hput : ∀ {c M}, c ≠ H.next → (β.put H.next L) c = some M → β c = some M := fun {c M} hc hM => by simpa [Inj.put, hc] using hM
    constructor
    · intro c o hc
      by_cases e1 : c = H.next
      · subst e1
        rw [Heap.get_push, if_pos rfl] at hc
        injection hc with hc; subst hc
        refine ⟨L, Inj.put_same, ?_⟩
        simp only [ORel] at hO ⊢
        obtain ⟨cs', ty, fz, k1, k2, k3, k4, k5⟩ := hO
        exact ⟨cs', ty, fz, k1, k2, k3, up _ _ _ hl k4, k5⟩
      · rw [hne e1] at hc
        obtain ⟨M, h1, h2⟩ := hT.obj c o hc
        exact ⟨M, hkeep _ _ h1, h2.mono hkeep rfl⟩
    · intro c o M hc hM hw
      by_cases e1 : c = H.next
      · subst e1
        rw [Inj.put_same] at hM; injection hM with hM; subst hM
        exact Nat.le_trans hR.size hnew
      · rw [hne e1] at hc
        exact hT.new c o M hc (hput e1 hM) hw
    · intro c c' o o' M M' hcc hc hc' hM hM' hw
      by_cases e1 : c = H.next
      · subst e1
        rw [Inj.put_same] at hM; injection hM with hM; subst hM
        have e2 : c' ≠ H.next := fun h => hcc h.symm
        have := hR.blk c' M' (hput e2 hM')
        omega
      · by_cases e2 : c' = H.next
        · subst e2
          rw [Inj.put_same] at hM'; injection hM' with hM'; subst hM'
          have := hR.blk c M (hput e1 hM)
          omega
        · rw [hne e1] at hc; rw [hne e2] at hc'
          exact hT.inj c c' o o' M M' hcc hc hc' (hput e1 hM) (hput e2 hM') hw
    · intro c M hM
      by_cases e1 : c = H.next
      · subst e1; simp
      · exact Nat.lt_succ_of_lt (hR.dom c M (hput e1 hM))
    · intro c M hM
      by_cases e1 : c = H.next
      · subst e1
        rw [Inj.put_same] at hM; injection hM with hM; subst hM
        exact hR'.blk b _ hL
      · exact hT.blk c M (hput e1 hM)
    · intro g hg
      obtain ⟨M, h1, h2⟩ := hR.glob g hg
      exact ⟨M, hkeep _ _ h1, h2⟩
    · exact hT.old
    · exact hT.size
    · exact hT.same
    · exact hT.prvs
    · intro r o c ob M hr hc hM
      by_cases e1 : c = H.next
      · subst e1
        rw [Inj.put_same] at hM; injection hM with hM; subst hM
        have := heap_lt (hR.prvs r o hr)
        omega
      · rw [hne e1] at hc
        exact hT.prvN r o c ob M hr hc (hput e1 hM)
  · simp only [VRel, VRels] at hu ⊢
    obtain ⟨vs, rfl, v1, vs1, h1, ⟨L1, a, cap, i, q1, q2⟩, v2, vs2, h2, h3, h4⟩ := hu
    rw [hL] at q1; injection q1 with q1; subst q1
    refine ⟨vs, rfl, v1, vs1, h1, ⟨L, a, cap, i, Inj.put_same, q2⟩, v2, vs2, h2, ?_, h4⟩
    exact VRel.mono (fun _ _ h => (by cases h)) _ _ (VRel.back h0 _ _ hx h3)
end
end Go.AE
