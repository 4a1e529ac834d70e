/-
  Regions that draw their order: the machine's side.
-/
import Derived.Test.YtoinombhonbibaaGreatDoorAeST
set_option linter.unusedSimpArgs false
set_option linter.unusedVariables false
set_option linter.unusedSectionVars false
namespace Go.AE

section
variable {P : Program} {β : Inj} {w w0 : World} {prv prv' : List (Nat × Obj)} {H H' : Heap}

theorem Rel.prvSub (h : Rel P w0 prv β H w) (hs : ∀ p ∈ prv', p ∈ prv) : Rel P w0 prv' β H w :=
  ⟨h.obj, h.new, h.inj, h.dom, h.blk, h.glob, h.old, h.size, h.same, fun r o hr => h.prvs r o (hs _ hr), fun r o b ob L hr => h.prvN r o b ob L (hs _ hr)⟩

/-- A number for a block that is not looked at. -/
theorem Rel.name (h : Rel P w0 prv β H w) {b : Nat} {L : Loc} (hb : β b = none) (hbn : b < H.next) (hL : L.blk < w.heap.size) (hn : H.get b = none) : Rel P w0 prv (β.put b L) H w := by
  have hk := Inj.put_keep (β := β) (L := L) hb
  have hne : ∀ k o, H.get k = some o → k ≠ b := fun k o hk' e => by subst e; rw [hn] at hk'; cases hk'
  have hnone : ∀ k M, k ≠ b → (β.put b L) k = some M → β k = some M := fun k M hkb hm => by simpa [Inj.put, hkb] using hm
  constructor
  · intro k o hk'
    obtain ⟨M, h1, h2⟩ := h.obj k o hk'
    exact ⟨M, hk k M h1, h2.mono hk rfl⟩
  · intro k o M hk' hM hw; exact h.new k o M hk' (hnone k M (hne k o hk') hM) hw
  · intro k k' o o' M M' hne' h1 h2 h3 h4 hw; exact h.inj k k' o o' M M' hne' h1 h2 (hnone _ _ (hne _ _ h1) h3) (hnone _ _ (hne _ _ h2) h4) hw
  · intro k M hM
    by_cases e : k = b
    · subst e; exact hbn
    · exact h.dom k M (hnone k M e hM)
  · intro k M hM
    by_cases e : k = b
    · subst e; rw [Inj.put_same] at hM; injection hM with hM; subst hM; exact hL
    · exact h.blk k M (hnone k M e hM)
  · intro g hg; obtain ⟨M, h1, h2⟩ := h.glob g hg; exact ⟨M, hk g M h1, h2⟩
  · exact h.old
  · exact h.size
  · exact h.same
  · exact h.prvs
  · intro r o k ob M hr hk' hM; exact h.prvN r o k ob M hr hk' (hnone k M (hne k ob hk') hM)

/-- It is looked at. -/
theorem Rel.addBack {r : Nat} {x : Obj} (h : Rel P w0 prv β H w) (hr : (r, x) ∈ prv) (hs : ∀ p ∈ prv', p ∈ prv ∧ p.1 ≠ r) {b : Nat} {L : Loc} {o : AObj} (hn : H.get b = none) (hb : β b = some L) (hL : L.blk = r) (hnew : w0.heap.size ≤ r)
    (ho : ∀ w', w'.heap[L.blk]? = some x → ORel P β w' L o) : Rel P w0 prv' β (H.set b o) w := by
  have hx := h.prvs r x hr
  have cases' : ∀ k ob, (H.set b o).get k = some ob → (k = b ∧ ob = o) ∨ (k ≠ b ∧ H.get k = some ob) := by
    intro k ob hk
    rw [Heap.get_set] at hk
    by_cases e : k = b
    · rw [if_pos e] at hk; injection hk with hk; exact .inl ⟨e, hk.symm⟩
    · rw [if_neg e] at hk; exact .inr ⟨e, hk⟩
  have far : ∀ k ob M, H.get k = some ob → β k = some M → M.blk ≠ L.blk := by
    intro k ob M hk hM e
    exact h.prvN r x k ob M hr hk hM (by rw [e, hL])
  constructor
  · intro k ob hk
    rcases cases' k ob hk with ⟨rfl, rfl⟩ | ⟨_, hk⟩
    · exact ⟨L, hb, ho w (by rw [hL]; exact hx)⟩
    · exact h.obj k ob hk
  · intro k ob M hk hM hw
    rcases cases' k ob hk with ⟨rfl, rfl⟩ | ⟨_, hk⟩
    · rw [hb] at hM; injection hM with hM; subst hM; rw [hL]; exact hnew
    · exact h.new k ob M hk hM hw
  · intro k k' ob ob' M M' hne h1 h2 h3 h4 hw
    rcases cases' k ob h1 with ⟨e1, e2⟩ | ⟨_, g1⟩
    · subst e1; rw [hb] at h3; injection h3 with h3; subst h3
      rcases cases' k' ob' h2 with ⟨e3, e4⟩ | ⟨_, g2⟩
      · exact absurd e3.symm hne
      · exact (far k' ob' M' g2 h4).symm
    · rcases cases' k' ob' h2 with ⟨e3, e4⟩ | ⟨_, g2⟩
      · subst e3; rw [hb] at h4; injection h4 with h4; subst h4
        exact far k ob M g1 h3
      · exact h.inj k k' ob ob' M M' hne g1 g2 h3 h4 hw
  · exact h.dom
  · exact h.blk
  · exact h.glob
  · exact h.old
  · exact h.size
  · exact h.same
  · intro r' o' hr'; exact h.prvs r' o' (hs _ hr').1
  · intro r' o' k ob M hr' hk hM
    rcases cases' k ob hk with ⟨rfl, rfl⟩ | ⟨_, hk⟩
    · rw [hb] at hM; injection hM with hM; subst hM
      rw [hL]; exact fun e => (hs _ hr').2 e.symm
    · exact h.prvN r' o' k ob M (hs _ hr').1 hk hM

def XS (cur na : Nat) (X : Nat → Option (Nat × Obj)) : List (Nat × Obj) := (List.range' cur (na - cur)).filterMap X

theorem mem_XS {cur na : Nat} {X : Nat → Option (Nat × Obj)} {p : Nat × Obj} : p ∈ XS cur na X ↔ ∃ j, cur ≤ j ∧ j < na ∧ X j = some p := by
  unfold XS
  rw [List.mem_filterMap]
  constructor
  · rintro ⟨j, hj, hx⟩
    rw [List.mem_range'_1] at hj
    exact ⟨j, hj.1, by omega, hx⟩
  · rintro ⟨j, h1, h2, hx⟩
    exact ⟨j, List.mem_range'_1.2 ⟨h1, by omega⟩, hx⟩

def FRel (P : Program) (β : Inj) (N : Nat) (e : FEnv) (t : Array Value) : Prop := t.size = N ∧ ∀ n v, e n = some v → VRel P β v (t.getD n undef)

theorem FRel.mono {β' : Inj} (hk : ∀ b L, β b = some L → β' b = some L) {N : Nat} {e : FEnv} {t : Array Value} (h : FRel P β N e t) : FRel P β' N e t := ⟨h.1, fun n v hn => VRel.mono hk _ _ (h.2 n v hn)⟩

theorem FRel.put {N : Nat} {e : FEnv} {t : Array Value} (hE : FRel P β N e t) {d : Option Nat} (hd : cDst N d = true) {ds : List Deferred} {v : AV} {u : Value} (hv : VRel P β v u) : FRel P β N (fput e d v) ((Act.mk t ds).put d u).tmps := by
  cases d with
  | none => exact hE
  | some n =>
    have hn : n < t.size := by rw [hE.1]; simpa [cDst] using hd
    refine ⟨by simpa [Act.put] using hE.1, ?_⟩
    intro m x hm
    simp only [fput] at hm
    split at hm
    · rename_i hb
      subst hb
      injection hm with hm; subst hm
      simpa [Act.put, Array.getElem?_setIfInBounds, hn] using hv
    · rename_i hb
      have hne : n ≠ m := fun h => hb h.symm
      have := hE.2 m x hm
      simpa [Act.put, Array.getD_eq_getD_getElem?, Array.getElem?_setIfInBounds_ne hne] using this

/-- a function's values, as a list of what is asked of it. -/
def pick (e : FEnv) : List Nat → Env
  | [] => []
  | n :: r => match e n with
    | some v => (n, v) :: pick e r
    | none => pick e r

theorem pick_get {e : FEnv} : ∀ {l : List Nat} {n : Nat}, n ∈ l → (pick e l).get n = e n
  | m :: l, n, h => by
    simp only [pick]
    by_cases e' : m = n
    · subst e'
      split
      · rename_i v hv; simp [Env.get, hv]
      · rename_i hv
        by_cases h' : m ∈ l
        · exact pick_get h'
        · rw [hv]
          have : ∀ l : List Nat, m ∉ l → (pick e l).get m = none := by
            intro l
            induction l with
            | nil => intro _; rfl
            | cons k r ih =>
              intro hm
              simp only [List.mem_cons, not_or] at hm
              simp only [pick]
              split
              · simp only [Env.get]
                have : Nat.beq k m = false := by
                  cases hb : Nat.beq k m with
                  | false => rfl
                  | true => exact absurd (Nat.eq_of_beq_eq_true hb).symm hm.1
                rw [this]; exact ih hm.2
              · exact ih hm.2
          exact this l h'
    · have hn : n ∈ l := by
        rcases List.mem_cons.1 h with h | h
        · exact absurd h.symm e'
        · exact h
      split
      · simp only [Env.get]
        have : Nat.beq m n = false := by
          cases hb : Nat.beq m n with
          | false => rfl
          | true => exact absurd (Nat.eq_of_beq_eq_true hb) e'
        rw [this]; exact pick_get hn
      · exact pick_get hn

theorem pick_some {e : FEnv} : ∀ {l : List Nat} {n : Nat} {v : AV}, (pick e l).get n = some v → e n = some v
  | [], n, v, h => by simp [pick, Env.get] at h
  | m :: l, n, v, h => by
    simp only [pick] at h
    split at h
    · rename_i x hx
      simp only [Env.get] at h
      split at h
      · rename_i hb
        have := Nat.eq_of_beq_eq_true hb
        subst this
        rw [hx]; exact h
      · exact pick_some h
    · exact pick_some h

theorem FRel.pick {N : Nat} {e : FEnv} {t : Array Value} (h : FRel P β N e t) (l : List Nat) : EnvRel P β N (pick e l) t := ⟨h.1, fun n v hn => h.2 n v (pick_some hn)⟩

theorem fkeep_rel {N : Nat} {e : FEnv} {t : Array Value} (h : FRel P β N e t) (l : List Nat) : EnvRel P β N (fkeep e l) t := by
  have : fkeep e l = AE.pick e l := by
    induction l with
    | nil => rfl
    | cons x r ih => simp only [fkeep, AE.pick, ih]; rfl
  rw [this]; exact h.pick l

theorem evs_pick {e : FEnv} {l : List Nat} : ∀ {xs : List Opd}, (∀ n, Opd.t n ∈ xs → n ∈ l) → evs (pick e l) xs = fevs e xs
  | [], _ => rfl
  | x :: r, h => by
    simp only [evs, fevs]
    have h1 : ev (pick e l) x = fev e x := by
      cases x with
      | t n => exact pick_get (h n (by simp))
      | c v => rfl
    rw [h1, evs_pick (fun n hn => h n (by simp [hn]))]
    rfl

theorem wants_pick {e : FEnv} {l : List Nat} {g : Option (Nat × Bool)} (h : ∀ n b, g = some (n, b) → n ∈ l) : wants (pick e l) g = fwants e g := by
  cases g with
  | none => rfl
  | some p =>
    obtain ⟨n, b⟩ := p
    simp only [wants, fwants, pick_get (h n b rfl)]
    rfl

theorem fevs_sound (hR : Rel P w0 prv β H w) {N : Nat} {e : FEnv} {t : Array Value} (hE : FRel P β N e t) {ds : List Deferred} {ys : List Operand} {os : List Opd} {vs : List AV} (hc : cOpds P ys = some os) (hv : fevs e os = some vs) :
    VRels P β vs (ys.map (Act.mk t ds).eval) := by
  have hl : ∀ n, Opd.t n ∈ os → n ∈ (os.filterMap fun | .t n => some n | .c _ => none) := fun n hn => List.mem_filterMap.2 ⟨.t n, hn, rfl⟩
  rw [← evs_pick hl] at hv
  exact cOpds_sound hR (hE.pick _) hc hv

theorem fwants_sound {N : Nat} {e : FEnv} {t : Array Value} (hE : FRel P β N e t) {ops : Array Oper} {o : Oper} {g : Option (Nat × Bool)} (hg : cGuard ops o.guard = some g) {b : Bool} (hw : fwants e g = some b) : Region.wanted o (yielded ops t) = b := by
  have hl : ∀ n b, g = some (n, b) → n ∈ (match g with | some (n, _) => [n] | none => []) := by
    rintro n b rfl; simp
  rw [← wants_pick hl] at hw
  exact wants_sound (hE.pick _) hg hw

/-- The state between two operations. -/
structure MS (P : Program) (w0 : World) (prv : List (Nat × Obj)) (base na N : Nat) (β0 : Inj) (H0 : Heap) (β : Inj) (H : Heap) (w : World) (e : FEnv) (t : Array Value) (q : Nat → Option AObj) (cur : Nat) (X : Nat → Option (Nat × Obj)) : Prop where
  rel : Rel P w0 (XS cur na X ++ prv) β H w
  env : FRel P β N e t
  nx : base + na ≤ H.next
  ext : Ext base β0 β
  evo : ∀ b, b < base → H0.get b = none → H.get b = none
  pend : ∀ j o, cur ≤ j → j < na → q j = some o → ∃ L x, β (base + j) = some L ∧ X j = some (L.blk, x) ∧ ∀ w', w'.heap[L.blk]? = some x → ORel P β w' L o
  hid : ∀ j, cur ≤ j → j < na → H.get (base + j) = none
  free : ∀ j, j < na → X j = none → β (base + j) = none ∧ H.get (base + j) = none
  inj : ∀ i j r x r' x', cur ≤ i → cur ≤ j → i < na → j < na → i ≠ j → X i = some (r, x) → X j = some (r', x') → r ≠ r'
  out : ∀ j r x, cur ≤ j → j < na → X j = some (r, x) → w0.heap.size ≤ r ∧ ∀ p ∈ prv, p.1 ≠ r

section
variable {base na N : Nat} {β0 : Inj} {H0 : Heap} {e : FEnv} {t : Array Value} {q : Nat → Option AObj} {cur : Nat} {X : Nat → Option (Nat × Obj)}

theorem flushF_next {base : Nat} {q : Nat → Option AObj} : ∀ (n c : Nat) (H : Heap), (flushF base q n c H).next = H.next
  | 0, _, _ => rfl
  | n + 1, c, H => by
    simp only [flushF]
    rw [flushF_next n]
    split <;> rfl

theorem MS.flush : ∀ (n : Nat) {cur : Nat} {H : Heap}, cur + n ≤ na → MS P w0 prv base na N β0 H0 β H w e t q cur X → MS P w0 prv base na N β0 H0 β (flushF base q n cur H) w e t q (cur + n) X
  | 0, cur, H, _, h => h
  | n + 1, cur, H, hn, h => by
    simp only [flushF]
    have e1 : cur + (n + 1) = cur + 1 + n := by omega
    rw [e1]
    refine MS.flush n (by omega) ?_
    cases hq : q cur with
    | none =>
      simp only
      exact ⟨h.rel.prvSub (fun p hp => by
          rcases List.mem_append.1 hp with hp | hp
          · obtain ⟨j, h1, h2, h3⟩ := mem_XS.1 hp
            exact List.mem_append_left _ (mem_XS.2 ⟨j, by omega, h2, h3⟩)
          · exact List.mem_append_right _ hp), h.env, h.nx, h.ext, h.evo, fun j o h1 => h.pend j o (by omega), fun j h1 => h.hid j (by omega), h.free, fun i j r x r' x' h1 h2 => h.inj i j r x r' x' (by omega) (by omega), fun j r x h1 => h.out j r x (by omega)⟩
    | some o =>
      simp only
      obtain ⟨L, x, hL, hX, hO⟩ := h.pend cur o (Nat.le_refl _) (by omega) hq
      have hget : ∀ k, k ≠ base + cur → (H.set (base + cur) o).get k = H.get k := fun k hk => by rw [Heap.get_set, if_neg hk]
      refine ⟨h.rel.addBack (r := L.blk) (x := x) ?_ ?_ (h.hid cur (Nat.le_refl _) (by omega)) hL rfl (h.out _ _ _ (Nat.le_refl _) (by omega) hX).1 hO, h.env, h.nx, h.ext, ?_, fun j o h1 => h.pend j o (by omega), ?_, ?_, fun i j r x r' x' h1 h2 => h.inj i j r x r' x' (by omega) (by omega), fun j r x h1 => h.out j r x (by omega)⟩
      · exact List.mem_append_left _ (mem_XS.2 ⟨cur, Nat.le_refl _, by omega, hX⟩)
      · intro p hp
        rcases List.mem_append.1 hp with hp | hp
        · obtain ⟨j, h1, h2, h3⟩ := mem_XS.1 hp
          exact ⟨List.mem_append_left _ (mem_XS.2 ⟨j, by omega, h2, h3⟩), h.inj j cur p.1 p.2 L.blk x (by omega) (Nat.le_refl _) h2 (by omega) (by omega) h3 hX⟩
        · exact ⟨List.mem_append_right _ hp, (h.out _ _ _ (Nat.le_refl _) (by omega) hX).2 p hp⟩
      · intro b hb hn; rw [hget b (by omega)]; exact h.evo b hb hn
      · intro j h1 h2; rw [hget _ (by omega)]; exact h.hid j (by omega) h2
      · intro j h1 h2
        obtain ⟨g1, g2⟩ := h.free j h1 h2
        have hjc : j ≠ cur := by rintro rfl; rw [hX] at h2; cases h2
        exact ⟨g1, by rw [hget _ (by omega)]; exact g2⟩
end
end
end Go.AE
