/-
  Regions that draw their order, in plain Lean: what is evaluated in one order may be evaluated in any other that keeps what hangs together.
-/
import Derived.Test.YtoinombhonbibaaGreatDoorAeB
set_option linter.unusedSimpArgs false
set_option linter.unusedVariables false
set_option linter.unusedSectionVars false
namespace Go.AE

abbrev FEnv := Nat → Option AV

def fput (e : FEnv) (d : Option Nat) (v : AV) : FEnv := match d with
  | none => e
  | some n => fun m => if m = n then some v else e m
def fev (e : FEnv) : Opd → Option AV
  | .t n => e n
  | .c v => some v
def fevs (e : FEnv) : List Opd → Option (List AV)
  | [] => some []
  | x :: r => match fev e x with
    | some v => match fevs e r with
      | some l => some (v :: l)
      | none => none
    | none => none
def fwants (e : FEnv) : Option (Nat × Bool) → Option Bool
  | none => some true
  | some (g, b) => match e g with
    | some (.bool x) => some (x == b)
    | some (.tup []) => some false
    | _ => none
def fkeep (e : FEnv) : List Nat → Env
  | [] => []
  | n :: r => match e n with
    | some v => (n, v) :: fkeep e r
    | none => fkeep e r

theorem fev_get (e : Env) (x : Opd) : fev e.get x = ev e x := by cases x <;> rfl
theorem fevs_get (e : Env) (l : List Opd) : fevs e.get l = evs e l := by
  induction l with
  | nil => rfl
  | cons x r ih => simp only [fevs, evs, fev_get, ih]; rfl
theorem fwants_get (e : Env) (g : Option (Nat × Bool)) : fwants e.get g = wants e g := by
  cases g with
  | none => rfl
  | some p => rfl
theorem fkeep_get (e : Env) (l : List Nat) : fkeep e.get l = e.keep l := by
  induction l with
  | nil => rfl
  | cons x r ih => simp only [fkeep, Env.keep, ih]; rfl
theorem fput_get (e : Env) (d : Option Nat) (v : AV) : (e.putO d v).get = fput e.get d v := by
  cases d with
  | none => rfl
  | some n =>
    funext m
    simp only [Env.putO, Env.get, fput]
    by_cases h : m = n
    · subst h; simp
    · have : Nat.beq n m = false := by
        cases hb : Nat.beq n m with
        | false => rfl
        | true => exact absurd (Nat.eq_of_beq_eq_true hb).symm h
      simp [this, h]

structure QR where
  v : AV
  q : Option (Nat × AObj)
  w : Option (Nat × (Heap → Prop))

def quiet (base : Nat) (d : DOp) (e : FEnv) (H : Heap) : Option QR :=
  match fwants e d.o.guard with
  | some false => some ⟨.tup [], none, none⟩
  | some true => match fevs e d.o.xs with
    | some xs => match d.k with
      | .pure => match pureOp d.o.op xs with
        | some v => some ⟨v, none, none⟩
        | none => none
      | .read hi => match readOp d.o.op xs H with
        | some v => some ⟨v, none, some (hi, fun H' => readOp d.o.op xs H' = some v)⟩
        | none => none
      | .alloc j => match allocOp d.o.op xs with
        | some (f, o) => some ⟨f (base + j), some (j, o), none⟩
        | none => none
      | .eff _ _ => none
    | none => none
  | none => none

def qput (q : Nat → Option AObj) : Option (Nat × AObj) → Nat → Option AObj
  | none => q
  | some (j, o) => fun m => if m = j then some o else q m
def wput (ws : Nat → Heap → Prop) : Option (Nat × (Heap → Prop)) → Nat → Heap → Prop
  | none => ws
  | some (hi, F) => fun n H => (n ≤ hi → F H) ∧ ws n H

def flushF (base : Nat) (q : Nat → Option AObj) : Nat → Nat → Heap → Heap
  | 0, _, H => H
  | n + 1, c, H => flushF base q n (c + 1) (match q c with | some o => H.set (base + c) o | none => H)

def opUp (ih : Job → Prop) (op : IOp) (xs : List AV) (H : Heap) (K : AV → Heap → Prop) : Prop := ∃ K0, opWp ih op xs H K0 ∧ ∀ v H', K0 v H' → K v H'

def effStep (ih : Job → Prop) (base : Nat) (d : DOp) (num hi : Nat) (e : FEnv) (H : Heap) (q : Nat → Option AObj) (ws : Nat → Heap → Prop) (cur : Nat) (next : FEnv → Heap → Nat → Prop) : Prop :=
  match fwants e d.o.guard with
  | some false => next (fput e d.o.dst (.tup [])) H cur
  | some true => match fevs e d.o.xs with
    | some xs => opUp ih d.o.op xs (flushF base q (hi - cur) cur H) fun v H' => ws num H' ∧ next (fput e d.o.dst v) H' (max cur hi)
    | none => False
  | none => False

def sWp (ih : Job → Prop) (base na : Nat) (K : FEnv → Heap → Prop) : List DOp → FEnv → Heap → (Nat → Option AObj) → (Nat → Heap → Prop) → Nat → Prop
  | [], e, H, q, _, cur => K e (flushF base q (na - cur) cur H)
  | d :: r, e, H, q, ws, cur => match d.k with
    | .eff num hi => effStep ih base d num hi e H q ws cur fun e H cur => sWp ih base na K r e H q ws cur
    | _ => ∃ x, quiet base d e H = some x ∧ sWp ih base na K r (fput e d.o.dst x.v) H (qput q x.q) (wput ws x.w) cur

def DK.quiet : DK → Bool
  | .eff _ _ => false
  | _ => true

theorem DK.notQuiet {k : DK} (h : ¬ k.quiet = true) : ∃ num hi, k = .eff num hi := by
  cases k with
  | eff n m => exact ⟨n, m, rfl⟩
  | _ => exact absurd rfl h

section
variable {ih : Job → Prop} {base na : Nat} {K : FEnv → Heap → Prop}

theorem sWp_eff {d : DOp} {num hi : Nat} (h : d.k = .eff num hi) (r : List DOp) (e : FEnv) (H : Heap) (q : Nat → Option AObj) (ws : Nat → Heap → Prop) (cur : Nat) :
    sWp ih base na K (d :: r) e H q ws cur = effStep ih base d num hi e H q ws cur fun e H cur => sWp ih base na K r e H q ws cur := by
  simp only [sWp, h]
theorem sWp_quiet {d : DOp} (h : d.k.quiet = true) (r : List DOp) (e : FEnv) (H : Heap) (q : Nat → Option AObj) (ws : Nat → Heap → Prop) (cur : Nat) :
    sWp ih base na K (d :: r) e H q ws cur = ∃ x, quiet base d e H = some x ∧ sWp ih base na K r (fput e d.o.dst x.v) H (qput q x.q) (wput ws x.w) cur := by
  cases hk : d.k <;> simp only [hk, DK.quiet] at h <;> first | (cases h; done) | simp only [sWp, hk]

theorem effStep_mono {d : DOp} {num hi : Nat} {e : FEnv} {H : Heap} {q : Nat → Option AObj} {ws : Nat → Heap → Prop} {cur : Nat} {f g : FEnv → Heap → Nat → Prop} (h : effStep ih base d num hi e H q ws cur f)
    (hfg : ∀ e H cur, f e H cur → g e H cur) : effStep ih base d num hi e H q ws cur g := by
  unfold effStep at *
  split at h
  · exact hfg _ _ _ h
  · split at h
    · obtain ⟨K0, h1, h2⟩ := h
      rename_i hxs
      exact ⟨K0, h1, fun v H' hk => ⟨(h2 v H' hk).1, hfg _ _ _ (h2 v H' hk).2⟩⟩
    · exact h.elim
  · exact h.elim

theorem sWp_mono {d : DOp} {l l' : List DOp} {e : FEnv} {H : Heap} {q : Nat → Option AObj} {ws : Nat → Heap → Prop} {cur : Nat} (h : sWp ih base na K (d :: l) e H q ws cur)
    (hl : ∀ e H q ws cur, sWp ih base na K l e H q ws cur → sWp ih base na K l' e H q ws cur) : sWp ih base na K (d :: l') e H q ws cur := by
  cases hk : d.k with
  | eff num hi => rw [sWp_eff hk] at h ⊢; exact effStep_mono h fun e H cur => hl _ _ _ _ _
  | _ =>
    have hq : d.k.quiet = true := by rw [hk]; rfl
    rw [sWp_quiet hq] at h ⊢
    obtain ⟨x, h1, h2⟩ := h
    exact ⟨x, h1, hl _ _ _ _ _ h2⟩

/-! ### What is put elsewhere is not seen -/
theorem fev_put {e : FEnv} {d : Option Nat} {v : AV} {x : Opd} (h : ∀ n, d = some n → x ≠ .t n) : fev (fput e d v) x = fev e x := by
  cases d with
  | none => rfl
  | some n =>
    cases x with
    | t m =>
      have : m ≠ n := fun hm => h n rfl (by rw [hm])
      simp [fev, fput, this]
    | c v => rfl
theorem fevs_put {e : FEnv} {d : Option Nat} {v : AV} : ∀ {xs : List Opd}, (∀ n, d = some n → Opd.t n ∉ xs) → fevs (fput e d v) xs = fevs e xs
  | [], _ => rfl
  | x :: r, h => by
    simp only [fevs]
    rw [fev_put (fun n hn hx => h n hn (by simp [hx])), fevs_put (fun n hn hx => h n hn (by simp [hx]))]
theorem fwants_put {e : FEnv} {d : Option Nat} {v : AV} {g : Option (Nat × Bool)} (h : ∀ n, d = some n → ∀ b, g ≠ some (n, b)) : fwants (fput e d v) g = fwants e g := by
  cases g with
  | none => rfl
  | some p =>
    obtain ⟨m, b⟩ := p
    cases d with
    | none => rfl
    | some n =>
      have : m ≠ n := fun hm => h n rfl b (by rw [hm])
      simp [fwants, fput, this]

/-- d is not among what o looks at. -/
def unseen (d : Option Nat) (o : IOper) : Prop := ∀ n, d = some n → n ∉ usesOf o

theorem unseen_xs {d : Option Nat} {o : IOper} (h : unseen d o) : ∀ n, d = some n → Opd.t n ∉ o.xs := fun n hn hx =>
  h n hn (List.mem_append_left _ (List.mem_filterMap.2 ⟨.t n, hx, rfl⟩))
theorem unseen_guard {d : Option Nat} {o : IOper} (h : unseen d o) : ∀ n, d = some n → ∀ b, o.guard ≠ some (n, b) := fun n hn b hg =>
  h n hn (List.mem_append_right _ (by rw [hg]; simp))

theorem quiet_put {b : DOp} {d : Option Nat} (h : unseen d b.o) {e : FEnv} {v : AV} {H : Heap} : quiet base b (fput e d v) H = quiet base b e H := by
  unfold quiet
  rw [fwants_put (unseen_guard h), fevs_put (unseen_xs h)]

theorem fput_comm {d d' : Option Nat} (h : ∀ n, d = some n → d' ≠ some n) (e : FEnv) (v v' : AV) : fput (fput e d v) d' v' = fput (fput e d' v') d v := by
  cases d with
  | none => rfl
  | some n =>
    cases d' with
    | none => rfl
    | some m =>
      have hne : n ≠ m := fun e => h n rfl (by rw [e])
      funext k
      simp only [fput]
      by_cases h1 : k = m
      · subst h1; rw [if_pos rfl, if_neg (fun h => hne h.symm), if_pos rfl]
      · rw [if_neg h1]
        by_cases h2 : k = n
        · rw [if_pos h2, if_pos h2]
        · rw [if_neg h2, if_neg h2, if_neg h1]

theorem quiet_later {a : DOp} {e : FEnv} {H H' : Heap} {x : QR} (h : quiet base a e H = some x) (hw : ∀ hi F, x.w = some (hi, F) → F H') : quiet base a e H' = some x := by
  unfold quiet at *
  split at h
  · exact h
  · split at h
    · split at h
      · exact h
      · split at h
        · rename_i v hv
          injection h with h; subst h
          have := hw _ _ rfl
          rw [this]
        · cases h
      · exact h
      · exact h
    · cases h
  · cases h

theorem quiet_anyH {a : DOp} {e : FEnv} {H H' : Heap} (h : ∀ hi, a.k ≠ .read hi) : quiet base a e H' = quiet base a e H := by
  unfold quiet
  split
  · rfl
  · split
    · split
      · rfl
      · rename_i hi hk; exact absurd hk (h hi)
      · rfl
      · rfl
    · rfl
  · rfl

theorem quiet_q {a : DOp} {e : FEnv} {H : Heap} {x : QR} (h : quiet base a e H = some x) : x.q = none ∨ ∃ j o, a.k = .alloc j ∧ x.q = some (j, o) := by
  unfold quiet at h
  split at h
  · injection h with h; subst h; exact .inl rfl
  · split at h
    · split at h
      · split at h
        · injection h with h; subst h; exact .inl rfl
        · cases h
      · split at h
        · injection h with h; subst h; exact .inl rfl
        · cases h
      · rename_i j hk
        split at h
        · injection h with h; subst h; exact .inr ⟨j, _, hk, rfl⟩
        · cases h
      · cases h
    · cases h
  · cases h

theorem quiet_w {a : DOp} {e : FEnv} {H : Heap} {x : QR} (h : quiet base a e H = some x) : x.w = none ∨ ∃ hi F, a.k = .read hi ∧ x.w = some (hi, F) := by
  unfold quiet at h
  split at h
  · injection h with h; subst h; exact .inl rfl
  · split at h
    · split at h
      · split at h
        · injection h with h; subst h; exact .inl rfl
        · cases h
      · rename_i hi hk
        split at h
        · injection h with h; subst h; exact .inr ⟨hi, _, hk, rfl⟩
        · cases h
      · split at h
        · injection h with h; subst h; exact .inl rfl
        · cases h
      · cases h
    · cases h
  · cases h

theorem flushF_congr {q q' : Nat → Option AObj} : ∀ (n c : Nat) (H : Heap), (∀ k, c ≤ k → k < c + n → q k = q' k) → flushF base q n c H = flushF base q' n c H
  | 0, _, _, _ => rfl
  | n + 1, c, H, h => by
    simp only [flushF]
    rw [h c (Nat.le_refl _) (by omega)]
    exact flushF_congr n (c + 1) _ (fun k h1 h2 => h k (by omega) (by omega))

theorem indep_dst {a b : DOp} (h : indep a b = true) : unseen a.o.dst b.o ∧ unseen b.o.dst a.o ∧ ∀ n, a.o.dst = some n → b.o.dst ≠ some n := by
  unfold indep at h
  simp only [Bool.and_eq_true] at h
  obtain ⟨⟨h1, h2⟩, _⟩ := h
  refine ⟨?_, ?_, ?_⟩
  · intro n hn hm
    rw [hn] at h1
    simp at h1
    exact h1.1 hm
  · intro n hn hm
    rw [hn] at h2
    simp at h2
    exact h2 hm
  · intro n hn hm
    rw [hn, hm] at h1
    simp only [Bool.and_eq_true, Bool.not_eq_true'] at h1
    rw [Nat.beq_refl] at h1
    exact absurd h1.2 (by simp)

theorem indep_k {a b : DOp} (h : indep a b = true) : (match a.k, b.k with
    | .eff _ _, .eff _ _ => false
    | .eff _ hi, .alloc j => Nat.ble hi j
    | .eff _ _, .read _ => false
    | .eff _ _, .pure => true
    | .alloc _, .eff _ _ => false
    | .read h, .eff num _ => Nat.ble num h
    | .pure, .eff _ _ => true
    | .alloc i, .alloc j => !Nat.beq i j
    | _, _ => true) = true := by
  unfold indep at h
  simp only [Bool.and_eq_true] at h
  exact h.2

theorem qput_comm {q : Nat → Option AObj} {x y : Option (Nat × AObj)} (h : ∀ i o j o', x = some (i, o) → y = some (j, o') → i ≠ j) : qput (qput q x) y = qput (qput q y) x := by
  cases x with
  | none => rfl
  | some p =>
    cases y with
    | none => rfl
    | some p' =>
      obtain ⟨i, o⟩ := p
      obtain ⟨j, o'⟩ := p'
      have hne := h i o j o' rfl rfl
      funext k
      simp only [qput]
      by_cases h1 : k = j
      · subst h1; rw [if_pos rfl, if_neg (fun h => hne h.symm), if_pos rfl]
      · rw [if_neg h1]
        by_cases h2 : k = i
        · rw [if_pos h2, if_pos h2]
        · rw [if_neg h2, if_neg h2, if_neg h1]

theorem wput_comm {ws : Nat → Heap → Prop} (x y : Option (Nat × (Heap → Prop))) : wput (wput ws x) y = wput (wput ws y) x := by
  cases x with
  | none => rfl
  | some p =>
    cases y with
    | none => rfl
    | some p' =>
      funext n H
      simp only [wput]
      exact propext ⟨fun ⟨a, b, c⟩ => ⟨b, a, c⟩, fun ⟨a, b, c⟩ => ⟨b, a, c⟩⟩

theorem swap (hI : ∀ op xs H K0, opWp ih op xs H K0 → ∃ v H', K0 v H') {a b : DOp} (hi : indep a b = true) {r : List DOp} {e : FEnv} {H : Heap} {q : Nat → Option AObj} {ws : Nat → Heap → Prop} {cur : Nat}
    (h : sWp ih base na K (a :: b :: r) e H q ws cur) : sWp ih base na K (b :: a :: r) e H q ws cur := by
  obtain ⟨ua, ub, ud⟩ := indep_dst hi
  have hkk := indep_k hi
  by_cases hqa : a.k.quiet = true
  · rw [sWp_quiet hqa] at h
    obtain ⟨x, hx, h⟩ := h
    by_cases hqb : b.k.quiet = true
    · rw [sWp_quiet hqb] at h
      obtain ⟨y, hy, h⟩ := h
      rw [quiet_put ua] at hy
      rw [sWp_quiet hqb]
      refine ⟨y, hy, ?_⟩
      rw [sWp_quiet hqa]
      refine ⟨x, by rw [quiet_put ub]; exact hx, ?_⟩
      rw [fput_comm ud] at h
      rw [wput_comm] at h
      rw [qput_comm] at h
      · exact h
      · intro i o j o' h1 h2
        rcases quiet_q hx with g1 | ⟨i', o1, g1, g2⟩
        · rw [g1] at h1; cases h1
        · rw [g2] at h1; injection h1 with h1; injection h1 with h1 _; subst h1
          rcases quiet_q hy with g3 | ⟨j', o2, g3, g4⟩
          · rw [g3] at h2; cases h2
          · rw [g4] at h2; injection h2 with h2; injection h2 with h2 _; subst h2
            rw [g1, g3] at hkk
            simp only [Bool.not_eq_true'] at hkk
            rintro rfl
            rw [Nat.beq_refl] at hkk; cases hkk
    · obtain ⟨num, hi', hkb⟩ := DK.notQuiet hqb
      rw [sWp_eff hkb] at h ⊢
      have hxq : x.q = none := by
        rcases quiet_q hx with g | ⟨j, o, g, _⟩
        · exact g
        · rw [g, hkb] at hkk; cases hkk
      rw [hxq] at h
      simp only [qput] at h
      have hww : ∀ H', wput ws x.w num H' → (∀ hi F, x.w = some (hi, F) → F H') ∧ ws num H' := by
        intro H' hw
        rcases quiet_w hx with g | ⟨hr, F, g1, g2⟩
        · rw [g] at hw; exact ⟨fun hi F h => (by rw [g] at h; cases h), hw⟩
        · rw [g2] at hw
          rw [g1, hkb] at hkk
          simp only at hkk
          exact ⟨fun hi F' h => (by rw [g2] at h; injection h with h; injection h with h1 h2; subst h2; exact hw.1 (Nat.le_of_ble_eq_true hkk)), hw.2⟩
      have fin : ∀ e H' v cur, (∀ hi F, x.w = some (hi, F) → F H') → quiet base a e H = some x → sWp ih base na K r (fput (fput e a.o.dst x.v) b.o.dst v) H' q (wput ws x.w) cur →
          sWp ih base na K (a :: r) (fput e b.o.dst v) H' q ws cur := by
        intro e H' v cur hF hx h
        rw [sWp_quiet hqa]
        refine ⟨x, by rw [quiet_put ub]; exact quiet_later hx hF, ?_⟩
        rw [hxq]
        simp only [qput]
        rw [fput_comm ud] at h
        exact h
      unfold effStep at h ⊢
      rw [fwants_put (unseen_guard ua)] at h
      split at h
      · rename_i hg
        refine fin e H (.tup []) cur ?_ hx h
        intro hi F hw
        rcases quiet_w hx with g | ⟨hr, F', g1, g2⟩
        · rw [g] at hw; cases hw
        · -- what was read is there
          rw [g2] at hw; injection hw with hw; injection hw with hw1 hw2; subst hw2
          unfold quiet at hx
          split at hx
          · injection hx with hx; subst hx; cases g2
          · split at hx
            · rw [g1] at hx
              simp only at hx
              split at hx
              · rename_i v hv
                injection hx with hx; subst hx
                simp only at g2
                injection g2 with g2; injection g2 with g3 g4; subst g4
                exact hv
              · cases hx
            · cases hx
          · cases hx
      · rename_i hg
        rw [fevs_put (unseen_xs ua)] at h
        split at h
        · rename_i xs hxs
          obtain ⟨K0, h1, h2⟩ := h
          refine ⟨K0, h1, fun v H' hk => ?_⟩
          obtain ⟨w1, w2⟩ := h2 v H' hk
          obtain ⟨w3, w4⟩ := hww H' w1
          exact ⟨w4, fin e H' v _ w3 hx w2⟩
        · exact h.elim
      · exact h.elim
  · obtain ⟨num, hi', hka⟩ := DK.notQuiet hqa
    have hqb : b.k.quiet = true := by
      cases hk : b.k <;> first | rfl | (rw [hka, hk] at hkk; cases hkk)
    have hnr : ∀ hi, b.k ≠ .read hi := fun hi hk => by rw [hka, hk] at hkk; cases hkk
    rw [sWp_eff hka] at h
    rw [sWp_quiet hqb]
    have step : ∀ e H v cur, sWp ih base na K (b :: r) (fput e a.o.dst v) H q ws cur → ∃ y, quiet base b e H = some y ∧ y.w = none ∧ sWp ih base na K r (fput (fput e b.o.dst y.v) a.o.dst v) H (qput q y.q) ws cur := by
      intro e H v cur h
      rw [sWp_quiet hqb] at h
      obtain ⟨y, hy, h⟩ := h
      rw [quiet_put ua] at hy
      have hw : y.w = none := by
        rcases quiet_w hy with g | ⟨hr, F, g1, g2⟩
        · exact g
        · exact absurd g1 (hnr hr)
      rw [hw] at h
      rw [fput_comm ud] at h
      exact ⟨y, hy, hw, h⟩
    have hflush : ∀ (y : QR) e H, quiet base b e H = some y → ∀ H0, flushF base (qput q y.q) (hi' - cur) cur H0 = flushF base q (hi' - cur) cur H0 := by
      intro y e H hy H0
      rcases quiet_q hy with g | ⟨j, o, g1, g2⟩
      · rw [g]; rfl
      · rw [g2]
        rw [hka, g1] at hkk
        simp only at hkk
        have := Nat.le_of_ble_eq_true hkk
        refine flushF_congr _ _ _ (fun k h1 h2 => ?_)
        simp only [qput]
        rw [if_neg (by omega)]
    unfold effStep at h
    split at h
    · rename_i hg
      obtain ⟨y, hy, hw, h⟩ := step _ _ _ _ h
      refine ⟨y, hy, ?_⟩
      rw [sWp_eff hka]
      unfold effStep
      rw [fwants_put (unseen_guard ub), hg]
      simp only [hw, wput]
      exact h
    · rename_i hg
      split at h
      · rename_i xs hxs
        obtain ⟨K0, h1, h2⟩ := h
        obtain ⟨v0, H0, hk0⟩ := hI _ _ _ _ h1
        obtain ⟨y, hy, hw, _⟩ := step _ _ _ _ (h2 v0 H0 hk0).2
        rw [quiet_anyH (H := H) hnr] at hy
        refine ⟨y, hy, ?_⟩
        rw [sWp_eff hka]
        unfold effStep
        rw [fwants_put (unseen_guard ub), hg, fevs_put (unseen_xs ub), hxs]
        simp only [hw, wput]
        rw [hflush y e H hy]
        refine ⟨K0, h1, fun v H' hk => ?_⟩
        obtain ⟨g1, g2⟩ := h2 v H' hk
        refine ⟨g1, ?_⟩
        obtain ⟨y', hy', _, g3⟩ := step _ _ _ _ g2
        rw [quiet_anyH (H := H) hnr] at hy'
        rw [hy] at hy'; injection hy' with hy'; subst hy'
        exact g3
      · exact h.elim
    · exact h.elim

/-- Whoever hangs from nobody ahead of it may go first. -/
theorem front (hI : ∀ op xs H K0, opWp ih op xs H K0 → ∃ v H', K0 v H') {x : DOp} {β : List DOp} : ∀ {α : List DOp}, (∀ a ∈ α, indep a x = true) → ∀ {e : FEnv} {H : Heap} {q : Nat → Option AObj} {ws : Nat → Heap → Prop} {cur : Nat},
    sWp ih base na K (α ++ x :: β) e H q ws cur → sWp ih base na K (x :: (α ++ β)) e H q ws cur
  | [], _, _, _, _, _, _, h => h
  | a :: α, ha, e, H, q, ws, cur, h => by
    rw [List.cons_append] at h
    have h1 := sWp_mono h (l' := x :: (α ++ β)) (fun e H q ws cur h => front hI (fun a' h' => ha a' (by simp [h'])) h)
    exact swap hI (ha a (by simp)) h1
end
end Go.AE
