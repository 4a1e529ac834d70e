/-
  What is shown to come is come to; the order of evaluation as one among all.
-/
import Derived.Test.YtefkjiedgecjpaaGreatDoorAeR
set_option linter.unusedSimpArgs false
set_option linter.unusedVariables false
set_option linter.unusedSectionVars false
namespace Go.AE

mutual
theorem AV.beq_eq : ∀ (a b : AV), AV.beq a b = true → a = b
  | .bool a, b, h => by cases b <;> simp [AV.beq] at h; subst h; rfl
  | .int k a, b, h => by cases b <;> simp [AV.beq] at h; obtain ⟨h1, h2⟩ := h; subst h1; subst h2; rfl
  | .str a, b, h => by cases b <;> simp [AV.beq] at h; subst h; rfl
  | .nilp, b, h => by cases b <;> simp [AV.beq] at h; rfl
  | .ptr a o, b, h => by cases b <;> simp [AV.beq] at h; obtain ⟨h1, h2⟩ := h; subst h1; subst h2; rfl
  | .nils, b, h => by cases b <;> simp [AV.beq] at h; rfl
  | .sl a o n c e, b, h => by cases b <;> simp [AV.beq] at h; obtain ⟨⟨⟨⟨h1, h2⟩, h3⟩, h4⟩, h5⟩ := h; subst h1; subst h2; subst h3; subst h4; subst h5; rfl
  | .nilm, b, h => by cases b <;> simp [AV.beq] at h; rfl
  | .map a, b, h => by cases b <;> simp [AV.beq] at h; subst h; rfl
  | .nilf, b, h => by cases b <;> simp [AV.beq] at h; rfl
  | .fn f a c, b, h => by
    cases b <;> simp only [AV.beq, Bool.and_eq_true, Bool.false_eq_true] at h
    obtain ⟨⟨h1, h2⟩, h3⟩ := h
    rw [Nat.eq_of_beq_eq_true h1, AV.beqs_eq _ _ h2, AV.beqs_eq _ _ h3]
  | .yield a, b, h => by cases b <;> simp [AV.beq] at h; subst h; rfl
  | .nili, b, h => by cases b <;> simp [AV.beq] at h; rfl
  | .agg a, b, h => by
    cases b <;> simp only [AV.beq, Bool.false_eq_true] at h
    rw [AV.beqs_eq _ _ h]
  | .tup a, b, h => by
    cases b <;> simp only [AV.beq, Bool.false_eq_true] at h
    rw [AV.beqs_eq _ _ h]
theorem AV.beqs_eq : ∀ (a b : List AV), AV.beqs a b = true → a = b
  | [], b, h => by cases b <;> simp [AV.beqs] at h; rfl
  | x :: a, b, h => by
    cases b with
    | nil => simp [AV.beqs] at h
    | cons y b =>
      simp only [AV.beqs, Bool.and_eq_true] at h
      rw [AV.beq_eq _ _ h.1, AV.beqs_eq _ _ h.2]
end

def JobInh : Job → Prop
  | .code _ _ _ Q => ∃ x e H, Q x e H
  | .call _ _ _ K => ∃ v H, K v H

section
variable {ih : Job → Prop} (hJ : ∀ j, ih j → JobInh j)
include hJ

theorem inh_code {c : ICode} {e : Env} {H : Heap} {Q : Out → Env → Heap → Prop} (h : ih (.code c e H Q)) : ∃ x e H, Q x e H := hJ _ h

theorem inh_round {l : Nat} {args : List AV} {H : Heap} {K : AV → Heap → Prop} (h : roundWp ih l args H K) : ∃ v H', K v H' := by
  unfold roundWp at h
  split at h
  · split at h
    · obtain ⟨x, e, H1, h⟩ := inh_code hJ h
      split at h
      · split at h
        · obtain ⟨x, e, H2, h⟩ := inh_code hJ h
          split at h
          · split at h
            · exact ⟨_, _, h⟩
            · exact ⟨_, _, h⟩
          · exact h.elim
        · exact h.elim
      · exact h.elim
    · exact h.elim
  · exact h.elim

theorem inh_op {op : IOp} {xs : List AV} {H : Heap} {K : AV → Heap → Prop} (h : opWp ih op xs H K) : ∃ v H', K v H' := by
  unfold opWp at h
  split at h
  · split at h
    · exact ⟨_, _, h⟩
    · exact h.elim
  · split at h
    · exact ⟨_, _, h⟩
    · exact h.elim
  · split at h
    · exact ⟨_, _, h⟩
    · exact h.elim
  · split at h
    · exact ⟨_, _, h⟩
    · exact h.elim
  · split at h
    · exact hJ _ h
    · exact inh_round hJ h
    · exact h.elim
  · split at h
    · unfold nextWp at h
      split at h
      · split at h
        · split at h
          · split at h
            · exact ⟨_, _, h⟩
            · exact ⟨_, _, h _ (List.mem_cons_self)⟩
          · exact h.elim
        · exact h.elim
      · exact h.elim
    · exact h.elim

theorem inh_reg : ∀ {l : List IOper} {e : Env} {H : Heap} {K : Env → Heap → Prop}, regWp ih l e H K → ∃ e H, K e H
  | [], e, H, K, h => ⟨e, H, h⟩
  | o :: r, e, H, K, h => by
    simp only [regWp] at h
    split at h
    · split at h
      · obtain ⟨v, H', h⟩ := inh_op hJ h
        exact inh_reg h
      · exact h.elim
    · exact inh_reg h
    · exact h.elim

theorem inh_dreg {base : Nat} : ∀ {l : List DOp} {e : Env} {H : Heap} {q : List (Nat × AObj)} {ws : List Watch} {K : Env → Heap → Prop}, dregWp ih base l e H q ws K → ∃ e H, K e H
  | [], e, H, q, ws, K, h => ⟨e, _, h⟩
  | d :: r, e, H, q, ws, K, h => by
    simp only [dregWp] at h
    split at h
    · split at h
      · split at h
        · split at h
          · exact inh_dreg h
          · exact h.elim
        · split at h
          · exact inh_dreg h
          · exact h.elim
        · split at h
          · exact inh_dreg h
          · exact h.elim
        · obtain ⟨v, H', h⟩ := inh_op hJ h
          split at h
          · exact inh_dreg h
          · exact h.elim
      · exact h.elim
    · exact inh_dreg h
    · exact h.elim

theorem inh_codeWp {c : ICode} {e : Env} {H : Heap} {Q : Out → Env → Heap → Prop} (h : codeWp ih c e H Q) : ∃ x e H, Q x e H := by
  cases c <;> simp only [codeWp] at h
  case skip => exact ⟨_, _, _, h⟩
  case reg => obtain ⟨e, H, h⟩ := inh_reg hJ h; exact ⟨_, _, _, h⟩
  case dreg => obtain ⟨e, H, h⟩ := inh_dreg hJ h; exact ⟨_, _, _, h⟩
  case seq a b =>
    obtain ⟨x, e, H, h⟩ := inh_code hJ h
    split at h
    · exact inh_code hJ h
    · exact ⟨_, _, _, h⟩
  case cond =>
    split at h
    · exact inh_code hJ h
    · exact inh_code hJ h
    · exact h.elim
  case block =>
    obtain ⟨x, e, H, h⟩ := inh_code hJ h
    split at h
    · split at h
      · exact ⟨_, _, _, h⟩
      · exact ⟨_, _, _, h⟩
    · exact ⟨_, _, _, h⟩
  case loop =>
    obtain ⟨x, e, H, h⟩ := inh_code hJ h
    split at h
    · exact inh_code hJ h
    · exact ⟨_, _, _, h⟩
  case exit => exact ⟨_, _, _, h⟩
  case ret => exact ⟨_, _, _, h⟩
  case rangeFunc =>
    split at h
    · obtain ⟨v, H2, h⟩ : ∃ v H, _ := hJ _ h
      split at h
      · exact h.elim
      · exact ⟨_, _, _, h⟩
      · exact h.elim
    · exact h.elim
end

theorem wp_inh {T : Nat → Option FSpec} (hS : ∀ f S, T f = some (.spec S) → ∀ args H K, S args H K → ∃ v H', K v H') : ∀ n j, wp T n j → JobInh j
  | 0, _, h => by rw [wp_zero] at h; exact h.elim
  | n + 1, j, h => by
    rw [wp_succ] at h
    cases j with
    | code c e H Q => exact inh_codeWp (wp_inh hS n) h
    | call f args H K =>
      simp only [jobWp] at h
      split at h
      · split at h
        · obtain ⟨x, e, H', h⟩ := inh_code (wp_inh hS n) h
          split at h
          · exact h.elim
          · split at h
            · exact ⟨_, _, h⟩
            · exact h.elim
        · exact h.elim
      · rename_i S hT
        exact hS f S hT _ _ _ h
      · exact h.elim

/-! ### The order of evaluation -/
def Numbered : List DOp → Nat → Nat → Prop
  | [], j, na => j = na
  | d :: r, j, na => match d.k with
    | .alloc i => i = j ∧ Numbered r (j + 1) na
    | .eff _ hi => hi = j ∧ Numbered r j na
    | _ => Numbered r j na

theorem Numbered.le : ∀ {l : List DOp} {j na : Nat}, Numbered l j na → j ≤ na
  | [], j, na, h => by simp only [Numbered] at h; omega
  | d :: r, j, na, h => by
    simp only [Numbered] at h
    split at h
    · have := Numbered.le h.2; omega
    · exact Numbered.le h.2
    · exact Numbered.le h

theorem flushF_snoc {base : Nat} {q : Nat → Option AObj} : ∀ (n c : Nat) (H : Heap), flushF base q (n + 1) c H = (match q (c + n) with | some o => (flushF base q n c H).set (base + (c + n)) o | none => flushF base q n c H)
  | 0, c, H => by simp only [flushF, Nat.add_zero]; rfl
  | n + 1, c, H => by
    rw [flushF, flushF_snoc n (c + 1)]
    rw [show c + 1 + n = c + (n + 1) by omega]
    rfl

theorem watched_each {n : Nat} {H : Heap} : ∀ {ws : List Watch} {w : Watch}, watched n H (w :: ws) = true → (n ≤ w.hi → readOp w.op w.xs H = some w.v) ∧ watched n H ws = true := by
  intro ws w h
  simp only [watched, Bool.and_eq_true] at h
  refine ⟨fun hle => ?_, h.2⟩
  have h1 := h.1
  rw [if_neg (by omega)] at h1
  split at h1
  · rename_i v hv
    rw [hv, AV.beq_eq _ _ h1]
  · cases h1

theorem dreg_s {ih : Job → Prop} {base na : Nat} {K : Env → Heap → Prop} {K' : FEnv → Heap → Prop} (hK : ∀ e H, K e H → K' e.get H) : ∀ {l : List DOp} {e : Env} {H : Heap} {q : List (Nat × AObj)} {ws : List Watch} {q' : Nat → Option AObj} {ws' : Nat → Heap → Prop} {cur j : Nat},
    dregWp ih base l e H q ws K → Numbered l j na → cur ≤ j → flush H q = flushF base q' (j - cur) cur H → (∀ c, j ≤ c → q' c = none) → (∀ n H, watched n H ws = true → ws' n H) →
    sWp ih base na K' l e.get H q' ws' cur
  | [], e, H, q, ws, q', ws', cur, j, h, hn, hc, hf, hq, hw => by
    simp only [Numbered] at hn; subst hn
    simp only [dregWp] at h
    simp only [sWp]
    rw [hf] at h
    exact hK _ _ h
  | d :: r, e, H, q, ws, q', ws', cur, j, h, hn, hc, hf, hq, hw => by
    simp only [dregWp] at h
    have skip : d.k.quiet = true → quiet base d e.get H = some ⟨.tup [], none, none⟩ → (∃ j', Numbered r j' na ∧ cur ≤ j' ∧ flush H q = flushF base q' (j' - cur) cur H ∧ (∀ c, j' ≤ c → q' c = none)) → dregWp ih base r (e.putO d.o.dst (.tup [])) H q ws K →
        sWp ih base na K' (d :: r) e.get H q' ws' cur := by
      rintro hk hqt ⟨j', hn', hc', hf', hq'⟩ h
      rw [sWp_quiet hk]
      refine ⟨_, hqt, ?_⟩
      rw [← fput_get]
      exact dreg_s hK h hn' hc' hf' hq' hw
    split at h
    · rename_i hg
      split at h
      · rename_i xs hxs
        split at h
        · rename_i hk
          simp only [Numbered, hk] at hn
          split at h
          · rename_i v hv
            rw [sWp_quiet (by rw [hk]; rfl)]
            refine ⟨⟨v, none, none⟩, by unfold quiet; rw [fwants_get, hg, fevs_get, hxs]; simp only [hk, hv], ?_⟩
            rw [← fput_get]
            exact dreg_s hK h hn hc hf hq hw
          · exact h.elim
        · rename_i hi hk
          simp only [Numbered, hk] at hn
          split at h
          · rename_i v hv
            rw [sWp_quiet (by rw [hk]; rfl)]
            refine ⟨⟨v, none, some (hi, fun H' => readOp d.o.op xs H' = some v)⟩, by unfold quiet; rw [fwants_get, hg, fevs_get, hxs]; simp only [hk, hv], ?_⟩
            rw [← fput_get]
            refine dreg_s hK h hn hc hf hq (fun n H' hwt => ?_)
            obtain ⟨h1, h2⟩ := watched_each hwt
            exact ⟨h1, hw n H' h2⟩
          · exact h.elim
        · rename_i i hk
          simp only [Numbered, hk] at hn
          obtain ⟨hij, hn⟩ := hn
          subst hij
          split at h
          · rename_i f o hv
            rw [sWp_quiet (by rw [hk]; rfl)]
            refine ⟨⟨f (base + i), some (i, o), none⟩, by unfold quiet; rw [fwants_get, hg, fevs_get, hxs]; simp only [hk, hv], ?_⟩
            rw [← fput_get]
            refine dreg_s hK h hn (by omega) ?_ ?_ hw
            · simp only [flush]
              rw [show i + 1 - cur = (i - cur) + 1 by omega, flushF_snoc]
              have e1 : cur + (i - cur) = i := by omega
              rw [e1]
              simp only [qput, if_true]
              rw [hf]
              congr 1
              exact flushF_congr _ _ _ (fun k h1 h2 => by show q' k = if k = i then some o else q' k; rw [if_neg (by omega)])
            · intro c hcc
              simp only [qput]
              rw [if_neg (by omega)]
              exact hq c (by omega)
          · exact h.elim
        · rename_i num hi hk
          simp only [Numbered, hk] at hn
          obtain ⟨hij, hn⟩ := hn
          subst hij
          rw [sWp_eff hk]
          unfold effStep
          rw [fwants_get, hg, fevs_get, hxs]
          simp only
          rw [← hf]
          refine ⟨_, h, fun v H' hv => ?_⟩
          split at hv
          · rename_i hwt
            refine ⟨hw _ _ hwt, ?_⟩
            rw [← fput_get, Nat.max_eq_right hc]
            refine dreg_s hK hv hn (Nat.le_refl _) ?_ hq hw
            simp [flush, flushF]
          · exact hv.elim
      · exact h.elim
    · rename_i hg
      cases hk : d.k with
      | eff num hi =>
        simp only [Numbered, hk] at hn
        obtain ⟨hij, hn⟩ := hn
        subst hij
        rw [sWp_eff hk]
        unfold effStep
        rw [fwants_get, hg]
        simp only
        rw [← fput_get]
        exact dreg_s hK h hn hc hf hq hw
      | alloc i =>
        simp only [Numbered, hk] at hn
        obtain ⟨hij, hn⟩ := hn
        subst hij
        refine skip (by rw [hk]; rfl) (by unfold quiet; rw [fwants_get, hg]) ⟨i + 1, hn, by omega, ?_, fun c hc' => hq c (by omega)⟩ h
        rw [show i + 1 - cur = (i - cur) + 1 by omega, flushF_snoc]
        have e1 : cur + (i - cur) = i := by omega
        rw [e1, hq i (Nat.le_refl _), hf]
      | read hi =>
        simp only [Numbered, hk] at hn
        exact skip (by rw [hk]; rfl) (by unfold quiet; rw [fwants_get, hg]) ⟨j, hn, hc, hf, hq⟩ h
      | pure =>
        simp only [Numbered, hk] at hn
        exact skip (by rw [hk]; rfl) (by unfold quiet; rw [fwants_get, hg]) ⟨j, hn, hc, hf, hq⟩ h
    · exact h.elim
end Go.AE
