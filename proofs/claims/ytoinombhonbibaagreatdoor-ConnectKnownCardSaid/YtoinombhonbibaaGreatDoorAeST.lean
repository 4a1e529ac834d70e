/-
  What is shown to come is come to; the order of evaluation as one among all.
-/
import Derived.Test.YtoinombhonbibaaGreatDoorAeR
import Derived.Test.YtoinombhonbibaaGreatDoorAePQ
import Derived.Orders
set_option linter.unusedSimpArgs false
set_option linter.unusedVariables false
set_option linter.unusedSectionVars false
namespace Go.AE

mutual
theorem AV.beq_eq : ∀ (a b : AV), AV.beq a b = true → a = b
  | .bool a, b, h => by cases b <;> simp [AV.beq] at h; subst h; rfl
  | .int k a, b, h => by cases b <;> simp [AV.beq] at h; obtain ⟨h1, h2⟩ := h; subst h1; subst h2; rfl
  | .str a, b, h => by cases b <;> simp [AV.beq] at h; subst h; rfl
  | .nilp, b, h => by cases b <;> simp [AV.beq] at h; rfl
  | .ptr a o, b, h => by cases b <;> simp [AV.beq] at h; obtain ⟨h1, h2⟩ := h; subst h1; subst h2; rfl
  | .nils, b, h => by cases b <;> simp [AV.beq] at h; rfl
  | .sl a o n c e, b, h => by cases b <;> simp [AV.beq] at h; obtain ⟨⟨⟨⟨h1, h2⟩, h3⟩, h4⟩, h5⟩ := h; subst h1; subst h2; subst h3; subst h4; subst h5; rfl
  | .nilm, b, h => by cases b <;> simp [AV.beq] at h; rfl
  | .map a, b, h => by cases b <;> simp [AV.beq] at h; subst h; rfl
  | .nilf, b, h => by cases b <;> simp [AV.beq] at h; rfl
  | .fn f a c, b, h => by
    cases b <;> simp only [AV.beq, Bool.and_eq_true, Bool.false_eq_true] at h
    obtain ⟨⟨h1, h2⟩, h3⟩ := h
    rw [Nat.eq_of_beq_eq_true h1, AV.beqs_eq _ _ h2, AV.beqs_eq _ _ h3]
  | .yield a, b, h => by cases b <;> simp [AV.beq] at h; subst h; rfl
  | .nili, b, h => by cases b <;> simp [AV.beq] at h; rfl
  | .agg a, b, h => by
    cases b <;> simp only [AV.beq, Bool.false_eq_true] at h
    rw [AV.beqs_eq _ _ h]
  | .tup a, b, h => by
    cases b <;> simp only [AV.beq, Bool.false_eq_true] at h
    rw [AV.beqs_eq _ _ h]
theorem AV.beqs_eq : ∀ (a b : List AV), AV.beqs a b = true → a = b
  | [], b, h => by cases b <;> simp [AV.beqs] at h; rfl
  | x :: a, b, h => by
    cases b with
    | nil => simp [AV.beqs] at h
    | cons y b =>
      simp only [AV.beqs, Bool.and_eq_true] at h
      rw [AV.beq_eq _ _ h.1, AV.beqs_eq _ _ h.2]
end

def JobInh : Job → Prop
  | .code _ _ _ Q => ∃ x e H, Q x e H
  | .call _ _ _ K => ∃ v H, K v H

section
variable {ih : Job → Prop} (hJ : ∀ j, ih j → JobInh j)
include hJ

theorem inh_code {c : ICode} {e : Env} {H : Heap} {Q : Out → Env → Heap → Prop} (h : ih (.code c e H Q)) : ∃ x e H, Q x e H := hJ _ h

theorem inh_round {l : Nat} {args : List AV} {H : Heap} {K : AV → Heap → Prop} (h : roundWp ih l args H K) : ∃ v H', K v H' := by
  unfold roundWp at h
  split at h
  · split at h
    · obtain ⟨x, e, H1, h⟩ := inh_code hJ h
      split at h
      · split at h
        · obtain ⟨x, e, H2, h⟩ := inh_code hJ h
          split at h
          · split at h
            · exact ⟨_, _, h⟩
            · exact ⟨_, _, h⟩
          · exact h.elim
        · exact h.elim
      · exact h.elim
    · exact h.elim
  · exact h.elim

theorem inh_op {op : IOp} {xs : List AV} {H : Heap} {K : AV → Heap → Prop} (h : opWp ih op xs H K) : ∃ v H', K v H' := by
  unfold opWp at h
  split at h
  · split at h
    · exact ⟨_, _, h⟩
    · exact h.elim
  · split at h
    · exact ⟨_, _, h⟩
    · exact h.elim
  · split at h
    · exact ⟨_, _, h⟩
    · exact h.elim
  · split at h
    · exact ⟨_, _, h⟩
    · exact h.elim
  · split at h
    · exact hJ _ h
    · exact inh_round hJ h
    · exact h.elim
  · split at h
    · unfold nextWp at h
      split at h
      · split at h
        · split at h
          · split at h
            · exact ⟨_, _, h⟩
            · exact ⟨_, _, h _ (List.mem_cons_self)⟩
          · exact h.elim
        · exact h.elim
      · exact h.elim
    · exact h.elim

theorem inh_reg : ∀ {l : List IOper} {e : Env} {H : Heap} {K : Env → Heap → Prop}, regWp ih l e H K → ∃ e H, K e H
  | [], e, H, K, h => ⟨e, H, h⟩
  | o :: r, e, H, K, h => by
    simp only [regWp] at h
    split at h
    · split at h
      · obtain ⟨v, H', h⟩ := inh_op hJ h
        exact inh_reg h
      · exact h.elim
    · exact inh_reg h
    · exact h.elim

theorem inh_dreg {base : Nat} : ∀ {l : List DOp} {e : Env} {H : Heap} {q : List (Nat × AObj)} {ws : List Watch} {K : Env → Heap → Prop}, dregWp ih base l e H q ws K → ∃ e H, K e H
  | [], e, H, q, ws, K, h => ⟨e, _, h⟩
  | d :: r, e, H, q, ws, K, h => by
    simp only [dregWp] at h
    split at h
    · split at h
      · split at h
        · split at h
          · exact inh_dreg h
          · exact h.elim
        · split at h
          · exact inh_dreg h
          · exact h.elim
        · split at h
          · exact inh_dreg h
          · exact h.elim
        · obtain ⟨v, H', h⟩ := inh_op hJ h
          split at h
          · exact inh_dreg h
          · exact h.elim
      · exact h.elim
    · exact inh_dreg h
    · exact h.elim

theorem inh_codeWp {c : ICode} {e : Env} {H : Heap} {Q : Out → Env → Heap → Prop} (h : codeWp ih c e H Q) : ∃ x e H, Q x e H := by
  cases c <;> simp only [codeWp] at h
  case skip => exact ⟨_, _, _, h⟩
  case reg => obtain ⟨e, H, h⟩ := inh_reg hJ h; exact ⟨_, _, _, h⟩
  case dreg => obtain ⟨e, H, h⟩ := inh_dreg hJ h; exact ⟨_, _, _, h⟩
  case seq a b =>
    obtain ⟨x, e, H, h⟩ := inh_code hJ h
    split at h
    · exact inh_code hJ h
    · exact ⟨_, _, _, h⟩
  case cond =>
    split at h
    · exact inh_code hJ h
    · exact inh_code hJ h
    · exact h.elim
  case block =>
    obtain ⟨x, e, H, h⟩ := inh_code hJ h
    split at h
    · split at h
      · exact ⟨_, _, _, h⟩
      · exact ⟨_, _, _, h⟩
    · exact ⟨_, _, _, h⟩
  case loop =>
    obtain ⟨x, e, H, h⟩ := inh_code hJ h
    split at h
    · exact inh_code hJ h
    · exact ⟨_, _, _, h⟩
  case exit => exact ⟨_, _, _, h⟩
  case ret => exact ⟨_, _, _, h⟩
  case rangeFunc =>
    split at h
    · obtain ⟨v, H2, h⟩ : ∃ v H, _ := hJ _ h
      split at h
      · exact h.elim
      · exact ⟨_, _, _, h⟩
      · exact h.elim
    · exact h.elim
end

theorem wp_inh {T : Nat → Option FSpec} (hS : ∀ f S, T f = some (.spec S) → ∀ args H K, S args H K → ∃ v H', K v H') : ∀ n j, wp T n j → JobInh j
  | 0, _, h => by rw [wp_zero] at h; exact h.elim
  | n + 1, j, h => by
    rw [wp_succ] at h
    cases j with
    | code c e H Q => exact inh_codeWp (wp_inh hS n) h
    | call f args H K =>
      simp only [jobWp] at h
      split at h
      · split at h
        · obtain ⟨x, e, H', h⟩ := inh_code (wp_inh hS n) h
          split at h
          · exact h.elim
          · split at h
            · exact ⟨_, _, h⟩
            · exact h.elim
        · exact h.elim
      · rename_i S hT
        exact hS f S hT _ _ _ h
      · exact h.elim

/-! ### The order of evaluation -/
def Numbered : List DOp → Nat → Nat → Prop
  | [], j, na => j = na
  | d :: r, j, na => match d.k with
    | .alloc i => i = j ∧ Numbered r (j + 1) na
    | .eff _ hi => hi = j ∧ Numbered r j na
    | _ => Numbered r j na

theorem Numbered.le : ∀ {l : List DOp} {j na : Nat}, Numbered l j na → j ≤ na
  | [], j, na, h => by simp only [Numbered] at h; omega
  | d :: r, j, na, h => by
    simp only [Numbered] at h
    split at h
    · have := Numbered.le h.2; omega
    · exact Numbered.le h.2
    · exact Numbered.le h

theorem flushF_snoc {base : Nat} {q : Nat → Option AObj} : ∀ (n c : Nat) (H : Heap), flushF base q (n + 1) c H = (match q (c + n) with | some o => (flushF base q n c H).set (base + (c + n)) o | none => flushF base q n c H)
  | 0, c, H => by simp only [flushF, Nat.add_zero]; rfl
  | n + 1, c, H => by
    rw [flushF, flushF_snoc n (c + 1)]
    rw [show c + 1 + n = c + (n + 1) by omega]
    rfl

theorem watched_each {n : Nat} {H : Heap} : ∀ {ws : List Watch} {w : Watch}, watched n H (w :: ws) = true → (n ≤ w.hi → readOp w.op w.xs H = some w.v) ∧ watched n H ws = true := by
  intro ws w h
  simp only [watched, Bool.and_eq_true] at h
  refine ⟨fun hle => ?_, h.2⟩
  have h1 := h.1
  rw [if_neg (by omega)] at h1
  split at h1
  · rename_i v hv
    rw [hv, AV.beq_eq _ _ h1]
  · cases h1

theorem dreg_s {ih : Job → Prop} {base na : Nat} {K : Env → Heap → Prop} {K' : FEnv → Heap → Prop} (hK : ∀ e H, K e H → K' e.get H) : ∀ {l : List DOp} {e : Env} {H : Heap} {q : List (Nat × AObj)} {ws : List Watch} {q' : Nat → Option AObj} {ws' : Nat → Heap → Prop} {cur j : Nat},
    dregWp ih base l e H q ws K → Numbered l j na → cur ≤ j → flush H q = flushF base q' (j - cur) cur H → (∀ c, j ≤ c → q' c = none) → (∀ n H, watched n H ws = true → ws' n H) →
    sWp ih base na K' l e.get H q' ws' cur
  | [], e, H, q, ws, q', ws', cur, j, h, hn, hc, hf, hq, hw => by
    simp only [Numbered] at hn; subst hn
    simp only [dregWp] at h
    simp only [sWp]
    rw [hf] at h
    exact hK _ _ h
  | d :: r, e, H, q, ws, q', ws', cur, j, h, hn, hc, hf, hq, hw => by
    simp only [dregWp] at h
    have skip : d.k.quiet = true → quiet base d e.get H = some ⟨.tup [], none, none⟩ → (∃ j', Numbered r j' na ∧ cur ≤ j' ∧ flush H q = flushF base q' (j' - cur) cur H ∧ (∀ c, j' ≤ c → q' c = none)) → dregWp ih base r (e.putO d.o.dst (.tup [])) H q ws K →
        sWp ih base na K' (d :: r) e.get H q' ws' cur := by
      rintro hk hqt ⟨j', hn', hc', hf', hq'⟩ h
      rw [sWp_quiet hk]
      refine ⟨_, hqt, ?_⟩
      rw [← fput_get]
      exact dreg_s hK h hn' hc' hf' hq' hw
    split at h
    · rename_i hg
      split at h
      · rename_i xs hxs
        split at h
        · rename_i hk
          simp only [Numbered, hk] at hn
          split at h
          · rename_i v hv
            rw [sWp_quiet (by rw [hk]; rfl)]
            refine ⟨⟨v, none, none⟩, by unfold quiet; rw [fwants_get, hg, fevs_get, hxs]; simp only [hk, hv], ?_⟩
            rw [← fput_get]
            exact dreg_s hK h hn hc hf hq hw
          · exact h.elim
        · rename_i hi hk
          simp only [Numbered, hk] at hn
          split at h
          · rename_i v hv
            rw [sWp_quiet (by rw [hk]; rfl)]
            refine ⟨⟨v, none, some (hi, fun H' => readOp d.o.op xs H' = some v)⟩, by unfold quiet; rw [fwants_get, hg, fevs_get, hxs]; simp only [hk, hv], ?_⟩
            rw [← fput_get]
            refine dreg_s hK h hn hc hf hq (fun n H' hwt => ?_)
            obtain ⟨h1, h2⟩ := watched_each hwt
            exact ⟨h1, hw n H' h2⟩
          · exact h.elim
        · rename_i i hk
          simp only [Numbered, hk] at hn
          obtain ⟨hij, hn⟩ := hn
          subst hij
          split at h
          · rename_i f o hv
            rw [sWp_quiet (by rw [hk]; rfl)]
            refine ⟨⟨f (base + i), some (i, o), none⟩, by unfold quiet; rw [fwants_get, hg, fevs_get, hxs]; simp only [hk, hv], ?_⟩
            rw [← fput_get]
            refine dreg_s hK h hn (by omega) ?_ ?_ hw
            · simp only [flush]
              rw [show i + 1 - cur = (i - cur) + 1 by omega, flushF_snoc]
              have e1 : cur + (i - cur) = i := by omega
              rw [e1]
              simp only [qput, if_true]
              rw [hf]
              congr 1
              exact flushF_congr _ _ _ (fun k h1 h2 => by show q' k = if k = i then some o else q' k; rw [if_neg (by omega)])
            · intro c hcc
              simp only [qput]
              rw [if_neg (by omega)]
              exact hq c (by omega)
          · exact h.elim
        · rename_i num hi hk
          simp only [Numbered, hk] at hn
          obtain ⟨hij, hn⟩ := hn
          subst hij
          rw [sWp_eff hk]
          unfold effStep
          rw [fwants_get, hg, fevs_get, hxs]
          simp only
          rw [← hf]
          refine ⟨_, h, fun v H' hv => ?_⟩
          split at hv
          · rename_i hwt
            refine ⟨hw _ _ hwt, ?_⟩
            rw [← fput_get, Nat.max_eq_right hc]
            refine dreg_s hK hv hn (Nat.le_refl _) ?_ hq hw
            simp [flush, flushF]
          · exact hv.elim
      · exact h.elim
    · rename_i hg
      cases hk : d.k with
      | eff num hi =>
        simp only [Numbered, hk] at hn
        obtain ⟨hij, hn⟩ := hn
        subst hij
        rw [sWp_eff hk]
        unfold effStep
        rw [fwants_get, hg]
        simp only
        rw [← fput_get]
        exact dreg_s hK h hn hc hf hq hw
      | alloc i =>
        simp only [Numbered, hk] at hn
        obtain ⟨hij, hn⟩ := hn
        subst hij
        refine skip (by rw [hk]; rfl) (by unfold quiet; rw [fwants_get, hg]) ⟨i + 1, hn, by omega, ?_, fun c hc' => hq c (by omega)⟩ h
        rw [show i + 1 - cur = (i - cur) + 1 by omega, flushF_snoc]
        have e1 : cur + (i - cur) = i := by omega
        rw [e1, hq i (Nat.le_refl _), hf]
      | read hi =>
        simp only [Numbered, hk] at hn
        exact skip (by rw [hk]; rfl) (by unfold quiet; rw [fwants_get, hg]) ⟨j, hn, hc, hf, hq⟩ h
      | pure =>
        simp only [Numbered, hk] at hn
        exact skip (by rw [hk]; rfl) (by unfold quiet; rw [fwants_get, hg]) ⟨j, hn, hc, hf, hq⟩ h
    · exact h.elim
end Go.AE

/-
  Regions that draw their order: what is checked of them; the state between two operations.
-/
namespace Go.AE

/-! ### What is checked -/
def PreOk : (Nat → Prop) → List (Nat × DOp) → Prop
  | _, [] => True
  | S, p :: r => (∀ j ∈ p.2.pre, S j) ∧ PreOk (fun i => S i ∨ i = p.2.idx) r

theorem PreOk.mono : ∀ {l : List (Nat × DOp)} {S S' : Nat → Prop}, PreOk S l → (∀ i, S i → S' i) → PreOk S' l
  | [], _, _, _, _ => trivial
  | p :: r, S, S', h, hs => ⟨fun j hj => hs j (h.1 j hj), PreOk.mono h.2 (fun i hi => hi.imp (hs i) id)⟩

theorem PreOk.remove {x : Nat × DOp} {β : List (Nat × DOp)} : ∀ {α : List (Nat × DOp)} {S : Nat → Prop}, PreOk S (α ++ x :: β) → PreOk (fun i => S i ∨ i = x.2.idx) (α ++ β)
  | [], S, h => h.2
  | p :: α, S, h => ⟨fun j hj => .inl (h.1 j hj), (PreOk.remove h.2).mono (fun i hi => by
      rcases hi with (hi | hi) | hi
      · exact .inl (.inl hi)
      · exact .inr hi
      · exact .inl (.inr hi))⟩

structure DrawOk (P : Program) (N : Nat) (ops : Array Oper) (z : List (Nat × DOp)) (na : Nat) : Prop where
  num : Numbered (z.map (·.2)) 0 na
  each : ∀ p ∈ z, ∃ o, ops[p.2.idx]? = some o ∧ cOper P N ops o = some p.2.o ∧ p.2.pre = preOf o
  kinds : ∀ p ∈ z, (match p.2.k with | .pure => kd p.2.o.op = .pure | .read _ => kd p.2.o.op = .read | .alloc _ => kd p.2.o.op = .alloc | .eff _ _ => True)
  cover : ∀ i, i < ops.size → ∃ p ∈ z, p.2.idx = i
  len : z.length = ops.size
  deps : depsOk z = true
  pre : PreOk (fun _ => False) z
  anc : ∀ p ∈ z, ∀ a, p.1.testBit a = true → a ∈ p.2.pre ∨ ∃ p' ∈ z, p'.2.idx ∈ p.2.pre ∧ p'.1.testBit a = true
  nodup : (z.map (·.2.idx)).Nodup

theorem ancOf_bit (done : List (Nat × Nat)) (pre : List Nat) (a : Nat) (h : (ancOf done pre).testBit a = true) : a ∈ pre ∨ ∃ m, ∃ j ∈ pre, (j, m) ∈ done ∧ m.testBit a = true := by
  unfold ancOf at h
  have key : ∀ (pre : List Nat) (s : Nat), (pre.foldl (fun s j => s ||| 2 ^ j ||| (match done.find? (fun p => Nat.beq p.1 j) with | some p => p.2 | none => 0)) s).testBit a = true →
      s.testBit a = true ∨ a ∈ pre ∨ ∃ m, ∃ j ∈ pre, (j, m) ∈ done ∧ m.testBit a = true := by
    intro pre
    induction pre with
    | nil => intro s h; exact .inl h
    | cons j r ih =>
      intro s h
      rw [List.foldl_cons] at h
      rcases ih _ h with h | h | ⟨m, i, h1, h2⟩
      · rw [Nat.testBit_or, Nat.testBit_or, Bool.or_eq_true, Bool.or_eq_true] at h
        rcases h with (h | h) | h
        · exact .inl h
        · rw [Nat.testBit_two_pow] at h
          simp at h
          exact .inr (.inl (by simp [h]))
        · split at h
          · rename_i p hp
            have h1 := List.find?_some hp
            have h2 := List.mem_of_find?_eq_some hp
            have : p.1 = j := Nat.eq_of_beq_eq_true h1
            exact .inr (.inr ⟨p.2, j, by simp, by rw [← this]; exact h2, h⟩)
          · simp at h
      · exact .inr (.inl (by simp [h]))
      · exact .inr (.inr ⟨m, i, by simp [h1], h2⟩)
  rcases key pre 0 h with h | h | h
  · simp at h
  · exact .inl h
  · exact .inr h

structure PlsOk (P : Program) (N : Nat) (ops : Array Oper) (done : List (Nat × Nat)) (l : List Pl) : Prop where
  each : ∀ p ∈ l, ∃ o, ops[p.idx]? = some o ∧ cOper P N ops o = some p.o ∧ p.pre = preOf o
  nodup : (l.map (·.idx)).Nodup
  fresh : ∀ p ∈ l, ∀ d ∈ done, d.1 ≠ p.idx
  anc : ∀ p ∈ l, ∀ a, p.anc.testBit a = true → a ∈ p.pre ∨ (∃ p' ∈ l, p'.idx ∈ p.pre ∧ p'.anc.testBit a = true) ∨ ∃ d ∈ done, d.1 ∈ p.pre ∧ d.2.testBit a = true

def PreOkL : (Nat → Prop) → List Pl → Prop
  | _, [] => True
  | S, p :: r => (∀ j ∈ p.pre, S j) ∧ PreOkL (fun i => S i ∨ i = p.idx) r

theorem PreOkL.mono : ∀ {l : List Pl} {S S' : Nat → Prop}, PreOkL S l → (∀ i, S i → S' i) → PreOkL S' l
  | [], _, _, _, _ => trivial
  | p :: r, S, S', h, hs => ⟨fun j hj => hs j (h.1 j hj), PreOkL.mono h.2 (fun i hi => hi.imp (hs i) id)⟩

theorem cDops_ok {P : Program} {N : Nat} {ops : Array Oper} : ∀ {perm : List Nat} {done : List (Nat × Nat)} {l : List Pl}, cDops P N ops perm done = some l → PlsOk P N ops done l ∧ PreOkL (fun i => ∃ d ∈ done, d.1 = i) l ∧ l.map (·.idx) = perm
  | [], done, l, h => by
    simp only [cDops] at h; injection h with h; subst h
    exact ⟨⟨by simp, by simp, by simp, by simp⟩, trivial, rfl⟩
  | i :: r, done, l, h => by
    simp only [cDops] at h
    split at h
    · rename_i o ho
      split at h
      · rename_i x hx
        split at h
        · rename_i hc
          simp only [Bool.and_eq_true, Bool.not_eq_true'] at hc
          obtain ⟨hc1, hc2⟩ := hc
          split at h
          · rename_i l' hl'
            injection h with h; subst h
            obtain ⟨h1, h2, h3⟩ := cDops_ok hl'
            have hpre : ∀ j ∈ preOf o, ∃ d ∈ done, d.1 = j := by
              intro j hj
              have := List.all_eq_true.1 hc1 j hj
              obtain ⟨d, hd, hdj⟩ := List.any_eq_true.1 this
              exact ⟨d, hd, Nat.eq_of_beq_eq_true hdj⟩
            have hfr : ∀ d ∈ done, d.1 ≠ i := by
              intro d hd e
              have : (done.any fun p => Nat.beq p.1 i) = true := List.any_eq_true.2 ⟨d, hd, by rw [e]; exact Nat.beq_refl i⟩
              rw [this] at hc2; cases hc2
            refine ⟨⟨?_, ?_, ?_, ?_⟩, ?_, by simp [h3]⟩
            · intro p hp
              rcases List.mem_cons.1 hp with rfl | hp
              · exact ⟨o, ho, hx, rfl⟩
              · exact h1.each p hp
            · simp only [List.map_cons, List.nodup_cons]
              refine ⟨?_, h1.nodup⟩
              intro hm
              obtain ⟨p, hp, e⟩ := List.mem_map.1 hm
              exact h1.fresh p hp (i, ancOf done (preOf o)) (by simp) e.symm
            · intro p hp d hd
              rcases List.mem_cons.1 hp with rfl | hp
              · exact hfr d hd
              · exact h1.fresh p hp d (by simp [hd])
            · intro p hp a ha
              rcases List.mem_cons.1 hp with rfl | hp
              · rcases ancOf_bit _ _ _ ha with h | ⟨m, j, hj, hjm, hb⟩
                · exact .inl h
                · exact .inr (.inr ⟨(j, m), hjm, hj, hb⟩)
              · rcases h1.anc p hp a ha with h | ⟨p', hp', h⟩ | ⟨d, hd, h⟩
                · exact .inl h
                · exact .inr (.inl ⟨p', by simp [hp'], h⟩)
                · rcases List.mem_cons.1 hd with rfl | hd
                  · exact .inr (.inl ⟨_, List.mem_cons_self, h⟩)
                  · exact .inr (.inr ⟨d, hd, h⟩)
            · refine ⟨hpre, h2.mono ?_⟩
              rintro k ⟨d, hd, e⟩
              rcases List.mem_cons.1 hd with rfl | hd
              · exact .inr e.symm
              · exact .inl ⟨d, hd, e⟩
          · cases h
        · cases h
      · cases h
    · cases h

theorem kinds_num (ea : List Nat) : ∀ (l : List Pl) (j n : Nat), Numbered ((kinds ea l j n).map (·.2)) j (j + (l.filter fun p => isAlloc p.o.op).length)
  | [], j, n => by simp [kinds, Numbered]
  | p :: r, j, n => by
    simp only [kinds]
    cases hk : kd p.o.op with
    | alloc =>
      have ha : isAlloc p.o.op = true := by simp [isAlloc, hk]
      simp only [List.map_cons, Numbered, List.filter_cons, ha, if_true, List.length_cons]
      refine ⟨trivial, ?_⟩
      have := kinds_num ea r (j + 1) n
      rwa [show j + 1 + (r.filter fun p => isAlloc p.o.op).length = j + ((r.filter fun p => isAlloc p.o.op).length + 1) by omega] at this
    | pure =>
      have ha : isAlloc p.o.op = false := by simp [isAlloc, hk]
      simp only [List.map_cons, Numbered, List.filter_cons, ha, Bool.false_eq_true, if_false]
      exact kinds_num ea r j n
    | read =>
      have ha : isAlloc p.o.op = false := by simp [isAlloc, hk]
      simp only [List.map_cons, Numbered, List.filter_cons, ha, Bool.false_eq_true, if_false]
      exact kinds_num ea r j n
    | _ =>
      have ha : isAlloc p.o.op = false := by simp [isAlloc, hk]
      simp only [List.map_cons, Numbered, List.filter_cons, ha, Bool.false_eq_true, if_false]
      exact ⟨trivial, kinds_num ea r j (n + 1)⟩

/-- what the kinds keep of a place. -/
theorem kinds_mem (ea : List Nat) : ∀ (l : List Pl) (j n : Nat) (q : Nat × DOp), q ∈ kinds ea l j n → ∃ p ∈ l, q.1 = p.anc ∧ q.2.idx = p.idx ∧ q.2.pre = p.pre ∧ q.2.o = p.o ∧
      (match q.2.k with | .pure => kd p.o.op = .pure | .read _ => kd p.o.op = .read | .alloc _ => kd p.o.op = .alloc | .eff _ _ => True)
  | [], j, n, q, h => by simp [kinds] at h
  | p :: r, j, n, q, h => by
    simp only [kinds] at h
    cases hk : kd p.o.op <;> rw [hk] at h <;> simp only at h <;> rcases List.mem_cons.1 h with rfl | h
    all_goals first
      | exact ⟨p, by simp, rfl, rfl, rfl, rfl, hk⟩
      | exact ⟨p, by simp, rfl, rfl, rfl, rfl, trivial⟩
      | (obtain ⟨p', h1, h2⟩ := kinds_mem ea r _ _ q h; exact ⟨p', by simp [h1], h2⟩)

theorem kinds_idx (ea : List Nat) : ∀ (l : List Pl) (j n : Nat), (kinds ea l j n).map (fun q => (q.1, q.2.idx, q.2.pre)) = l.map (fun p => (p.anc, p.idx, p.pre))
  | [], j, n => by simp [kinds]
  | p :: r, j, n => by
    simp only [kinds]
    cases kd p.o.op <;> simp [kinds_idx ea r]

theorem preOk_of : ∀ {z : List (Nat × DOp)} {l : List Pl} {S : Nat → Prop}, z.map (fun q => (q.1, q.2.idx, q.2.pre)) = l.map (fun p => (p.anc, p.idx, p.pre)) → PreOkL S l → PreOk S z
  | [], l, S, h, hl => trivial
  | q :: z, [], S, h, hl => by simp at h
  | q :: z, p :: l, S, h, hl => by
    simp only [List.map_cons, List.cons.injEq, Prod.mk.injEq] at h
    obtain ⟨⟨_, h1, h2⟩, h3⟩ := h
    refine ⟨by rw [h2]; exact hl.1, ?_⟩
    rw [h1]
    exact preOk_of h3 hl.2

theorem cDraw_ok {P : Program} {N : Nat} {ops : Array Oper} {perm : List Nat} {l : List DOp} {na : Nat} (h : cDraw P N ops perm = some (l, na)) : ∃ z, l = z.map (·.2) ∧ DrawOk P N ops z na := by
  unfold cDraw at h
  split at h
  · rename_i pl hpl
    simp only at h
    split at h
    · rename_i hc
      simp only [Bool.and_eq_true] at hc
      obtain ⟨⟨hc1, hc2⟩, hc3⟩ := hc
      injection h with h; injection h with h1 h2
      obtain ⟨ho, hp, hi⟩ := cDops_ok hpl
      refine ⟨_, h1.symm, ?_⟩
      have hmap := kinds_idx (((pl.filter fun p => isEff p.o.op).map (·.anc))) pl 0 0
      have hidx : (kinds ((pl.filter fun p => isEff p.o.op).map (·.anc)) pl 0 0).map (·.2.idx) = pl.map (·.idx) := by
        have := congrArg (List.map fun (x : Nat × Nat × List Nat) => x.2.1) hmap
        simpa [List.map_map, Function.comp_def] using this
      have hback : ∀ p ∈ pl, ∃ q ∈ kinds ((pl.filter fun p => isEff p.o.op).map (·.anc)) pl 0 0, q.1 = p.anc ∧ q.2.idx = p.idx ∧ q.2.pre = p.pre := by
        intro p hp
        have : (p.anc, p.idx, p.pre) ∈ (kinds ((pl.filter fun p => isEff p.o.op).map (·.anc)) pl 0 0).map (fun q => (q.1, q.2.idx, q.2.pre)) := by
          rw [hmap]; exact List.mem_map.2 ⟨p, hp, rfl⟩
        obtain ⟨q, hq, e⟩ := List.mem_map.1 this
        simp only [Prod.mk.injEq] at e
        exact ⟨q, hq, e⟩
      have hlen : pl.length = perm.length := by rw [← hi]; simp
      constructor
      · have := kinds_num ((pl.filter fun p => isEff p.o.op).map (·.anc)) pl 0 0
        rw [← h2]; simpa using this
      · intro q hq
        obtain ⟨p, hp1, e1, e2, e3, e4, _⟩ := kinds_mem _ _ _ _ _ hq
        obtain ⟨o, g1, g2, g3⟩ := ho.each p hp1
        exact ⟨o, by rw [e2]; exact g1, by rw [e4]; exact g2, by rw [e3]; exact g3⟩
      · intro q hq
        obtain ⟨p, hp1, e1, e2, e3, e4, e5⟩ := kinds_mem _ _ _ _ _ hq
        rw [e4]; exact e5
      · intro i hilt
        have := List.all_eq_true.1 hc2 i (List.mem_range.2 hilt)
        obtain ⟨j, hj, e⟩ := List.any_eq_true.1 this
        have e' := Nat.eq_of_beq_eq_true e
        subst e'
        rw [← hi] at hj
        obtain ⟨p, hp1, e⟩ := List.mem_map.1 hj
        obtain ⟨q, hq, _, e2, _⟩ := hback p hp1
        exact ⟨q, hq, by rw [e2, e]⟩
      · have := congrArg List.length hidx
        simp only [List.length_map] at this
        rw [this, hlen]
        exact Nat.eq_of_beq_eq_true hc1
      · exact hc3
      · refine preOk_of hmap (hp.mono ?_)
        rintro i ⟨d, hd, _⟩
        cases hd
      · intro q hq a ha
        obtain ⟨p, hp1, e1, e2, e3, e4, e5⟩ := kinds_mem _ _ _ _ _ hq
        rw [e1] at ha
        rw [e3]
        rcases ho.anc p hp1 a ha with h | ⟨p', hp', h1, h2⟩ | ⟨d, hd, _⟩
        · exact .inl h
        · obtain ⟨q', hq', f1, f2, f3⟩ := hback p' hp'
          exact .inr ⟨q', hq', by rw [f2]; exact h1, by rw [f1]; exact h2⟩
        · cases hd
      · rw [hidx]; exact ho.nodup
    · cases h
  · cases h
end Go.AE
