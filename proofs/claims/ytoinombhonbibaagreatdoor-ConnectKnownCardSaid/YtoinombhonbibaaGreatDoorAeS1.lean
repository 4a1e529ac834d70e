/-
  Walking code by rewriting: the evaluator's step behind words that nothing unfolds, so that each rewriting is a proof of its own.
-/
import Derived.Test.YtoinombhonbibaaGreatDoorAeZ
set_option linter.unusedSimpArgs false
set_option linter.unusedVariables false
set_option linter.unusedSectionVars false
namespace Go.AE

/-- One cell. -/
def cell1 (c : List AV) (o : Nat) : Option AV := match span c o 1 with
  | some [v] => some v
  | _ => none

namespace Bare
def opt {α : Type} (o : Option α) (K : α → Prop) : Prop := match o with
  | some v => K v
  | none => False
def br (o : Option AV) (a b : Prop) : Prop := match o with
  | some (.bool true) => a
  | some (.bool false) => b
  | _ => False
def gd (o : Option Bool) (a b : Prop) : Prop := match o with
  | some true => a
  | some false => b
  | none => False
def op (R : Job → Prop) (op : IOp) (xs : List AV) (H : Heap) (K : AV → Heap → Prop) : Prop := opWp R op xs H K
def reg (R : Job → Prop) : List IOper → Env → Heap → (Env → Heap → Prop) → Prop := regWp R
def dreg (R : Job → Prop) : Nat → List DOp → Env → Heap → List (Nat × AObj) → List Watch → (Env → Heap → Prop) → Prop := dregWp R
/-- Code, but for calls and loops. -/
def code (R : Job → Prop) : ICode → Env → Heap → (Out → Env → Heap → Prop) → Prop
  | .skip, e, H, Q => Q .normal e H
  | .reg ops live, e, H, Q => reg R ops e H fun e H => Q .normal (e.keep live) H
  | .dreg ops na live, e, H, Q => dreg R H.next ops e ⟨H.next + na, H.mem⟩ [] [] fun e H => Q .normal (e.keep live) H
  | .seq a b, e, H, Q => code R a e H fun x e H => match x with
    | .normal => code R b e H Q
    | x => Q x e H
  | .cond o a b, e, H, Q => br (ev e o) (code R a e H Q) (code R b e H Q)
  | .block id b, e, H, Q => code R b e H fun x e H => match x with
    | .exit j => match Nat.beq j id with
      | true => Q .normal e H
      | false => Q (.exit j) e H
    | x => Q x e H
  | .exit id, e, H, Q => Q (.exit id) e H
  | .ret, e, H, Q => Q .ret e H
  | c, e, H, Q => R (.code c e H Q)

theorem code_ok {T : Nat → Option FSpec} (hT : TMono T) : ∀ {c : ICode} {e : Env} {H : Heap} {Q : Out → Env → Heap → Prop}, code (Wp T) c e H Q → Wp T (.code c e H Q)
  | .skip, e, H, Q, h => Wp.intro hT h
  | .reg ops live, e, H, Q, h => Wp.intro hT h
  | .dreg ops na live, e, H, Q, h => Wp.intro hT h
  | .seq a b, e, H, Q, h => by
    refine Wp.intro hT ?_
    simp only [jobWp, codeWp]
    simp only [code] at h
    refine Wp.jmono.code ?_ (code_ok hT h)
    intro x e H
    cases x with
    | normal => exact code_ok hT
    | exit _ => exact id
    | ret => exact id
  | .cond o a b, e, H, Q, h => by
    refine Wp.intro hT ?_
    simp only [jobWp, codeWp]
    simp only [code, br] at h
    split at h
    · rename_i hv; rw [hv]; exact code_ok hT h
    · rename_i hv; rw [hv]; exact code_ok hT h
    · exact h.elim
  | .block id b, e, H, Q, h => by
    refine Wp.intro hT ?_
    simp only [jobWp, codeWp]
    simp only [code] at h
    exact code_ok hT h
  | .exit id, e, H, Q, h => Wp.intro hT h
  | .ret, e, H, Q, h => Wp.intro hT h
  | .loop b, e, H, Q, h => h
  | .rangeFunc f ps a b, e, H, Q, h => h
end Bare

/-- The words, behind a choice. -/
structure Words where
  opt : {α : Type} → Option α → (α → Prop) → Prop
  evs : Option (List AV) → (List AV → Prop) → Prop
  br : Option AV → Prop → Prop → Prop
  gd : Option Bool → Prop → Prop → Prop
  op : (Job → Prop) → IOp → List AV → Heap → (AV → Heap → Prop) → Prop
  reg : (Job → Prop) → List IOper → Env → Heap → (Env → Heap → Prop) → Prop
  dreg : (Job → Prop) → Nat → List DOp → Env → Heap → List (Nat × AObj) → List Watch → (Env → Heap → Prop) → Prop
  code : (Job → Prop) → ICode → Env → Heap → (Out → Env → Heap → Prop) → Prop
  out : Out → Prop → (Nat → Prop) → Prop → Prop
  retK : List ResV → (AV → Heap → Prop) → Out → Env → Heap → Prop
  job : (Job → Prop) → Job → Prop
def bareWords : Words where
  opt := Bare.opt
  evs := Bare.opt
  br := Bare.br
  gd := Bare.gd
  op := Bare.op
  reg := Bare.reg
  dreg := Bare.dreg
  code := Bare.code
  out := fun x a b c => match x with
    | .normal => a
    | .exit j => b j
    | .ret => c
  retK := retK
  job := fun R j => R j
theorem words_are : ∃ w : Words, w = bareWords := ⟨_, rfl⟩
noncomputable def words : Words := Classical.choose words_are
theorem words_eq : words = bareWords := Classical.choose_spec words_are

/-- What depends on a thing: nothing rewrites the thing where it stands beside its tag. -/
class Tag {α : Type _} (a : α) : Type where
instance {α : Type _} (a : α) : Tag a := ⟨⟩

noncomputable def optX {α : Type} (o : Option α) (K : α → Prop) [Tag K] : Prop := words.opt o K
noncomputable def evX (o : Option (List AV)) (K : List AV → Prop) [Tag K] : Prop := words.evs o K
noncomputable def brX (o : Option AV) (a b : Prop) [Tag a] [Tag b] : Prop := words.br o a b
noncomputable def gdX (o : Option Bool) (a b : Prop) [Tag a] [Tag b] : Prop := words.gd o a b
noncomputable def opX (R : Job → Prop) (op : IOp) (xs : List AV) (H : Heap) (K : AV → Heap → Prop) [Tag K] : Prop := words.op R op xs H K
noncomputable def regX (R : Job → Prop) (l : List IOper) (e : Env) (H : Heap) (K : Env → Heap → Prop) [Tag l] [Tag K] : Prop := words.reg R l e H K
noncomputable def dregX (R : Job → Prop) (base : Nat) (l : List DOp) (e : Env) (H : Heap) (q : List (Nat × AObj)) (ws : List Watch) (K : Env → Heap → Prop) [Tag l] [Tag K] : Prop := words.dreg R base l e H q ws K
noncomputable def cX (R : Job → Prop) (c : ICode) (e : Env) (H : Heap) (Q : Out → Env → Heap → Prop) [Tag c] [Tag Q] : Prop := words.code R c e H Q
noncomputable def outX (x : Out) (a : Prop) (b : Nat → Prop) (c : Prop) [Tag a] [Tag b] [Tag c] : Prop := words.out x a b c
noncomputable def retX (rs : List ResV) (K : AV → Heap → Prop) (x : Out) (e : Env) (H : Heap) [Tag K] : Prop := words.retK rs K x e H
noncomputable def loopX (R : Job → Prop) (c : ICode) (e : Env) (H : Heap) (Q : Out → Env → Heap → Prop) [Tag c] [Tag Q] : Prop := words.job R (.code c e H Q)
noncomputable def callX (R : Job → Prop) (f : Nat) (args : List AV) (H : Heap) (K : AV → Heap → Prop) [Tag K] : Prop := words.job R (.call f args H K)

section
variable {α : Type}
theorem optX_some (v : α) (K : α → Prop) : optX (some v) K = K v := by unfold optX; rw [words_eq]; rfl
theorem optX_none (K : α → Prop) : optX none K = False := by unfold optX; rw [words_eq]; rfl
theorem optX_ite {c : Prop} [Decidable c] (a : Option α) (K : α → Prop) : optX (if c then a else none) K = (c ∧ optX a K) := by
  by_cases h : c <;> simp [optX_none, h]
theorem optX_ite' {c : Prop} [Decidable c] (a : Option α) (K : α → Prop) : optX (if c then none else a) K = (¬c ∧ optX a K) := by
  by_cases h : c <;> simp [optX_none, h]
theorem evX_some (v : List AV) (K : List AV → Prop) : evX (some v) K = K v := by unfold evX; rw [words_eq]; rfl
theorem evX_none (K : List AV → Prop) : evX none K = False := by unfold evX; rw [words_eq]; rfl
theorem brX_true (a b : Prop) : brX (some (.bool true)) a b = a := by unfold brX; rw [words_eq]; rfl
theorem brX_false (a b : Prop) : brX (some (.bool false)) a b = b := by unfold brX; rw [words_eq]; rfl
theorem brX_bool (c : Bool) (a b : Prop) : brX (some (.bool c)) a b = ((c = true → a) ∧ (c = false → b)) := by
  cases c
  · rw [brX_false]; simp
  · rw [brX_true]; simp
theorem brX_decide (c : Prop) [Decidable c] (a b : Prop) : brX (some (.bool (decide c))) a b = ((c → a) ∧ (¬c → b)) := by
  by_cases h : c
  · simp [h, brX_true]
  · simp [h, brX_false]
theorem brX_ndecide (c : Prop) [Decidable c] (a b : Prop) : brX (some (.bool (!decide c))) a b = ((c → b) ∧ (¬c → a)) := by
  by_cases h : c
  · simp [h, brX_false]
  · simp [h, brX_true]
theorem gdX_true (a b : Prop) : gdX (some true) a b = a := by unfold gdX; rw [words_eq]; rfl
theorem gdX_false (a b : Prop) : gdX (some false) a b = b := by unfold gdX; rw [words_eq]; rfl
theorem gdX_bool (c : Bool) (a b : Prop) : gdX (some c) a b = ((c = true → a) ∧ (c = false → b)) := by
  cases c
  · rw [gdX_false]; simp
  · rw [gdX_true]; simp
theorem outX_normal (a : Prop) (b : Nat → Prop) (c : Prop) : outX .normal a b c = a := by unfold outX; rw [words_eq]; rfl
theorem outX_exit (j : Nat) (a : Prop) (b : Nat → Prop) (c : Prop) : outX (.exit j) a b c = b j := by unfold outX; rw [words_eq]; rfl
theorem outX_ret (a : Prop) (b : Nat → Prop) (c : Prop) : outX .ret a b c = c := by unfold outX; rw [words_eq]; rfl
theorem opX_eq (R : Job → Prop) (op : IOp) (xs : List AV) (H : Heap) (K : AV → Heap → Prop) : opX R op xs H K = Bare.op R op xs H K := by unfold opX; rw [words_eq]; rfl
theorem regX_eq (R : Job → Prop) (l : List IOper) (e : Env) (H : Heap) (K : Env → Heap → Prop) : regX R l e H K = Bare.reg R l e H K := by unfold regX; rw [words_eq]; rfl
theorem dregX_eq (R : Job → Prop) (b : Nat) (l : List DOp) (e : Env) (H : Heap) (q : List (Nat × AObj)) (ws : List Watch) (K : Env → Heap → Prop) : dregX R b l e H q ws K = Bare.dreg R b l e H q ws K := by unfold dregX; rw [words_eq]; rfl
theorem cX_eq (R : Job → Prop) (c : ICode) (e : Env) (H : Heap) (Q : Out → Env → Heap → Prop) : cX R c e H Q = Bare.code R c e H Q := by unfold cX; rw [words_eq]; rfl
theorem optX_eq (o : Option α) (K : α → Prop) : optX o K = Bare.opt o K := by unfold optX; rw [words_eq]; rfl
theorem evX_eq (o : Option (List AV)) (K : List AV → Prop) : evX o K = Bare.opt o K := by unfold evX; rw [words_eq]; rfl
theorem gdX_eq (o : Option Bool) (a b : Prop) : gdX o a b = Bare.gd o a b := by unfold gdX; rw [words_eq]; rfl
theorem brX_eq (o : Option AV) (a b : Prop) : brX o a b = Bare.br o a b := by unfold brX; rw [words_eq]; rfl
theorem retX_eq (rs : List ResV) (K : AV → Heap → Prop) (x : Out) (e : Env) (H : Heap) : retX rs K x e H = retK rs K x e H := by unfold retX; rw [words_eq]; rfl
theorem callX_eq (R : Job → Prop) (f : Nat) (args : List AV) (H : Heap) (K : AV → Heap → Prop) : callX R f args H K = R (.call f args H K) := by unfold callX; rw [words_eq]; rfl
theorem loopX_eq (R : Job → Prop) (c : ICode) (e : Env) (H : Heap) (Q : Out → Env → Heap → Prop) : loopX R c e H Q = R (.code c e H Q) := by unfold loopX; rw [words_eq]; rfl
end

section
variable {R : Job → Prop} {e : Env} {H : Heap}

theorem retX_normal (rs : List ResV) (K : AV → Heap → Prop) : retX rs K .normal e H = optX (resultsA e H rs) fun v => K v H := by
  simp only [retX_eq, optX_eq]; unfold retK Bare.opt; cases resultsA e H rs <;> rfl
theorem retX_ret (rs : List ResV) (K : AV → Heap → Prop) : retX rs K .ret e H = optX (resultsA e H rs) fun v => K v H := by
  simp only [retX_eq, optX_eq]; unfold retK Bare.opt; cases resultsA e H rs <;> rfl
theorem retX_exit (rs : List ResV) (j : Nat) (K : AV → Heap → Prop) : retX rs K (.exit j) e H = False := by simp only [retX_eq]; first | done | rfl

theorem regX_nil (K : Env → Heap → Prop) : regX R [] e H K = K e H := by simp only [regX_eq]; first | done | rfl
theorem regX_cons (dst : Option Nat) (op : IOp) (xs : List Opd) (r : List IOper) (K : Env → Heap → Prop) :
    regX R (⟨dst, op, xs, none⟩ :: r) e H K = evX (evs e xs) fun xs => opX R op xs H fun v H' => regX R r (e.putO dst v) H' K := by
  simp only [regX_eq, opX_eq, evX_eq]
  show regWp R _ e H K = _
  cases h : evs e xs <;> simp only [regWp, wants, Bare.opt, h] <;> rfl
theorem regX_consg (dst : Option Nat) (op : IOp) (xs : List Opd) (g : Nat × Bool) (r : List IOper) (K : Env → Heap → Prop) :
    regX R (⟨dst, op, xs, some g⟩ :: r) e H K = gdX (wants e (some g)) (evX (evs e xs) fun xs => opX R op xs H fun v H' => regX R r (e.putO dst v) H' K) (regX R r (e.putO dst (.tup [])) H K) := by
  simp only [regX_eq, opX_eq, evX_eq, gdX_eq]
  show regWp R _ e H K = _
  cases hg : wants e (some g) with
  | none => simp only [regWp, Bare.gd, hg]
  | some b =>
    cases b
    · simp only [regWp, Bare.gd, hg]; rfl
    · cases h : evs e xs <;> simp only [regWp, Bare.gd, Bare.opt, hg, h] <;> rfl

theorem cX_skip (Q : Out → Env → Heap → Prop) : cX R .skip e H Q = Q .normal e H := by simp only [cX_eq]; first | done | rfl
theorem cX_reg (ops : List IOper) (live : List Nat) (Q : Out → Env → Heap → Prop) : cX R (.reg ops live) e H Q = regX R ops e H fun e H => Q .normal (e.keep live) H := by simp only [cX_eq, regX_eq]; first | done | rfl
theorem cX_dreg (ops : List DOp) (na : Nat) (live : List Nat) (Q : Out → Env → Heap → Prop) : cX R (.dreg ops na live) e H Q = dregX R H.next ops e ⟨H.next + na, H.mem⟩ [] [] fun e H => Q .normal (e.keep live) H := by simp only [cX_eq, dregX_eq]; first | done | rfl
theorem cX_seq (a b : ICode) (Q : Out → Env → Heap → Prop) : cX R (.seq a b) e H Q = cX R a e H fun x e H => outX x (cX R b e H Q) (fun j => Q (.exit j) e H) (Q .ret e H) := by
  have : (fun (x : Out) (e : Env) (H : Heap) => outX x (cX R b e H Q) (fun j => Q (.exit j) e H) (Q .ret e H)) = fun x e H => match x with | .normal => cX R b e H Q | x => Q x e H := by
    funext x e H
    cases x
    · rw [outX_normal]
    · rw [outX_exit]
    · rw [outX_ret]
  simp only [this, cX_eq]; first | done | rfl
theorem cX_cond (o : Opd) (a b : ICode) (Q : Out → Env → Heap → Prop) : cX R (.cond o a b) e H Q = brX (ev e o) (cX R a e H Q) (cX R b e H Q) := by simp only [cX_eq, brX_eq]; first | done | rfl
theorem cX_block (id : Nat) (b : ICode) (Q : Out → Env → Heap → Prop) : cX R (.block id b) e H Q = cX R b e H fun x e H => outX x (Q .normal e H) (fun j => match Nat.beq j id with | true => Q .normal e H | false => Q (.exit j) e H) (Q .ret e H) := by
  have : (fun (x : Out) (e : Env) (H : Heap) => outX x (Q .normal e H) (fun j => match Nat.beq j id with | true => Q .normal e H | false => Q (.exit j) e H) (Q .ret e H)) = fun x e H => match x with
    | .exit j => match Nat.beq j id with
      | true => Q .normal e H
      | false => Q (.exit j) e H
    | x => Q x e H := by
    funext x e H
    cases x
    · rw [outX_normal]
    · rw [outX_exit]
    · rw [outX_ret]
  simp only [this, cX_eq]; first | done | rfl
theorem cX_exit (id : Nat) (Q : Out → Env → Heap → Prop) : cX R (.exit id) e H Q = Q (.exit id) e H := by simp only [cX_eq]; first | done | rfl
theorem cX_ret (Q : Out → Env → Heap → Prop) : cX R .ret e H Q = Q .ret e H := by simp only [cX_eq]; first | done | rfl
theorem cX_loop (b : ICode) (Q : Out → Env → Heap → Prop) : cX R (.loop b) e H Q = loopX R (.loop b) e H Q := by simp only [cX_eq, loopX_eq]; first | done | rfl
theorem cX_rangeFunc (f : Opd) (ps : List Nat) (a b : ICode) (Q : Out → Env → Heap → Prop) : cX R (.rangeFunc f ps a b) e H Q = loopX R (.rangeFunc f ps a b) e H Q := by simp only [cX_eq, loopX_eq]; first | done | rfl
end

theorem Wp.ofCX {T : Nat → Option FSpec} (hT : TMono T) {c : ICode} {e : Env} {H : Heap} {Q : Out → Env → Heap → Prop} (h : cX (Wp T) c e H Q) : Wp T (.code c e H Q) := by
  simp only [cX_eq] at h
  exact Bare.code_ok hT h

theorem Wp.fn {T : Nat → Option FSpec} (hT : TMono T) {f nt : Nat} {rs : List ResV} {body : ICode} (hf : T f = some (.code ⟨nt, rs, body⟩)) {args : List AV} {H : Heap} {K : AV → Heap → Prop} (hl : Nat.ble args.length nt = true)
    (h : cX (Wp T) body (paramEnv 0 args) H fun x e H => retX rs K x e H) : Wp T (.call f args H K) := by
  refine Wp.intro hT ?_
  simp only [jobWp, hf, hl]
  exact Wp.jmono.code (fun x e H h => by rw [retX_eq] at h; exact h) (Wp.ofCX hT h)

/-- A loop, by a measure. -/
theorem Wp.loop {T : Nat → Option FSpec} (hT : TMono T) {b : ICode} {Q : Out → Env → Heap → Prop} (I : Nat → Env → Heap → Prop)
    (hb : ∀ n e H, I n e H → cX (Wp T) b e H fun x e' H' => outX x (∃ m, m < n ∧ I m e' H') (fun j => Q (.exit j) e' H') (Q .ret e' H')) : ∀ n e H, I n e H → Wp T (.code (.loop b) e H Q) := by
  intro n
  induction n using Nat.strongRecOn with
  | _ n ih =>
    intro e H hI
    refine Wp.intro hT ?_
    simp only [jobWp, codeWp]
    refine Wp.jmono.code ?_ (Wp.ofCX hT (hb n e H hI))
    intro x e' H'
    cases x with
    | normal =>
      rw [outX_normal]
      rintro ⟨m, hm, hI'⟩
      exact ih m hm e' H' hI'
    | exit _ => rw [outX_exit]; exact id
    | ret => rw [outX_ret]; exact id

/-- A loop, opened once. -/
theorem Wp.loop_open {T : Nat → Option FSpec} (hT : TMono T) {b : ICode} {e : Env} {H : Heap} {Q : Out → Env → Heap → Prop}
    (h : cX (Wp T) b e H fun x e' H' => outX x (Wp T (.code (.loop b) e' H' Q)) (fun j => Q (.exit j) e' H') (Q .ret e' H')) : Wp T (.code (.loop b) e H Q) := by
  refine Wp.intro hT ?_
  simp only [jobWp, codeWp]
  refine Wp.jmono.code ?_ (Wp.ofCX hT h)
  intro x e' H'
  cases x with
  | normal => rw [outX_normal]; exact id
  | exit _ => rw [outX_exit]; exact id
  | ret => rw [outX_ret]; exact id

/-! ### Operations -/
section
variable {R : Job → Prop} {H : Heap} {K : AV → Heap → Prop}
theorem opX_pure {op : IOp} (h : kd op = .pure) (xs : List AV) : opX R op xs H K = optX (pureOp op xs) fun v => K v H := by
  simp only [opX_eq, optX_eq]; unfold Bare.op opWp Bare.opt; simp only [h]; cases pureOp op xs <;> rfl
theorem opX_read {op : IOp} (h : kd op = .read) (xs : List AV) : opX R op xs H K = optX (readOp op xs H) fun v => K v H := by
  simp only [opX_eq, optX_eq]; unfold Bare.op opWp Bare.opt; simp only [h]; cases readOp op xs H <;> rfl
theorem opX_al {op : IOp} (h : kd op = .alloc) (xs : List AV) : opX R op xs H K = optX (allocOp op xs) fun x => K (x.1 H.next) (H.push x.2) := by
  simp only [opX_eq, optX_eq]; unfold Bare.op opWp Bare.opt; simp only [h]; cases allocOp op xs <;> rfl
theorem opX_eff {op : IOp} (h : kd op = .eff) (xs : List AV) : opX R op xs H K = optX (effOp op xs H) fun x => K x.1 x.2 := by
  simp only [opX_eq, optX_eq]; unfold Bare.op opWp Bare.opt; simp only [h]; cases effOp op xs H <;> rfl

theorem opX_move (x : AV) : opX R .move [x] H K = K x H := by rw [opX_pure rfl]; exact optX_some _ _
theorem opX_pick (c : Bool) (a b : AV) : opX R .pick [.bool c, a, b] H K = K (bif c then a else b) H := by
  rw [opX_pure rfl]; cases c <;> exact optX_some _ _
theorem opX_bin (o : BinOp) (x y : AV) : opX R (.bin o) [x, y] H K = optX (binA o x y) fun v => K v H := by rw [opX_pure rfl]; rfl
theorem opX_un (o : UnOp) (x : AV) : opX R (.un o) [x] H K = optX (unA o x) fun v => K v H := by rw [opX_pure rfl]; rfl
theorem opX_eqv (k : EqK) (x y : AV) : opX R (.eq false k) [x, y] H K = optX (aEq k x y) fun r => K (.bool r) H := by
  rw [opX_pure rfl, optX_eq, optX_eq]; unfold Bare.opt pureOp; simp only; cases aEq k x y <;> rfl
theorem opX_neqv (k : EqK) (x y : AV) : opX R (.eq true k) [x, y] H K = optX (aEq k x y) fun r => K (.bool (!r)) H := by
  rw [opX_pure rfl, optX_eq, optX_eq]; unfold Bare.opt pureOp; simp only; cases aEq k x y <;> rfl
theorem opX_cvInt (k j : IntKind) (n : Int) : opX R (.cvInt k) [.int j n] H K = K (.int k (k.wrap n)) H := by
  rw [opX_pure rfl]; simp only [pureOp, mkInt_eq, optX_some]
theorem opX_call (f : Nat) (fs cap args : List AV) : opX R .call (.fn f fs cap :: args) H K = callX R f (fs ++ args ++ cap) H K := by simp only [opX_eq, callX_eq]; first | done | rfl
theorem opX_yield (l : Nat) (args : List AV) : opX R .call (.yield l :: args) H K = roundWp R l args H K := by simp only [opX_eq]; first | done | rfl
theorem opX_next (it : Nat) : opX R .next [.ptr it 0] H K = nextWp it H K := by simp only [opX_eq]; first | done | rfl
theorem opX_load (n : Option Nat) (b o : Nat) : opX R (.load n) [.ptr b o] H K = optX (H.load n b o) fun v => K v H := by rw [opX_read rfl]; rfl
theorem opX_store (n : Nat) (b o : Nat) (v : AV) : opX R (.store n) [.ptr b o, v] H K = (v.size n = true ∧ optX (H.write b o v.cells) fun H' => K (.tup []) H') := by
  rw [opX_eff rfl]
  simp only [effOp]
  by_cases h : v.size n = true
  · simp only [h, if_true, true_and]
    cases H.write b o v.cells with
    | none => simp only [optX_none]
    | some H' => simp only [optX_some]
  · simp [h, optX_none]
theorem opX_alloc (z : List AV) : opX R (.alloc z) [] H K = K (.ptr H.next 0) (H.push (.cells true z)) := by rw [opX_al rfl]; exact optX_some _ _
theorem opX_box (x : AV) : opX R .box [x] H K = (x.cells.all AV.one = true ∧ K (.ptr H.next 0) (H.push (.cells true x.cells))) := by
  rw [opX_al rfl]; simp only [allocOp, forceL_eq, optX_ite, optX_some]
theorem opX_build (z : List AV) (pl : List (Nat × Nat)) (vs : List AV) : opX R (.build z pl) vs H K = optX (fillA z pl vs) fun c => K (.agg c) H := by
  rw [opX_pure rfl]; simp only [pureOp]
  cases fillA z pl vs with
  | none => simp only [optX_none]
  | some c => simp only [forceL_eq, optX_some]
theorem opX_buildSlice (e len : Nat) (z : List AV) (pl : List (Nat × Nat)) (vs : List AV) : opX R (.buildSlice e len z pl) vs H K = optX (fillA (zeros z len) pl vs) fun c => K (.sl H.next 0 len (some len) e) (H.push (.cells true c)) := by
  rw [opX_al rfl]; simp only [allocOp]
  cases fillA (zeros z len) pl vs with
  | none => simp only [optX_none]
  | some c => simp only [forceL_eq, optX_some]
theorem opX_mkMap (xs : List AV) : opX R .mkMap xs H K = K (.map H.next) (H.push (.map [] 0)) := by rw [opX_al rfl]; cases xs <;> exact optX_some _ _
theorem opX_mkSlice (e y : Nat) (z : List AV) (l c : Int) : opX R (.mkSlice e y z) [.int .i64 l, .int .i64 c] H K = ((0 ≤ l ∧ l ≤ c ∧ c * y ≤ 2 ^ 40 ∧ c ≤ 2 ^ 40) ∧ K (.sl H.next 0 l.toNat (some c.toNat) e) (H.push (.cells true (zeros z c.toNat)))) := by
  rw [opX_al rfl]; simp only [allocOp, forceL_eq, optX_ite, optX_some]
theorem opX_nilCheck_ptr (b o : Nat) : opX R .nilCheck [.ptr b o] H K = K (.ptr b o) H := by rw [opX_pure rfl]; exact optX_some _ _
theorem opX_nilCheck_fn (f : Nat) (fs c : List AV) : opX R .nilCheck [.fn f fs c] H K = K (.fn f fs c) H := by rw [opX_pure rfl]; exact optX_some _ _
theorem opX_nilCheck_yield (l : Nat) : opX R .nilCheck [.yield l] H K = K (.yield l) H := by rw [opX_pure rfl]; exact optX_some _ _
theorem opX_fieldAddr (off b o : Nat) : opX R (.fieldAddr off) [.ptr b o] H K = K (.ptr b (o + off)) H := by
  rw [opX_pure rfl]; simp only [pureOp, forceN_eq, optX_some]
theorem opX_field (off : Nat) (n : Option Nat) (c : List AV) : opX R (.field off n) [.agg c] H K = optX (pureOp (.field off n) [.agg c]) fun v => K v H := opX_pure rfl _
theorem opX_idxArr (n sz b o : Nat) (k : IntKind) (i : Int) : opX R (.idxArr n sz) [.ptr b o, .int k i] H K = ((0 ≤ i ∧ i < n) ∧ K (.ptr b (o + i.toNat * sz)) H) := by
  rw [opX_pure rfl]; simp only [pureOp, forceN_eq, optX_ite, optX_some]
theorem opX_idxSl (sz b o n : Nat) (c : Option Nat) (e : Nat) (k : IntKind) (i : Int) : opX R (.idxSl sz) [.sl b o n c e, .int k i] H K = ((0 ≤ i ∧ i < n) ∧ K (.ptr b (o + i.toNat * sz)) H) := by
  rw [opX_pure rfl]; simp only [pureOp, forceN_eq, optX_ite, optX_some]
theorem opX_idxVal (n sz : Nat) (c : List AV) (k : IntKind) (i : Int) : opX R (.idxVal n sz false) [.agg c, .int k i] H K = ((0 ≤ i ∧ i < n) ∧ optX (cell1 c (i.toNat * sz)) fun v => K v H) := by
  rw [opX_pure rfl]; simp only [pureOp, optX_ite]; rfl
theorem opX_idxValA (n sz : Nat) (c : List AV) (k : IntKind) (i : Int) : opX R (.idxVal n sz true) [.agg c, .int k i] H K = ((0 ≤ i ∧ i < n) ∧ optX (span c (i.toNat * sz) sz) fun l => K (.agg l) H) := by
  rw [opX_pure rfl]; simp only [pureOp, optX_ite]
  cases span c (i.toNat * sz) sz with
  | none => simp only [optX_none]
  | some l => simp only [optX_some]
theorem opX_idxStr (s : List UInt8) (k : IntKind) (i : Int) : opX R .idxStr [.str s, .int k i] H K = (0 ≤ i ∧ optX (s[i.toNat]?) fun b => K (.int .u8 b.toNat) H) := by
  rw [opX_pure rfl]; simp only [pureOp, optX_ite]
  cases s[i.toNat]? with
  | none => simp only [optX_none]
  | some l => simp only [mkInt_eq, optX_some]
theorem opX_s2a (n b o m : Nat) (c : Option Nat) (e : Nat) : opX R (.s2a n) [.sl b o m c e] H K = ((n ≤ m ∧ 0 < n) ∧ K (.ptr b o) H) := by
  rw [opX_pure rfl]; simp only [pureOp, optX_ite, optX_some]
theorem opX_mkFunc (f nf : Nat) (xs : List AV) : opX R (.mkFunc f nf) xs H K = K (.fn f (xs.take nf) (xs.drop nf)) H := by rw [opX_pure rfl]; exact optX_some _ _
theorem opX_slice (k : SlK) (lo hi mx : Bool) (x : AV) (xs : List AV) : opX R (.slice k lo hi mx) (x :: xs) H K = optX (sliceA k lo hi mx x xs) fun v => K v H := by rw [opX_pure rfl]; rfl
theorem opX_extract (i : Nat) (l : List AV) : opX R (.extract i) [.tup l] H K = optX l[i]? fun v => K v H := by rw [opX_pure rfl]; rfl
theorem opX_len_sl (b o n : Nat) (c : Option Nat) (e : Nat) : opX R (.len .sl) [.sl b o n c e] H K = K (.int .i64 n) H := by rw [opX_pure rfl]; simp only [pureOp, mkInt_eq, optX_some]
theorem opX_len_nils : opX R (.len .sl) [.nils] H K = K (.int .i64 0) H := by rw [opX_pure rfl]; exact optX_some _ _
theorem opX_len_str (s : List UInt8) : opX R (.len .str) [.str s] H K = K (.int .i64 s.length) H := by rw [opX_pure rfl]; simp only [pureOp, mkInt_eq, optX_some]
theorem opX_len_const (n : Nat) (x : AV) : opX R (.len (.const n)) [x] H K = K (.int .i64 n) H := by rw [opX_pure rfl]; cases x <;> exact optX_some _ _
theorem opX_len_map (b : Nat) : opX R (.len .map) [.map b] H K = optX (H.mapAt b) fun x => K (.int .i64 x.1.length) H := by
  rw [opX_read rfl]; simp only [readOp]
  cases H.mapAt b with
  | none => simp only [optX_none]
  | some l => simp only [mkInt_eq, optX_some]
theorem opX_cap_nils : opX R .cap [.nils] H K = K (.int .i64 0) H := by rw [opX_pure rfl]; exact optX_some _ _
theorem opX_cap_sl (b o n c e : Nat) : opX R .cap [.sl b o n (some c) e] H K = K (.int .i64 c) H := by rw [opX_pure rfl]; exact optX_some _ _
theorem opX_max (k : IntKind) (a b : Int) : opX R .max [.int k a, .int k b] H K = K (.int k (if b > a then b else a)) H := by
  rw [opX_pure rfl]; simp only [pureOp, if_true, optX_some]
theorem opX_min (k : IntKind) (a b : Int) : opX R .min [.int k a, .int k b] H K = K (.int k (if b < a then b else a)) H := by
  rw [opX_pure rfl]; simp only [pureOp, if_true, optX_some]
theorem opX_append (e sz y : Nat) (z : List AV) (s x : AV) : opX R (.append e sz y z false) [s, x] H K = optX (srcCells sz H x) fun p => optX (appendA e sz y s p.1 p.2 H) fun r => K r.1 r.2 := by
  rw [opX_eff rfl]; simp only [effOp]
  cases srcCells sz H x with
  | none => simp only [optX_none]
  | some p => simp only [optX_some]
theorem opX_copy (sz : Nat) (b o m : Nat) (c : Option Nat) (e : Nat) (x : AV) : opX R (.copy sz) [.sl b o m c e, x] H K = optX (srcCells sz H x) fun p =>
    if Nat.min p.1 m = 0 then K (.int .i64 0) H else optX (H.write b o (p.2.take (Nat.min p.1 m * sz))) fun H' => K (.int .i64 (Nat.min p.1 m : Nat)) H' := by
  rw [opX_eff rfl]; simp only [effOp]
  cases srcCells sz H x with
  | none => simp only [optX_none]
  | some p =>
    simp only [optX_some]
    by_cases h : Nat.min p.1 m = 0
    · simp only [h, if_true, optX_some]
    · simp only [h, if_false]
      cases H.write b o (p.2.take (Nat.min p.1 m * sz)) with
      | none => simp only [optX_none]
      | some H' => simp only [optX_some]
theorem opX_copy_nils (sz : Nat) (x : AV) : opX R (.copy sz) [.nils, x] H K = optX (srcCells sz H x) fun _ => K (.int .i64 0) H := by
  rw [opX_eff rfl]; simp only [effOp]
  cases srcCells sz H x with
  | none => simp only [optX_none]
  | some p => simp only [optX_some]
theorem opX_lookup (kk : KK) (zero : AV) (ok : Bool) (b : Nat) (k : AV) : opX R (.lookup kk zero ok) [.map b, k] H K = (keyOk kk k = true ∧ optX (H.mapAt b) fun x => optX (mlook kk k x.1) fun r => match r with
    | some (_, v, _) => K (if ok then .tup [v, .bool true] else v) H
    | none => K (if ok then .tup [zero, .bool false] else zero) H) := by
  rw [opX_read rfl]; simp only [readOp]
  by_cases h : keyOk kk k = true
  · simp only [h, if_true, true_and]
    cases H.mapAt b with
    | none => simp only [optX_none]
    | some x =>
      simp only [optX_some]
      cases mlook kk k x.1 with
      | none => simp only [optX_none]
      | some r =>
        simp only [optX_some]
        cases r with
        | none => simp only [optX_some]
        | some p => simp only [optX_some]
  · simp [h, optX_none]
theorem opX_mapUpdate (kk : KK) (b : Nat) (k v : AV) : opX R (.mapUpdate kk) [.map b, k, v] H K = (keyOk kk k = true ∧ optX (H.mapAt b) fun x => optX (mlook kk k x.1) fun r => match r with
    | some (i, _, born) => K (.tup []) (H.set b (.map (x.1.set i (k, v, born)) x.2))
    | none => K (.tup []) (H.set b (.map (x.1 ++ [(k, v, x.2)]) (x.2 + 1)))) := by
  rw [opX_eff rfl]; simp only [effOp]
  by_cases h : keyOk kk k = true
  · simp only [h, if_true, true_and]
    cases H.mapAt b with
    | none => simp only [optX_none]
    | some x =>
      simp only [optX_some]
      cases mlook kk k x.1 with
      | none => simp only [optX_none]
      | some r =>
        simp only [optX_some]
        cases r with
        | none => simp only [optX_some]
        | some p => simp only [optX_some]
  · simp [h, optX_none]
end

/-! ### Regions that draw their order -/
section
variable {R : Job → Prop} {e : Env} {H : Heap} {base : Nat} {q : List (Nat × AObj)} {ws : List Watch} {K : Env → Heap → Prop}
theorem dregX_nil : dregX R base [] e H q ws K = K e (flush H q) := by simp only [dregX_eq]; first | done | rfl
theorem dregX_pure {op : IOp} (h : kd op = .pure) (i : Nat) (pre : List Nat) (dst : Option Nat) (xs : List Opd) (r : List DOp) :
    dregX R base (⟨i, pre, .pure, ⟨dst, op, xs, none⟩⟩ :: r) e H q ws K = evX (evs e xs) fun xs => opX R op xs H fun v _ => dregX R base r (e.putO dst v) H q ws K := by
  have : ∀ xs, opX R op xs H (fun v _ => dregX R base r (e.putO dst v) H q ws K) = optX (pureOp op xs) fun v => dregX R base r (e.putO dst v) H q ws K := fun xs => opX_pure h xs
  rw [funext this]
  simp only [dregX_eq, evX_eq, optX_eq]
  show dregWp R base _ e H q ws K = _
  cases hx : evs e xs with
  | none => simp only [dregWp, wants, Bare.opt, hx]
  | some v => simp only [dregWp, wants, Bare.opt, hx]; cases pureOp op v <;> rfl
theorem dregX_read {op : IOp} (h : kd op = .read) (i : Nat) (pre : List Nat) (hi : Nat) (dst : Option Nat) (xs : List Opd) (r : List DOp) :
    dregX R base (⟨i, pre, .read hi, ⟨dst, op, xs, none⟩⟩ :: r) e H q ws K = evX (evs e xs) fun xs => opX R op xs H fun v _ => dregX R base r (e.putO dst v) H q (⟨hi, op, xs, v⟩ :: ws) K := by
  have : ∀ xs, opX R op xs H (fun v _ => dregX R base r (e.putO dst v) H q (⟨hi, op, xs, v⟩ :: ws) K) = optX (readOp op xs H) fun v => dregX R base r (e.putO dst v) H q (⟨hi, op, xs, v⟩ :: ws) K := fun xs => opX_read h xs
  rw [funext this]
  simp only [dregX_eq, evX_eq, optX_eq]
  show dregWp R base _ e H q ws K = _
  cases hx : evs e xs with
  | none => simp only [dregWp, wants, Bare.opt, hx]
  | some v => simp only [dregWp, wants, Bare.opt, hx]; cases readOp op v H <;> rfl
theorem dregX_alloc {op : IOp} (i : Nat) (pre : List Nat) (j : Nat) (dst : Option Nat) (xs : List Opd) (r : List DOp) :
    dregX R base (⟨i, pre, .alloc j, ⟨dst, op, xs, none⟩⟩ :: r) e H q ws K = evX (evs e xs) fun xs => optX (allocOp op xs) fun x => dregX R base r (e.putO dst (x.1 (base + j))) H ((base + j, x.2) :: q) ws K := by
  simp only [dregX_eq, evX_eq, optX_eq]
  show dregWp R base _ e H q ws K = _
  cases hx : evs e xs with
  | none => simp only [dregWp, wants, Bare.opt, hx]
  | some v => simp only [dregWp, wants, Bare.opt, hx]; cases allocOp op v <;> rfl
theorem dregX_eff {op : IOp} (i : Nat) (pre : List Nat) (num hi : Nat) (dst : Option Nat) (xs : List Opd) (r : List DOp) :
    dregX R base (⟨i, pre, .eff num hi, ⟨dst, op, xs, none⟩⟩ :: r) e H q ws K = evX (evs e xs) fun xs => opX R op xs (flush H q) fun v H' => watched num H' ws = true ∧ dregX R base r (e.putO dst v) H' [] ws K := by
  simp only [dregX_eq, evX_eq, opX_eq]
  show dregWp R base _ e H q ws K = _
  cases hx : evs e xs with
  | none => simp only [dregWp, wants, Bare.opt, hx]
  | some v =>
    simp only [dregWp, wants, Bare.opt, hx]
    show opWp R op v _ _ = opWp R op v _ _
    congr 1
    funext v H'
    cases watched num H' ws <;> simp <;> rfl
theorem dregX_g (d : DOp) (g : Nat × Bool) (r : List DOp) (hg : d.o.guard = some g) :
    dregX R base (d :: r) e H q ws K = gdX (wants e (some g)) (dregX R base (⟨d.idx, d.pre, d.k, ⟨d.o.dst, d.o.op, d.o.xs, none⟩⟩ :: r) e H q ws K) (dregX R base r (e.putO d.o.dst (.tup [])) H q ws K) := by
  simp only [dregX_eq, gdX_eq]
  show dregWp R base _ e H q ws K = _
  cases hw : wants e (some g) with
  | none => simp only [dregWp, Bare.gd, hg, hw]
  | some b =>
    cases b
    · simp only [dregWp, Bare.gd, hg, hw]; rfl
    · simp only [Bare.gd]
      show _ = dregWp R base _ e H q ws K
      have h0 : wants e none = some true := rfl
      simp only [dregWp, hg, hw, h0]
theorem dregX_guard (i : Nat) (pre : List Nat) (k : DK) (dst : Option Nat) (op : IOp) (xs : List Opd) (g : Nat × Bool) (r : List DOp) :
    dregX R base (⟨i, pre, k, ⟨dst, op, xs, some g⟩⟩ :: r) e H q ws K = gdX (wants e (some g)) (dregX R base (⟨i, pre, k, ⟨dst, op, xs, none⟩⟩ :: r) e H q ws K) (dregX R base r (e.putO dst (.tup [])) H q ws K) :=
  dregX_g _ g r rfl
end

theorem watched_nil (k : Nat) (H : Heap) : watched k H [] = true := rfl
theorem watched_1_0 (H : Heap) (op : IOp) (xs : List AV) (v : AV) (r : List Watch) : watched 1 H (⟨0, op, xs, v⟩ :: r) = watched 1 H r := by simp [watched]
theorem watched_2_0 (H : Heap) (op : IOp) (xs : List AV) (v : AV) (r : List Watch) : watched 2 H (⟨0, op, xs, v⟩ :: r) = watched 2 H r := by simp [watched]
theorem watched_2_1 (H : Heap) (op : IOp) (xs : List AV) (v : AV) (r : List Watch) : watched 2 H (⟨1, op, xs, v⟩ :: r) = watched 2 H r := by simp [watched]
theorem watched_3_0 (H : Heap) (op : IOp) (xs : List AV) (v : AV) (r : List Watch) : watched 3 H (⟨0, op, xs, v⟩ :: r) = watched 3 H r := by simp [watched]
theorem watched_3_1 (H : Heap) (op : IOp) (xs : List AV) (v : AV) (r : List Watch) : watched 3 H (⟨1, op, xs, v⟩ :: r) = watched 3 H r := by simp [watched]
theorem watched_3_2 (H : Heap) (op : IOp) (xs : List AV) (v : AV) (r : List Watch) : watched 3 H (⟨2, op, xs, v⟩ :: r) = watched 3 H r := by simp [watched]
theorem watched_4_0 (H : Heap) (op : IOp) (xs : List AV) (v : AV) (r : List Watch) : watched 4 H (⟨0, op, xs, v⟩ :: r) = watched 4 H r := by simp [watched]
theorem watched_4_1 (H : Heap) (op : IOp) (xs : List AV) (v : AV) (r : List Watch) : watched 4 H (⟨1, op, xs, v⟩ :: r) = watched 4 H r := by simp [watched]
theorem watched_4_2 (H : Heap) (op : IOp) (xs : List AV) (v : AV) (r : List Watch) : watched 4 H (⟨2, op, xs, v⟩ :: r) = watched 4 H r := by simp [watched]
theorem watched_4_3 (H : Heap) (op : IOp) (xs : List AV) (v : AV) (r : List Watch) : watched 4 H (⟨3, op, xs, v⟩ :: r) = watched 4 H r := by simp [watched]
theorem watched_5_0 (H : Heap) (op : IOp) (xs : List AV) (v : AV) (r : List Watch) : watched 5 H (⟨0, op, xs, v⟩ :: r) = watched 5 H r := by simp [watched]
theorem watched_5_1 (H : Heap) (op : IOp) (xs : List AV) (v : AV) (r : List Watch) : watched 5 H (⟨1, op, xs, v⟩ :: r) = watched 5 H r := by simp [watched]
theorem watched_5_2 (H : Heap) (op : IOp) (xs : List AV) (v : AV) (r : List Watch) : watched 5 H (⟨2, op, xs, v⟩ :: r) = watched 5 H r := by simp [watched]
theorem watched_5_3 (H : Heap) (op : IOp) (xs : List AV) (v : AV) (r : List Watch) : watched 5 H (⟨3, op, xs, v⟩ :: r) = watched 5 H r := by simp [watched]
theorem watched_5_4 (H : Heap) (op : IOp) (xs : List AV) (v : AV) (r : List Watch) : watched 5 H (⟨4, op, xs, v⟩ :: r) = watched 5 H r := by simp [watched]
theorem size_int (k : IntKind) (n : Int) : AV.size 1 (.int k n) = true := rfl
theorem size_bool (b : Bool) : AV.size 1 (.bool b) = true := rfl
theorem size_sl (b o n : Nat) (c : Option Nat) (e : Nat) : AV.size 1 (.sl b o n c e) = true := rfl
theorem size_nils : AV.size 1 .nils = true := rfl
theorem size_ptr (b o : Nat) : AV.size 1 (.ptr b o) = true := rfl
theorem size_nilp : AV.size 1 .nilp = true := rfl
theorem size_agg (n : Nat) (l : List AV) : (AV.size n (.agg l) = true) = (l.length = n ∧ l.all AV.one = true) := by
  simp only [AV.size, AV.cells, Bool.and_eq_true]
  apply propext
  exact ⟨fun h => ⟨Nat.eq_of_beq_eq_true h.1, h.2⟩, fun h => ⟨by rw [h.1]; exact Nat.beq_refl n, h.2⟩⟩
theorem cells_int (k : IntKind) (n : Int) : AV.cells (.int k n) = [.int k n] := rfl
theorem cells_agg (l : List AV) : AV.cells (.agg l) = l := rfl
theorem cells_bool (b : Bool) : AV.cells (.bool b) = [.bool b] := rfl
theorem cells_sl (b o n : Nat) (c : Option Nat) (e : Nat) : AV.cells (.sl b o n c e) = [.sl b o n c e] := rfl
theorem cells_nils : AV.cells .nils = [.nils] := rfl
theorem cells_ptr (b o : Nat) : AV.cells (.ptr b o) = [.ptr b o] := rfl
section
variable {R : Job → Prop} {H : Heap} {K : AV → Heap → Prop}
theorem opX_store_agg (n b o : Nat) (l : List AV) : opX R (.store n) [.ptr b o, .agg l] H K = ((l.length = n ∧ l.all AV.one = true) ∧ optX (H.write b o l) fun H' => K (.tup []) H') := by
  rw [opX_store, size_agg]; simp only [AV.cells]
theorem opX_box_agg (l : List AV) : opX R .box [.agg l] H K = (l.all AV.one = true ∧ K (.ptr H.next 0) (H.push (.cells true l))) := by rw [opX_box]; simp only [AV.cells]
theorem opX_store_int (b o : Nat) (k : IntKind) (n : Int) : opX R (.store 1) [.ptr b o, .int k n] H K = optX (H.write b o [.int k n]) fun H' => K (.tup []) H' := by
  rw [opX_store]; have h : AV.size 1 (.int k n) = true := rfl; simp only [h, true_and, AV.cells]
theorem opX_box_int (k : IntKind) (n : Int) : opX R .box [.int k n] H K = K (.ptr H.next 0) (H.push (.cells true [.int k n])) := by
  rw [opX_box]; have h : [AV.nilp].all AV.one = true := rfl; simp only [AV.cells, List.all_cons, List.all_nil, AV.one, Bool.and_self, true_and]
theorem opX_store_bool (b o : Nat) (c : Bool) : opX R (.store 1) [.ptr b o, .bool c] H K = optX (H.write b o [.bool c]) fun H' => K (.tup []) H' := by
  rw [opX_store]; have h : AV.size 1 (.bool c) = true := rfl; simp only [h, true_and, AV.cells]
theorem opX_box_bool (c : Bool) : opX R .box [.bool c] H K = K (.ptr H.next 0) (H.push (.cells true [.bool c])) := by
  rw [opX_box]; have h : [AV.nilp].all AV.one = true := rfl; simp only [AV.cells, List.all_cons, List.all_nil, AV.one, Bool.and_self, true_and]
theorem opX_store_str (b o : Nat) (l : List UInt8) : opX R (.store 1) [.ptr b o, .str l] H K = optX (H.write b o [.str l]) fun H' => K (.tup []) H' := by
  rw [opX_store]; have h : AV.size 1 (.str l) = true := rfl; simp only [h, true_and, AV.cells]
theorem opX_box_str (l : List UInt8) : opX R .box [.str l] H K = K (.ptr H.next 0) (H.push (.cells true [.str l])) := by
  rw [opX_box]; have h : [AV.nilp].all AV.one = true := rfl; simp only [AV.cells, List.all_cons, List.all_nil, AV.one, Bool.and_self, true_and]
theorem opX_store_sl (b o : Nat) (d p n : Nat) (c : Option Nat) (e : Nat) : opX R (.store 1) [.ptr b o, .sl d p n c e] H K = optX (H.write b o [.sl d p n c e]) fun H' => K (.tup []) H' := by
  rw [opX_store]; have h : AV.size 1 (.sl d p n c e) = true := rfl; simp only [h, true_and, AV.cells]
theorem opX_box_sl (d p n : Nat) (c : Option Nat) (e : Nat) : opX R .box [.sl d p n c e] H K = K (.ptr H.next 0) (H.push (.cells true [.sl d p n c e])) := by
  rw [opX_box]; have h : [AV.nilp].all AV.one = true := rfl; simp only [AV.cells, List.all_cons, List.all_nil, AV.one, Bool.and_self, true_and]
theorem opX_store_nils (b o : Nat)  : opX R (.store 1) [.ptr b o, .nils] H K = optX (H.write b o [.nils]) fun H' => K (.tup []) H' := by
  rw [opX_store]; have h : AV.size 1 (.nils) = true := rfl; simp only [h, true_and, AV.cells]
theorem opX_box_nils  : opX R .box [.nils] H K = K (.ptr H.next 0) (H.push (.cells true [.nils])) := by
  rw [opX_box]; have h : [AV.nilp].all AV.one = true := rfl; simp only [AV.cells, List.all_cons, List.all_nil, AV.one, Bool.and_self, true_and]
theorem opX_store_ptr (b o : Nat) (d p : Nat) : opX R (.store 1) [.ptr b o, .ptr d p] H K = optX (H.write b o [.ptr d p]) fun H' => K (.tup []) H' := by
  rw [opX_store]; have h : AV.size 1 (.ptr d p) = true := rfl; simp only [h, true_and, AV.cells]
theorem opX_box_ptr (d p : Nat) : opX R .box [.ptr d p] H K = K (.ptr H.next 0) (H.push (.cells true [.ptr d p])) := by
  rw [opX_box]; have h : [AV.nilp].all AV.one = true := rfl; simp only [AV.cells, List.all_cons, List.all_nil, AV.one, Bool.and_self, true_and]
theorem opX_store_nilp (b o : Nat)  : opX R (.store 1) [.ptr b o, .nilp] H K = optX (H.write b o [.nilp]) fun H' => K (.tup []) H' := by
  rw [opX_store]; have h : AV.size 1 (.nilp) = true := rfl; simp only [h, true_and, AV.cells]
theorem opX_box_nilp  : opX R .box [.nilp] H K = K (.ptr H.next 0) (H.push (.cells true [.nilp])) := by
  rw [opX_box]; have h : [AV.nilp].all AV.one = true := rfl; simp only [AV.cells, List.all_cons, List.all_nil, AV.one, Bool.and_self, true_and]
theorem opX_store_map (b o : Nat) (d : Nat) : opX R (.store 1) [.ptr b o, .map d] H K = optX (H.write b o [.map d]) fun H' => K (.tup []) H' := by
  rw [opX_store]; have h : AV.size 1 (.map d) = true := rfl; simp only [h, true_and, AV.cells]
theorem opX_box_map (d : Nat) : opX R .box [.map d] H K = K (.ptr H.next 0) (H.push (.cells true [.map d])) := by
  rw [opX_box]; have h : [AV.nilp].all AV.one = true := rfl; simp only [AV.cells, List.all_cons, List.all_nil, AV.one, Bool.and_self, true_and]
theorem opX_store_nilm (b o : Nat)  : opX R (.store 1) [.ptr b o, .nilm] H K = optX (H.write b o [.nilm]) fun H' => K (.tup []) H' := by
  rw [opX_store]; have h : AV.size 1 (.nilm) = true := rfl; simp only [h, true_and, AV.cells]
theorem opX_box_nilm  : opX R .box [.nilm] H K = K (.ptr H.next 0) (H.push (.cells true [.nilm])) := by
  rw [opX_box]; have h : [AV.nilp].all AV.one = true := rfl; simp only [AV.cells, List.all_cons, List.all_nil, AV.one, Bool.and_self, true_and]
theorem opX_store_fn (b o : Nat) (f : Nat) (a c : List AV) : opX R (.store 1) [.ptr b o, .fn f a c] H K = optX (H.write b o [.fn f a c]) fun H' => K (.tup []) H' := by
  rw [opX_store]; have h : AV.size 1 (.fn f a c) = true := rfl; simp only [h, true_and, AV.cells]
theorem opX_box_fn (f : Nat) (a c : List AV) : opX R .box [.fn f a c] H K = K (.ptr H.next 0) (H.push (.cells true [.fn f a c])) := by
  rw [opX_box]; have h : [AV.nilp].all AV.one = true := rfl; simp only [AV.cells, List.all_cons, List.all_nil, AV.one, Bool.and_self, true_and]
theorem opX_store_nilf (b o : Nat)  : opX R (.store 1) [.ptr b o, .nilf] H K = optX (H.write b o [.nilf]) fun H' => K (.tup []) H' := by
  rw [opX_store]; have h : AV.size 1 (.nilf) = true := rfl; simp only [h, true_and, AV.cells]
theorem opX_box_nilf  : opX R .box [.nilf] H K = K (.ptr H.next 0) (H.push (.cells true [.nilf])) := by
  rw [opX_box]; have h : [AV.nilp].all AV.one = true := rfl; simp only [AV.cells, List.all_cons, List.all_nil, AV.one, Bool.and_self, true_and]
theorem opX_store_yield (b o : Nat) (d : Nat) : opX R (.store 1) [.ptr b o, .yield d] H K = optX (H.write b o [.yield d]) fun H' => K (.tup []) H' := by
  rw [opX_store]; have h : AV.size 1 (.yield d) = true := rfl; simp only [h, true_and, AV.cells]
theorem opX_box_yield (d : Nat) : opX R .box [.yield d] H K = K (.ptr H.next 0) (H.push (.cells true [.yield d])) := by
  rw [opX_box]; have h : [AV.nilp].all AV.one = true := rfl; simp only [AV.cells, List.all_cons, List.all_nil, AV.one, Bool.and_self, true_and]
end

/-! ### Kinds -/
theorem kd_move  : kd (.move) = .pure := rfl
theorem kd_pick  : kd (.pick) = .pure := rfl
theorem kd_build (z : List AV) (l : List (Nat × Nat)) : kd (.build z l) = .pure := rfl
theorem kd_load (n : Option Nat) : kd (.load n) = .read := rfl
theorem kd_nilCheck  : kd (.nilCheck) = .pure := rfl
theorem kd_bin (o : BinOp) : kd (.bin o) = .pure := rfl
theorem kd_eq (n : Bool) (k : EqK) : kd (.eq n k) = .pure := rfl
theorem kd_un (o : UnOp) : kd (.un o) = .pure := rfl
theorem kd_cvInt (k : IntKind) : kd (.cvInt k) = .pure := rfl
theorem kd_cvBS  : kd (.cvBS) = .read := rfl
theorem kd_cvNop  : kd (.cvNop) = .pure := rfl
theorem kd_s2a (n : Nat) : kd (.s2a n) = .pure := rfl
theorem kd_mkFunc (f n : Nat) : kd (.mkFunc f n) = .pure := rfl
theorem kd_slice (k : SlK) (a b c : Bool) : kd (.slice k a b c) = .pure := rfl
theorem kd_fieldAddr (n : Nat) : kd (.fieldAddr n) = .pure := rfl
theorem kd_field (o : Nat) (n : Option Nat) : kd (.field o n) = .pure := rfl
theorem kd_idxArr (n m : Nat) : kd (.idxArr n m) = .pure := rfl
theorem kd_idxSl (n : Nat) : kd (.idxSl n) = .pure := rfl
theorem kd_idxVal (n m : Nat) (b : Bool) : kd (.idxVal n m b) = .pure := rfl
theorem kd_idxStr  : kd (.idxStr) = .pure := rfl
theorem kd_lookup (k : KK) (z : AV) (b : Bool) : kd (.lookup k z b) = .read := rfl
theorem kd_entry  : kd (.entry) = .read := rfl
theorem kd_extract (n : Nat) : kd (.extract n) = .pure := rfl
theorem kd_lenSl  : kd (.len .sl) = .pure := rfl
theorem kd_lenStr  : kd (.len .str) = .pure := rfl
theorem kd_lenMap  : kd (.len .map) = .read := rfl
theorem kd_lenC (n : Nat) : kd (.len (.const n)) = .pure := rfl
theorem kd_cap  : kd (.cap) = .pure := rfl
theorem kd_max  : kd (.max) = .pure := rfl
theorem kd_min  : kd (.min) = .pure := rfl

/-! ### Values -/
theorem bin_add (k : IntKind) (a b : Int) : binA .add (.int k a) (.int k b) = some (.int k (k.wrap (a + b))) := by simp [binA, binInt]
theorem bin_sub (k : IntKind) (a b : Int) : binA .sub (.int k a) (.int k b) = some (.int k (k.wrap (a - b))) := by simp [binA, binInt]
theorem bin_mul (k : IntKind) (a b : Int) : binA .mul (.int k a) (.int k b) = some (.int k (k.wrap (a * b))) := by simp [binA, binInt]
theorem bin_quo (k : IntKind) (a b : Int) : binA .quo (.int k a) (.int k b) = if b = 0 then none else some (.int k (k.wrap (a.tdiv b))) := by simp [binA, binInt]
theorem bin_rem (k : IntKind) (a b : Int) : binA .rem (.int k a) (.int k b) = if b = 0 then none else some (.int k (a.tmod b)) := by simp [binA, binInt]
theorem bin_and (k : IntKind) (a b : Int) : binA .and (.int k a) (.int k b) = some (.int k (bits k (fun x y => x &&& y) a b)) := by simp [binA, binInt]
theorem bin_or (k : IntKind) (a b : Int) : binA .or (.int k a) (.int k b) = some (.int k (bits k (fun x y => x ||| y) a b)) := by simp [binA, binInt]
theorem bin_xor (k : IntKind) (a b : Int) : binA .xor (.int k a) (.int k b) = some (.int k (bits k (fun x y => x ^^^ y) a b)) := by simp [binA, binInt]
theorem bin_lss (k : IntKind) (a b : Int) : binA .lss (.int k a) (.int k b) = some (.bool (decide (a < b))) := by simp [binA, binInt]
theorem bin_leq (k : IntKind) (a b : Int) : binA .leq (.int k a) (.int k b) = some (.bool (decide (a ≤ b))) := by simp [binA, binInt]
theorem bin_gtr (k : IntKind) (a b : Int) : binA .gtr (.int k a) (.int k b) = some (.bool (decide (b < a))) := by simp [binA, binInt]
theorem bin_geq (k : IntKind) (a b : Int) : binA .geq (.int k a) (.int k b) = some (.bool (decide (b ≤ a))) := by simp [binA, binInt]
theorem bin_eql (k : IntKind) (a b : Int) : binA .eql (.int k a) (.int k b) = some (.bool (decide (a = b))) := by simp [binA, binInt]; rfl
theorem bin_neq (k : IntKind) (a b : Int) : binA .neq (.int k a) (.int k b) = some (.bool (!decide (a = b))) := by simp [binA, binInt]; rfl
theorem bin_shl (k j : IntKind) (a b : Int) : binA .shl (.int k a) (.int j b) = if b < 0 then none else some (.int k (k.wrap (a * 2 ^ (Nat.min b.toNat k.bits)))) := by simp [binA]
theorem bin_shr (k j : IntKind) (a b : Int) : binA .shr (.int k a) (.int j b) = if b < 0 then none else some (.int k (a.fdiv (2 ^ (Nat.min b.toNat k.bits)))) := by simp [binA]
theorem un_xor (n : Int) : unA .xor (.int .u64 n) = some (.int .u64 (bits .u64 (fun x y => x ^^^ y) IntKind.u64.max n)) := by simp [unA]; rfl
theorem un_neg (k : IntKind) (n : Int) : unA .neg (.int k n) = some (.int k (k.wrap (0 - n))) := by simp [unA]
theorem un_not (b : Bool) : unA .not (.bool b) = some (.bool (!b)) := rfl
end Go.AE

/-
  Tables with contracts laid over.
-/
namespace Go.AE
/-- A table with a contract laid over. -/
def over (T : Nat → Option FSpec) (f : Nat) (S : List AV → Heap → (AV → Heap → Prop) → Prop) : Nat → Option FSpec := fun k => match Nat.beq k f with
  | true => some (.spec S)
  | false => T k
theorem TMono.over {T : Nat → Option FSpec} (h : TMono T) {f : Nat} {S : List AV → Heap → (AV → Heap → Prop) → Prop} (hS : ∀ args H (K K' : AV → Heap → Prop), (∀ v H, K v H → K' v H) → S args H K → S args H K') : TMono (over T f S) := by
  intro k S' hk
  unfold Go.AE.over at hk
  split at hk
  · injection hk with hk; injection hk with hk; subst hk; exact hS
  · exact h k S' hk
theorem TabOk.over {P : Program} {T : Nat → Option FSpec} (h : TabOk P T) {f : Nat} {S : List AV → Heap → (AV → Heap → Prop) → Prop} (hS : ∀ args H K, S args H K → CallSound P f args H K ∧ ∃ v H', K v H') : TabOk P (over T f S) where
  code := fun k ifn hk => by
    unfold Go.AE.over at hk
    split at hk
    · injection hk with hk; cases hk
    · exact h.code k ifn hk
  spec := fun k S' hk => by
    unfold Go.AE.over at hk
    split at hk
    · rename_i hb
      have := Nat.eq_of_beq_eq_true hb
      subst this
      injection hk with hk; injection hk with hk; subst hk; exact hS
    · exact h.spec k S' hk
/-- What a lower table answers for. -/
def low (T : Nat → Option FSpec) (f : Nat) : List AV → Heap → (AV → Heap → Prop) → Prop := fun args H K => Wp T (.call f args H K)
theorem low_mono {T : Nat → Option FSpec} {f : Nat} : ∀ args H (K K' : AV → Heap → Prop), (∀ v H, K v H → K' v H) → low T f args H K → low T f args H K' :=
  fun _ _ _ _ hK h => Wp.jmono.call hK h
theorem low_ok {P : Program} (hm : P.follows .mixedOrders = true) {T : Nat → Option FSpec} (hT : TabOk P T) {f : Nat} : ∀ args H K, low T f args H K → CallSound P f args H K ∧ ∃ v H', K v H' :=
  fun _ _ _ h => Wp.sound hm hT h
mutual
theorem AV.under_le {n m : Nat} (h : n ≤ m) : ∀ v : AV, AV.under n v = true → AV.under m v = true
  | .bool _, _ | .int _ _, _ | .str _, _ | .nilp, _ | .nils, _ | .nilm, _ | .nilf, _ | .nili, _ => rfl
  | .ptr b o, hu => by simp only [AV.under, decide_eq_true_eq] at hu ⊢; omega
  | .sl b o k c e, hu => by simp only [AV.under, decide_eq_true_eq] at hu ⊢; omega
  | .map b, hu => by simp only [AV.under, decide_eq_true_eq] at hu ⊢; omega
  | .yield b, hu => by simp only [AV.under, decide_eq_true_eq] at hu ⊢; omega
  | .fn f a c, hu => by
    simp only [AV.under, Bool.and_eq_true] at hu ⊢
    exact ⟨AV.unders_le h _ hu.1, AV.unders_le h _ hu.2⟩
  | .agg l, hu => by simp only [AV.under] at hu ⊢; exact AV.unders_le h _ hu
  | .tup l, hu => by simp only [AV.under] at hu ⊢; exact AV.unders_le h _ hu
theorem AV.unders_le {n m : Nat} (h : n ≤ m) : ∀ l : List AV, AV.unders n l = true → AV.unders m l = true
  | [], _ => rfl
  | a :: r, hu => by
    simp only [AV.unders, Bool.and_eq_true] at hu ⊢
    exact ⟨AV.under_le h _ hu.1, AV.unders_le h _ hu.2⟩
end
/-- A contract of what hands back what names nothing new, and leaves no trace. -/
theorem pure_ok {P : Program} (hm : P.follows .mixedOrders = true) {T : Nat → Option FSpec} (hT : TabOk P T) {f : Nat} {args : List AV} {H : Heap} {K : AV → Heap → Prop} {v : AV} (hv : AV.under H.next v = true) (hk : K v H)
    (h : Wp T (.call f args H fun u H' => u = v ∧ Heap.Le H H')) : CallSound P f args H K ∧ ∃ v H', K v H' := by
  refine ⟨CallSound.forget ?_, v, H, hk⟩
  have h2 : Wp T (.call f args H fun u H' => AV.under H.next u = true ∧ K u H ∧ Heap.Le H H') := Wp.jmono.call (by rintro u H' ⟨rfl, hle⟩; exact ⟨hv, hk, hle⟩) h
  exact (Wp.sound hm hT h2).1
theorem call_spec {T : Nat → Option FSpec} (hT : TMono T) {f : Nat} {S : List AV → Heap → (AV → Heap → Prop) → Prop} (hf : T f = some (.spec S)) (args : List AV) (H : Heap) (K : AV → Heap → Prop) : callX (Wp T) f args H K = S args H K := by
  rw [callX_eq]
  apply propext
  rw [Wp.iff hT]
  simp only [jobWp, hf]
end Go.AE

/-
  Loops over functions.
-/
namespace Go.AE
section
variable {T : Nat → Option FSpec} (hT : TMono T)
include hT
theorem Wp.range {f : Opd} {ps : List Nat} {assign body : ICode} {e : Env} {H : Heap} {Q : Out → Env → Heap → Prop} {g : Nat} {fs cap : List AV} (hf : ev e f = some (.fn g fs cap))
    (h : Wp T (.call g (fs ++ [.yield H.next] ++ cap) (H.push (.loop e ps assign body .ready none)) fun _ H2 => ∃ env ps' as' bd' st pend, H2.get H.next = some (.loop env ps' as' bd' st pend) ∧ (st = .ready ∨ st = .done) ∧ Q (pend.getD .normal) e (H2.kill H.next))) :
    Wp T (.code (.rangeFunc f ps assign body) e H Q) := by
  refine Wp.intro hT ?_
  simp only [jobWp, codeWp, hf]
  refine Wp.jmono.call ?_ h
  rintro v H2 ⟨env, ps', as', bd', st, pend, h1, h2, h3⟩
  rw [h1]
  rcases h2 with rfl | rfl <;> exact h3

theorem round_w {l : Nat} {args : List AV} {H : Heap} {K : AV → Heap → Prop} {env : Env} {ps : List Nat} {assign body : ICode} {pend : Option Out} (hl : H.get l = some (.loop env ps assign body .ready pend)) (ha : args.length = ps.length)
    (h : cX (Wp T) assign (bindPs ps args env) H fun x e H1 => outX x (∃ env1 ps1 assign1 body1 pend1, H1.get l = some (.loop env1 ps1 assign1 body1 .ready pend1) ∧
      cX (Wp T) body e (H1.set l (.loop env1 ps1 assign1 body1 .busy pend1)) fun x _ H2 => ∃ env2 ps2 as2 b2 pend2, H2.get l = some (.loop env2 ps2 as2 b2 .busy pend2) ∧
        outX x (K (.bool true) (H2.set l (.loop env2 ps2 as2 b2 .ready none))) (fun j => K (.bool false) (H2.set l (.loop env2 ps2 as2 b2 .done (some (.exit j))))) (K (.bool false) (H2.set l (.loop env2 ps2 as2 b2 .done (some .ret)))))
      (fun _ => False) False) : roundWp (Wp T) l args H K := by
  unfold roundWp
  rw [hl]
  simp only [ha, if_true]
  refine Wp.jmono.code ?_ (Wp.ofCX hT h)
  intro x e H1
  cases x with
  | normal =>
    rw [outX_normal]
    rintro ⟨env1, ps1, assign1, body1, pend1, h1, h2⟩
    simp only [h1]
    refine Wp.jmono.code ?_ (Wp.ofCX hT h2)
    rintro x _ H2 ⟨env2, ps2, as2, b2, pend2, h3, h4⟩
    simp only [h3]
    cases x with
    | normal => rw [outX_normal] at h4; exact h4
    | exit j => rw [outX_exit] at h4; exact h4
    | ret => rw [outX_ret] at h4; exact h4
  | exit j => rw [outX_exit]; exact False.elim
  | ret => rw [outX_ret]; exact False.elim
end
end Go.AE
