/-
  The evaluator that answers a Bool: memory, operations, code; what it says is so.
-/
import Derived.Test.YtefkjiedgecjpaaGreatDoorAeF1
set_option linter.unusedSimpArgs false
set_option linter.unusedVariables false
set_option linter.unusedSectionVars false
namespace Go.AE

/-! ### Memory -/
noncomputable def PT.getR {α : Type} (t : PT α) : Nat → Option α :=
  PT.rec (motive := fun _ => Nat → Option α) (fun _ => none) (fun _ v _ il ir n => match n with
    | 0 => v
    | m + 1 => match Nat.mod m 2 with
      | 0 => il (Nat.div m 2)
      | _ => ir (Nat.div m 2)) t
theorem PT.getR_eq {α : Type} : ∀ (t : PT α) (n : Nat), t.getR n = t.get n
  | .nil, n => by rw [PT.get_nil]; rfl
  | .node l v r, 0 => rfl
  | .node l v r, m + 1 => by
    show (match m % 2 with | 0 => l.getR (m / 2) | _ => r.getR (m / 2)) = match m % 2 with | 0 => l.get (m / 2) | _ => r.get (m / 2)
    rw [PT.getR_eq l, PT.getR_eq r]
noncomputable def PT.setR {α : Type} (o : Option α) (f : Nat) : PT α → Nat → PT α :=
  Nat.rec (motive := fun _ => PT α → Nat → PT α) (fun t _ => t) (fun _ ih t n => match t with
    | .nil => match n with
      | 0 => .node .nil o .nil
      | m + 1 => match Nat.mod m 2 with
        | 0 => .node (ih .nil (Nat.div m 2)) none .nil
        | _ => .node .nil none (ih .nil (Nat.div m 2))
    | .node l v r => match n with
      | 0 => .node l o r
      | m + 1 => match Nat.mod m 2 with
        | 0 => .node (ih l (Nat.div m 2)) v r
        | _ => .node l v (ih r (Nat.div m 2))) f
theorem PT.setR_eq {α : Type} (o : Option α) : ∀ (f : Nat) (t : PT α) (n : Nat), PT.setR o f t n = PT.setF o f t n
  | 0, t, n => rfl
  | f + 1, .nil, 0 => rfl
  | f + 1, .nil, m + 1 => by
    show (match m % 2 with | 0 => PT.node (PT.setR o f .nil (m / 2)) none .nil | _ => .node .nil none (PT.setR o f .nil (m / 2))) = match m % 2 with | 0 => PT.node (PT.setF o f .nil (m / 2)) none .nil | _ => .node .nil none (PT.setF o f .nil (m / 2))
    rw [PT.setR_eq o f]
  | f + 1, .node l v r, 0 => rfl
  | f + 1, .node l v r, m + 1 => by
    show (match m % 2 with | 0 => PT.node (PT.setR o f l (m / 2)) v r | _ => .node l v (PT.setR o f r (m / 2))) = match m % 2 with | 0 => PT.node (PT.setF o f l (m / 2)) v r | _ => .node l v (PT.setF o f r (m / 2))
    rw [PT.setR_eq o f, PT.setR_eq o f]
noncomputable def getB (H : Heap) (b : Nat) : Option AObj := H.mem.getR b
noncomputable def setB (H : Heap) (b : Nat) (o : AObj) : Heap := ⟨H.next, PT.setR (some o) (Nat.succ b) H.mem b⟩
noncomputable def killB (H : Heap) (b : Nat) : Heap := ⟨H.next, PT.setR none (Nat.succ b) H.mem b⟩
noncomputable def pushB (H : Heap) (o : AObj) : Heap := match H with
  | ⟨n, m⟩ => forceN (Nat.succ n) fun n' => ⟨n', PT.setR (some o) n' m n⟩
theorem getB_eq (H : Heap) (b : Nat) : getB H b = H.get b := PT.getR_eq _ _
theorem setB_eq (H : Heap) (b : Nat) (o : AObj) : setB H b o = H.set b o := by simp only [setB, Heap.set, PT.set, PT.setR_eq]
theorem killB_eq (H : Heap) (b : Nat) : killB H b = H.kill b := by simp only [killB, Heap.kill, PT.set, PT.setR_eq]
theorem pushB_eq (H : Heap) (o : AObj) : pushB H o = H.push o := by
  cases H; simp only [pushB, Heap.push, PT.set, PT.setR_eq, forceN_eq]

noncomputable def loadB (n : Option Nat) (b o : Nat) (H : Heap) : Option AV := match getB H b with
  | some (.cells _ c) => match n with
    | some n => match takeF (dropF c o) n with
      | some l => some (.agg l)
      | none => none
    | none => match dropF c o with
      | v :: _ => some v
      | [] => none
  | _ => none
theorem loadB_eq (n : Option Nat) (b o : Nat) (H : Heap) : loadB n b o H = H.load n b o := by
  unfold loadB Heap.load Heap.read
  rw [getB_eq]
  cases hg : H.get b with
  | none => cases n <;> rfl
  | some ob =>
    cases ob with
    | cells w c =>
      cases n with
      | some n => simp only [spanF_eq]; cases span c o n <;> rfl
      | none =>
        simp only [dropF_eq]
        cases hd : c.drop o with
        | nil => simp [span, hd]
        | cons v r => simp [span, hd]
    | map _ _ => cases n <;> rfl
    | iter _ _ _ => cases n <;> rfl
    | loop _ _ _ _ _ _ => cases n <;> rfl
noncomputable def storeB (n : Nat) (b o : Nat) (v : AV) (H : Heap) : Option Heap := match getB H b with
  | some (.cells true c) => match v with
    | .agg l => match v.size n with
      | true => match writeF c l o with
        | some c' => some (setB H b (.cells true c'))
        | none => none
      | false => none
    | .tup _ => none
    | v => match Nat.beq n 1 with
      | true => match writeF c [v] o with
        | some c' => some (setB H b (.cells true c'))
        | none => none
      | false => none
  | _ => none
theorem storeB_ok {n b o : Nat} {v : AV} {H H' : Heap} (h : storeB n b o v H = some H') : v.size n = true ∧ H.write b o v.cells = some H' := by
  unfold storeB at h
  rw [getB_eq] at h
  split at h
  · rename_i c hc
    have key : ∀ l, (match writeF c l o with | some c' => some (setB H b (.cells true c')) | none => none) = some H' → H.write b o l = some H' := by
      intro l hl
      rw [writeF_eq] at hl
      unfold Heap.write
      rw [hc]
      split at hl
      · rename_i c' hw
        injection hl with hl; subst hl
        simp only [hw, forceL_eq, setB_eq]
      · cases hl
    have key1 : ∀ l, (match Nat.beq n 1 with
      | true => match writeF c l o with
        | some c' => some (setB H b (.cells true c'))
        | none => none
      | false => none) = some H' → n = 1 ∧ H.write b o l = some H' := by
      intro l hl
      split at hl
      · rename_i hn; exact ⟨Nat.eq_of_beq_eq_true hn, key _ hl⟩
      · cases hl
    cases v with
    | agg l =>
      simp only at h
      split at h
      · rename_i hs; exact ⟨hs, key _ h⟩
      · cases h
    | tup l => cases h
    | _ =>
      obtain ⟨rfl, h2⟩ := key1 _ h
      exact ⟨rfl, h2⟩
  · cases h

/-! ### Jobs -/
inductive JobB where
  | code (c : ICode) (env : Env) (H : Heap) (Q : Out → Env → Heap → Bool)
  | call (f : Nat) (args : List AV) (H : Heap) (K : AV → Heap → Bool)
inductive FSpecB where
  | code (f : IFunc)
  | spec (S : List AV → Heap → (AV → Heap → Bool) → Bool)
def JobB.up : JobB → Job
  | .code c e H Q => .code c e H fun x e H => Q x e H = true
  | .call f args H K => .call f args H fun v H => K v H = true

noncomputable def envB (e : Env) (n : Nat) : Option AV := List.rec (motive := fun _ => Option AV) none (fun p _ ih => match p with
  | (k, v) => match Nat.beq k n with
    | true => some v
    | false => ih) e
theorem envB_eq : ∀ (e : Env) (n : Nat), envB e n = e.get n
  | [], _ => rfl
  | (k, v) :: r, n => by
    show (match Nat.beq k n with | true => some v | false => envB r n) = match Nat.beq k n with | true => some v | false => Env.get r n
    rw [envB_eq r]
noncomputable def evB (e : Env) (x : Opd) : Option AV := match x with
  | .t n => envB e n
  | .c v => some v
theorem evB_eq (e : Env) (x : Opd) : evB e x = ev e x := by cases x <;> simp only [evB, ev, envB_eq]
noncomputable def evsB (e : Env) (l : List Opd) : Option (List AV) := List.rec (motive := fun _ => Option (List AV)) (some []) (fun x _ ih => match evB e x with
  | some v => match ih with
    | some l => some (v :: l)
    | none => none
  | none => none) l
theorem evsB_eq (e : Env) : ∀ (l : List Opd), evsB e l = evs e l
  | [] => rfl
  | x :: r => by
    show (match evB e x with | some v => (match evsB e r with | some l => some (v :: l) | none => none) | none => none) = _
    rw [evB_eq, evsB_eq e r]; rfl
noncomputable def keepB (e : Env) (l : List Nat) : Env := List.rec (motive := fun _ => Env) [] (fun n _ ih => match envB e n with
  | some v => (n, v) :: ih
  | none => ih) l
theorem keepB_eq (e : Env) : ∀ (l : List Nat), keepB e l = e.keep l
  | [] => rfl
  | n :: r => by
    show (match envB e n with | some v => (n, v) :: keepB e r | none => keepB e r) = _
    rw [envB_eq, keepB_eq e r]; rfl

section
variable (ih : JobB → Bool)
noncomputable def roundB (l : Nat) (args : List AV) (H : Heap) (K : AV → Heap → Bool) : Bool :=
  match H.get l with
  | some (.loop env ps assign body .ready _) =>
    if args.length = ps.length then
      ih (.code assign (bindPs ps args env) H fun x e H1 =>
        match x with
        | .normal => match H1.get l with
          | some (.loop env1 ps1 assign1 body1 .ready pend) =>
            ih (.code body e (H1.set l (.loop env1 ps1 assign1 body1 .busy pend)) fun x _ H2 =>
              match H2.get l with
              | some (.loop env2 ps2 assign2 body2 .busy _) =>
                (match x with
                | .normal => K (.bool true) (H2.set l (.loop env2 ps2 assign2 body2 .ready none))
                | x => K (.bool false) (H2.set l (.loop env2 ps2 assign2 body2 .done (some x))))
              | _ => false)
          | _ => false
        | _ => false)
    else false
  | _ => false
def allB {α : Type} (p : α → Bool) : List α → Bool
  | [] => true
  | x :: r => match p x with
    | true => allB p r
    | false => false
def nextB (it : Nat) (H : Heap) (K : AV → Heap → Bool) : Bool :=
  match H.get it with
  | some (.iter m clock seen) => match H.mapAt m with
    | some (es, c') =>
      if c' = clock then
        match es.filter (fun e => !seen.contains e.2.2) with
        | [] => K (.tup [.bool false]) H
        | x :: r => allB (fun e => K (.tup [.bool true, e.1, e.2.1]) (H.set it (.iter m clock (seen ++ [e.2.2])))) (x :: r)
      else false
    | none => false
  | _ => false
def otherB (op : IOp) (xs : List AV) (H : Heap) (K : AV → Heap → Bool) : Bool :=
  match kd op with
  | .pure => match pureOp op xs with
    | some v => K v H
    | none => false
  | .read => match readOp op xs H with
    | some v => K v H
    | none => false
  | .alloc => match allocOp op xs with
    | some (f, o) => K (f H.next) (H.push o)
    | none => false
  | .eff => match effOp op xs H with
    | some (v, H') => K v H'
    | none => false
  | .call => false
  | .next => false
noncomputable def opB (op : IOp) (xs : List AV) (H : Heap) (K : AV → Heap → Bool) : Bool :=
  match op with
  | .move => match xs with
    | [x] => K x H
    | _ => false
  | .bin o => match xs with
    | [x, y] => match binF o x y with
      | some v => K v H
      | none => false
    | _ => false
  | .load n => match xs with
    | [.ptr b o] => match loadB n b o H with
      | some v => K v H
      | none => false
    | _ => false
  | .store n => match xs with
    | [.ptr b o, v] => match storeB n b o v H with
      | some H' => K (.tup []) H'
      | none => false
    | _ => false
  | .alloc z => match xs with
    | [] => K (.ptr H.next 0) (pushB H (.cells true z))
    | _ => false
  | .fieldAddr off => match xs with
    | [.ptr b o] => forceN (Nat.add o off) fun o => K (.ptr b o) H
    | _ => false
  | .cvInt k => match xs with
    | [.int _ n] => forceI (wrapF k n) fun n => K (.int k n) H
    | _ => false
  | .call => match xs with
    | .fn f fs cap :: args => ih (.call f (fs ++ args ++ cap) H K)
    | .yield l :: args => roundB ih l args H K
    | _ => false
  | .next => match xs with
    | [.ptr it 0] => nextB it H K
    | _ => false
  | op => otherB op xs H K
def wantsB (e : Env) (g : Option (Nat × Bool)) : Option Bool := wants e g
noncomputable def regB (l : List IOper) : Env → Heap → (Env → Heap → Bool) → Bool :=
  List.rec (motive := fun _ => Env → Heap → (Env → Heap → Bool) → Bool) (fun e H K => K e H) (fun o _ r e H K => match o with
    | ⟨dst, op, xs, none⟩ => match evsB e xs with
      | some xs => opB ih op xs H fun v H' => r (e.putO dst v) H' K
      | none => false
    | ⟨dst, op, xs, some g⟩ => match wants e (some g) with
      | some true => match evsB e xs with
        | some xs => opB ih op xs H fun v H' => r (e.putO dst v) H' K
        | none => false
      | some false => r (e.putO dst (.tup [])) H K
      | none => false) l
noncomputable def dregB (base : Nat) : List DOp → Env → Heap → List (Nat × AObj) → List Watch → (Env → Heap → Bool) → Bool
  | [], e, H, q, _, K => K e (flush H q)
  | d :: r, e, H, q, ws, K => match wants e d.o.guard with
    | some true => match evsB e d.o.xs with
      | some xs => match d.k with
        | .pure => match pureOp d.o.op xs with
          | some v => dregB base r (e.putO d.o.dst v) H q ws K
          | none => false
        | .read hi => match readOp d.o.op xs H with
          | some v => dregB base r (e.putO d.o.dst v) H q (⟨hi, d.o.op, xs, v⟩ :: ws) K
          | none => false
        | .alloc j => match allocOp d.o.op xs with
          | some (f, o) => dregB base r (e.putO d.o.dst (f (base + j))) H ((base + j, o) :: q) ws K
          | none => false
        | .eff num _ => opB ih d.o.op xs (flush H q) fun v H' => match watched num H' ws with
          | true => dregB base r (e.putO d.o.dst v) H' [] ws K
          | false => false
      | none => false
    | some false => dregB base r (e.putO d.o.dst (.tup [])) H q ws K
    | none => false
noncomputable def codeB (c : ICode) (e : Env) (H : Heap) (Q : Out → Env → Heap → Bool) : Bool :=
  match c with
  | .skip => Q .normal e H
  | .reg ops live => regB ih ops e H fun e H => Q .normal (keepB e live) H
  | .dreg ops na live => dregB ih H.next ops e ⟨H.next + na, H.mem⟩ [] [] fun e H => Q .normal (keepB e live) H
  | .seq a b => ih (.code a e H fun x e H => match x with
    | .normal => ih (.code b e H Q)
    | x => Q x e H)
  | .cond o a b => match evB e o with
    | some (.bool c) => match c with
      | true => ih (.code a e H Q)
      | false => ih (.code b e H Q)
    | _ => false
  | .block id b => ih (.code b e H fun x e H => match x with
    | .exit j => match Nat.beq j id with
      | true => Q .normal e H
      | false => Q (.exit j) e H
    | x => Q x e H)
  | .loop b => ih (.code b e H fun x e H => match x with
    | .normal => ih (.code (.loop b) e H Q)
    | x => Q x e H)
  | .exit id => Q (.exit id) e H
  | .ret => Q .ret e H
  | .rangeFunc f ps assign body => match evB e f with
    | some (.fn g fs cap) => ih (.call g (fs ++ [.yield H.next] ++ cap) (H.push (.loop e ps assign body .ready none)) fun _ H2 =>
      match H2.get H.next with
      | some (.loop _ _ _ _ .ready pend) => Q (pend.getD .normal) e (H2.kill H.next)
      | some (.loop _ _ _ _ .done pend) => Q (pend.getD .normal) e (H2.kill H.next)
      | _ => false)
    | _ => false
end
noncomputable def jobB (T : Nat → Option FSpecB) (ih : JobB → Bool) : JobB → Bool
  | .code c e H Q => codeB ih c e H Q
  | .call f args H K => match T f with
    | some (.code fn) => match Nat.ble args.length fn.nt with
      | true => ih (.code fn.body (paramEnv 0 args) H fun x e H' => match x with
        | .exit _ => false
        | _ => match resultsA e H' fn.results with
          | some v => K v H'
          | none => false)
      | false => false
    | some (.spec S) => S args H K
    | none => false
noncomputable def wpB (T : Nat → Option FSpecB) (n : Nat) : JobB → Bool :=
  Nat.rec (fun _ => false) (fun _ ih j => jobB T ih j) n

/-! ### What it says is so -/
/-- A table of the one kind stands for one of the other. -/
structure TabB (T' : Nat → Option FSpecB) (T : Nat → Option FSpec) : Prop where
  code : ∀ f ifn, T' f = some (.code ifn) → T f = some (.code ifn)
  spec : ∀ f S', T' f = some (.spec S') → ∃ S, T f = some (.spec S) ∧ ∀ args H K, S' args H K = true → S args H (fun v H => K v H = true)

section
variable {ih : JobB → Bool} {X : Job → Prop} (hX : ∀ j, ih j = true → X j.up) (hM : JMono X)
include hX hM
theorem upCode {c : ICode} {e : Env} {H : Heap} {Q : Out → Env → Heap → Bool} {Q' : Out → Env → Heap → Prop} (h : ih (.code c e H Q) = true) (hQ : ∀ x e H, Q x e H = true → Q' x e H) : X (.code c e H Q') :=
  hM.code hQ (hX _ h)
theorem upCall {f : Nat} {args : List AV} {H : Heap} {K : AV → Heap → Bool} {K' : AV → Heap → Prop} (h : ih (.call f args H K) = true) (hK : ∀ v H, K v H = true → K' v H) : X (.call f args H K') :=
  hM.call hK (hX _ h)

theorem roundB_ok {l : Nat} {args : List AV} {H : Heap} {K : AV → Heap → Bool} {K' : AV → Heap → Prop} (hK : ∀ v H, K v H = true → K' v H) (h : roundB ih l args H K = true) : roundWp X l args H K' := by
  unfold roundB at h
  unfold roundWp
  split at h
  · rename_i hl
    simp only [hl]
    split at h
    · rename_i ha
      rw [if_pos ha]
      refine upCode hX hM h ?_
      intro x e H1 h
      split at h
      · split at h
        · rename_i hl1
          simp only [hl1]
          refine upCode hX hM h ?_
          intro x _ H2 h
          split at h
          · rename_i hl2
            simp only [hl2]
            cases x with
            | normal => exact hK _ _ h
            | exit j => exact hK _ _ h
            | ret => exact hK _ _ h
          · cases h
        · cases h
      · cases h
    · cases h
  · cases h
omit hX hM in
theorem allB_ok {α : Type} {p : α → Bool} : ∀ {l : List α}, allB p l = true → ∀ x ∈ l, p x = true
  | [], _, x, hx => by cases hx
  | y :: r, h, x, hx => by
    simp only [allB] at h
    split at h
    · rename_i hy
      rcases List.mem_cons.1 hx with rfl | hx
      · exact hy
      · exact allB_ok h x hx
    · cases h
omit hX hM in
theorem nextB_ok {it : Nat} {H : Heap} {K : AV → Heap → Bool} {K' : AV → Heap → Prop} (hK : ∀ v H, K v H = true → K' v H) (h : nextB it H K = true) : nextWp it H K' := by
  unfold nextB at h
  unfold nextWp
  split at h
  · rename_i hi
    simp only [hi]
    split at h
    · rename_i hm
      simp only [hm]
      split at h
      · rename_i hc
        rw [if_pos hc]
        split at h
        · rename_i hf
          simp only [hf]; exact hK _ _ h
        · rename_i hf
          simp only [hf]
          intro e he
          exact hK _ _ (allB_ok h e he)
      · cases h
    · cases h
  · cases h
omit hX hM in
theorem otherB_ok {op : IOp} {xs : List AV} {H : Heap} {K : AV → Heap → Bool} {K' : AV → Heap → Prop} (hK : ∀ v H, K v H = true → K' v H) (h : otherB op xs H K = true) : opWp X op xs H K' := by
  unfold otherB at h
  unfold opWp
  cases hk : kd op <;> simp only [hk] at h ⊢
  · split at h
    · rename_i hv; simp only [hv]; exact hK _ _ h
    · cases h
  · split at h
    · rename_i hv; simp only [hv]; exact hK _ _ h
    · cases h
  · split at h
    · rename_i hv; simp only [hv]; exact hK _ _ h
    · cases h
  · split at h
    · rename_i hv; simp only [hv]; exact hK _ _ h
    · cases h
  · cases h
  · cases h
theorem opB_ok {op : IOp} {xs : List AV} {H : Heap} {K : AV → Heap → Bool} {K' : AV → Heap → Prop} (hK : ∀ v H, K v H = true → K' v H) (h : opB ih op xs H K = true) : opWp X op xs H K' := by
  unfold opB at h
  split at h
  · split at h
    · exact hK _ _ h
    · cases h
  · split at h
    · split at h
      · rename_i hv
        rw [binF_eq] at hv
        simp only [opWp, kd, pureOp, hv]; exact hK _ _ h
      · cases h
    · cases h
  · split at h
    · split at h
      · rename_i hv
        rw [loadB_eq] at hv
        simp only [opWp, kd, readOp, hv]; exact hK _ _ h
      · cases h
    · cases h
  · split at h
    · split at h
      · rename_i hv
        obtain ⟨h1, h2⟩ := storeB_ok hv
        simp only [opWp, kd, effOp, h1, if_true, h2]; exact hK _ _ h
      · cases h
    · cases h
  · split at h
    · rw [pushB_eq] at h
      exact hK _ _ h
    · cases h
  · split at h
    · rw [forceN_eq] at h
      simp only [opWp, kd, pureOp, forceN_eq]; exact hK _ _ h
    · cases h
  · split at h
    · rw [forceI_eq, wrapF_eq] at h
      simp only [opWp, kd, pureOp, mkInt_eq]; exact hK _ _ h
    · cases h
  · split at h
    · exact upCall hX hM h hK
    · exact roundB_ok hX hM hK h
    · cases h
  · split at h
    · exact nextB_ok hK h
    · cases h
  · exact otherB_ok hK h

theorem regB_ok : ∀ {l : List IOper} {e : Env} {H : Heap} {K : Env → Heap → Bool} {K' : Env → Heap → Prop}, (∀ e H, K e H = true → K' e H) → regB ih l e H K = true → regWp X l e H K'
  | [], e, H, K, K', hK, h => hK _ _ h
  | ⟨dst, op, xs, none⟩ :: r, e, H, K, K', hK, h => by
    have h : (match evsB e xs with
      | some xs => opB ih op xs H fun v H' => regB ih r (e.putO dst v) H' K
      | none => false) = true := h
    rw [evsB_eq] at h
    simp only [regWp, wants]
    split at h
    · rename_i hv
      simp only [hv]
      refine opB_ok hX hM ?_ h
      intro v H' h
      exact regB_ok hK h
    · cases h
  | ⟨dst, op, xs, some g⟩ :: r, e, H, K, K', hK, h => by
    have h : (match wants e (some g) with
      | some true => match evsB e xs with
        | some xs => opB ih op xs H fun v H' => regB ih r (e.putO dst v) H' K
        | none => false
      | some false => regB ih r (e.putO dst (.tup [])) H K
      | none => false) = true := h
    rw [evsB_eq] at h
    simp only [regWp]
    split at h
    · rename_i hw
      simp only [hw]
      split at h
      · rename_i hv
        simp only [hv]
        exact opB_ok hX hM (fun v H' h => regB_ok hK h) h
      · cases h
    · rename_i hw
      simp only [hw]
      exact regB_ok hK h
    · cases h

theorem dregB_ok {base : Nat} : ∀ {l : List DOp} {e : Env} {H : Heap} {q : List (Nat × AObj)} {ws : List Watch} {K : Env → Heap → Bool} {K' : Env → Heap → Prop}, (∀ e H, K e H = true → K' e H) → dregB ih base l e H q ws K = true → dregWp X base l e H q ws K'
  | [], e, H, q, ws, K, K', hK, h => hK _ _ h
  | d :: r, e, H, q, ws, K, K', hK, h => by
    simp only [dregB] at h
    simp only [dregWp]
    rw [evsB_eq] at h
    split at h
    · rename_i hw
      simp only [hw]
      split at h
      · rename_i hv
        simp only [hv]
        split at h
        · rename_i hk
          simp only [hk]
          split at h
          · rename_i hp; simp only [hp]; exact dregB_ok hK h
          · cases h
        · rename_i hk
          simp only [hk]
          split at h
          · rename_i hp; simp only [hp]; exact dregB_ok hK h
          · cases h
        · rename_i hk
          simp only [hk]
          split at h
          · rename_i hp; simp only [hp]; exact dregB_ok hK h
          · cases h
        · rename_i hk
          simp only [hk]
          refine opB_ok hX hM ?_ h
          intro v H' h
          split at h
          · rename_i hwt; simp only [hwt]; exact dregB_ok hK h
          · cases h
      · cases h
    · rename_i hw
      simp only [hw]
      exact dregB_ok hK h
    · cases h

theorem codeB_ok {c : ICode} {e : Env} {H : Heap} {Q : Out → Env → Heap → Bool} {Q' : Out → Env → Heap → Prop} (hQ : ∀ x e H, Q x e H = true → Q' x e H) (h : codeB ih c e H Q = true) : codeWp X c e H Q' := by
  cases c <;> simp only [codeB] at h <;> simp only [codeWp]
  case skip => exact hQ _ _ _ h
  case reg => exact regB_ok hX hM (fun e H h => hQ _ _ _ (by rw [keepB_eq] at h; exact h)) h
  case dreg => exact dregB_ok hX hM (fun e H h => hQ _ _ _ (by rw [keepB_eq] at h; exact h)) h
  case seq a b =>
    refine upCode hX hM h fun x e H h => ?_
    cases x with
    | normal => exact upCode hX hM h hQ
    | exit j => exact hQ _ _ _ h
    | ret => exact hQ _ _ _ h
  case cond =>
    rw [evB_eq] at h
    split at h
    · rename_i c hv
      simp only [hv]
      cases c with
      | true => exact upCode hX hM h hQ
      | false => exact upCode hX hM h hQ
    · cases h
  case block =>
    refine upCode hX hM h fun x e H h => ?_
    cases x with
    | normal => exact hQ _ _ _ h
    | exit j =>
      simp only at h ⊢
      split at h
      · rename_i hj; simp only [hj]; exact hQ _ _ _ h
      · rename_i hj; simp only [hj]; exact hQ _ _ _ h
    | ret => exact hQ _ _ _ h
  case loop =>
    refine upCode hX hM h fun x e H h => ?_
    cases x with
    | normal => exact upCode hX hM h hQ
    | exit j => exact hQ _ _ _ h
    | ret => exact hQ _ _ _ h
  case exit => exact hQ _ _ _ h
  case ret => exact hQ _ _ _ h
  case rangeFunc =>
    rw [evB_eq] at h
    split at h
    · rename_i hv
      simp only [hv]
      refine upCall hX hM h fun v H2 h => ?_
      split at h
      · rename_i hl; simp only [hl]; exact hQ _ _ _ h
      · rename_i hl; simp only [hl]; exact hQ _ _ _ h
      · cases h
    · cases h

theorem jobB_ok {T' : Nat → Option FSpecB} {T : Nat → Option FSpec} (hT : TabB T' T) : ∀ j, jobB T' ih j = true → jobWp T X j.up
  | .code c e H Q, h => codeB_ok hX hM (fun _ _ _ h => h) h
  | .call f args H K, h => by
    simp only [jobB] at h
    simp only [JobB.up, jobWp]
    split at h
    · rename_i fn hf
      simp only [hT.code f fn hf]
      split at h
      · rename_i hl
        simp only [hl]
        refine upCode hX hM h fun x e H' h => ?_
        cases x with
        | exit j => cases h
        | normal =>
          simp only at h ⊢
          split at h
          · rename_i hv; simp only [hv]; exact h
          · cases h
        | ret =>
          simp only at h ⊢
          split at h
          · rename_i hv; simp only [hv]; exact h
          · cases h
      · cases h
    · rename_i S' hf
      obtain ⟨S, hS, hk⟩ := hT.spec f S' hf
      simp only [hS]
      exact hk _ _ _ h
    · cases h
end

theorem wpB_ok {T' : Nat → Option FSpecB} {T : Nat → Option FSpec} (hM : TMono T) (hT : TabB T' T) : ∀ (n : Nat) (j : JobB), wpB T' n j = true → Wp T j.up
  | 0, j, h => by cases h
  | n + 1, j, h => Wp.intro hM (jobB_ok (ih := wpB T' n) (X := Wp T) (fun j h => wpB_ok hM hT n j h) Wp.jmono hT j h)
end Go.AE
