/-
  The evaluator once more, for the kernel's own reckoning: it answers a Bool, and looks at what comes first.
-/
import Derived.Test.YtoinombhonbibaaGreatDoorAeW1
import Derived.Test.YtoinombhonbibaaGreatDoorAeS1
set_option linter.unusedSimpArgs false
set_option linter.unusedVariables false
set_option linter.unusedSectionVars false
namespace Go.AE

/-! ### Numbers -/
def kIdx : IntKind → Nat
  | .i8 => 0 | .i16 => 1 | .i32 => 2 | .i64 => 3 | .u8 => 4 | .u16 => 5 | .u32 => 6 | .u64 => 7
def sameK (j k : IntKind) : Bool := Nat.beq (kIdx j) (kIdx k)
theorem sameK_eq (j k : IntKind) : sameK j k = decide (j = k) := by cases j <;> cases k <;> rfl

theorem wrap_u32_natF (n : Nat) : IntKind.u32.wrap (n : Int) = ((n % 4294967296 : Nat) : Int) := by
  simp [IntKind.wrap, IntKind.bits, IntKind.signed]
def wrapF (k : IntKind) (n : Int) : Int := match n with
  | .ofNat m => match k with
    | .u64 => .ofNat (Nat.mod m 18446744073709551616)
    | .u8 => .ofNat (Nat.mod m 256)
    | .u32 => .ofNat (Nat.mod m 4294967296)
    | .i64 => match Nat.ble m 9223372036854775807 with
      | true => .ofNat m
      | false => IntKind.wrap .i64 (.ofNat m)
    | k => IntKind.wrap k (.ofNat m)
  | .negSucc m => match k with
    | .i64 => match Nat.ble m 9223372036854775807 with
      | true => .negSucc m
      | false => IntKind.wrap .i64 (.negSucc m)
    | k => IntKind.wrap k (.negSucc m)
theorem wrapF_eq (k : IntKind) (n : Int) : wrapF k n = k.wrap n := by
  unfold wrapF
  split
  · rename_i m
    split
    · exact (wrap_u64_nat m).symm
    · exact (wrap_u8_nat m).symm
    · exact (wrap_u32_natF m).symm
    · split
      · rename_i h
        have h := Nat.le_of_ble_eq_true h
        exact (wrap_i64 (by simp only [Int.ofNat_eq_natCast]; omega) (by simp only [Int.ofNat_eq_natCast]; omega)).symm
      · rfl
    · rfl
  · rename_i m
    split
    · split
      · rename_i h
        have h := Nat.le_of_ble_eq_true h
        exact (wrap_i64 (by rw [Int.negSucc_eq]; omega) (by rw [Int.negSucc_eq]; omega)).symm
      · rfl
    · rfl

def addF (a b : Int) : Int := match a, b with
  | .ofNat x, .ofNat y => .ofNat (Nat.add x y)
  | a, b => a + b
theorem addF_eq (a b : Int) : addF a b = a + b := by unfold addF; split <;> rfl
def subF (a b : Int) : Int := match a, b with
  | .ofNat x, .ofNat y => match Nat.ble y x with
    | true => .ofNat (Nat.sub x y)
    | false => .negSucc (Nat.sub (Nat.sub y x) 1)
  | a, b => a - b
theorem subF_eq (a b : Int) : subF a b = a - b := by
  unfold subF
  split
  · rename_i x y
    split
    · rename_i h
      have h := Nat.le_of_ble_eq_true h
      show Int.ofNat (x - y) = _
      simp only [Int.ofNat_eq_natCast]; omega
    · rename_i h
      have h : ¬ y ≤ x := fun h' => by rw [Nat.ble_eq_true_of_le h'] at h; cases h
      show Int.negSucc (y - x - 1) = _
      simp only [Int.ofNat_eq_natCast]; omega
  · rfl
def ltF (a b : Int) : Bool := match a, b with
  | .ofNat x, .ofNat y => Nat.ble (Nat.succ x) y
  | a, b => decide (a < b)
theorem ltF_eq (a b : Int) : ltF a b = decide (a < b) := by
  unfold ltF
  split
  · rename_i x y
    rw [Bool.eq_iff_iff, decide_eq_true_eq]
    exact ⟨fun h => by have := Nat.le_of_ble_eq_true h; simp only [Int.ofNat_eq_natCast]; omega, fun h => Nat.ble_eq_true_of_le (by simp only [Int.ofNat_eq_natCast] at h; omega)⟩
  · rfl
def leF (a b : Int) : Bool := match a, b with
  | .ofNat x, .ofNat y => Nat.ble x y
  | a, b => decide (a ≤ b)
theorem leF_eq (a b : Int) : leF a b = decide (a ≤ b) := by
  unfold leF
  split
  · rename_i x y
    rw [Bool.eq_iff_iff, decide_eq_true_eq]
    exact ⟨fun h => by have := Nat.le_of_ble_eq_true h; simp only [Int.ofNat_eq_natCast]; omega, fun h => Nat.ble_eq_true_of_le (by simp only [Int.ofNat_eq_natCast] at h; omega)⟩
  · rfl
def eqF (a b : Int) : Bool := match a, b with
  | .ofNat x, .ofNat y => Nat.beq x y
  | a, b => a == b
theorem eqF_eq (a b : Int) : eqF a b = (a == b) := by
  unfold eqF
  split
  · rename_i x y
    rw [Bool.eq_iff_iff]
    exact ⟨fun h => by have := Nat.eq_of_beq_eq_true h; subst this; simp, fun h => by
      have h := eq_of_beq h
      simp only [Int.ofNat_eq_natCast] at h
      have : x = y := by omega
      subst this; exact Nat.beq_refl x⟩
  · rfl
def bitF (k : IntKind) (f : Nat → Nat → Nat) (a b : Int) : Int := match k, a, b with
  | .u64, .ofNat x, .ofNat y => .ofNat (Nat.mod (f (Nat.mod x 18446744073709551616) (Nat.mod y 18446744073709551616)) 18446744073709551616)
  | .u32, .ofNat x, .ofNat y => .ofNat (Nat.mod (f (Nat.mod x 4294967296) (Nat.mod y 4294967296)) 4294967296)
  | k, a, b => bits k f a b
theorem toNat_mod64 (a : Nat) : ((Int.ofNat a) % 2 ^ IntKind.u64.bits).toNat = a % 18446744073709551616 := by
  simp only [IntKind.bits, Int.ofNat_eq_natCast]; omega
theorem toNat_mod32 (a : Nat) : ((Int.ofNat a) % 2 ^ IntKind.u32.bits).toNat = a % 4294967296 := by
  simp only [IntKind.bits, Int.ofNat_eq_natCast]; omega
theorem bitF_eq (k : IntKind) (f : Nat → Nat → Nat) (a b : Int) : bitF k f a b = bits k f a b := by
  unfold bitF
  split
  · unfold bits
    rw [toNat_mod64, toNat_mod64, ← wrapF_eq]; rfl
  · unfold bits
    rw [toNat_mod32, toNat_mod32, ← wrapF_eq]; rfl
  · rfl
def arF (op : BinOp) (k : IntKind) (a b : Int) : Option AV := match op with
  | .add => forceI (wrapF k (addF a b)) fun n => some (.int k n)
  | .sub => forceI (wrapF k (subF a b)) fun n => some (.int k n)
  | .and => forceI (bitF k Nat.land a b) fun n => some (.int k n)
  | .or => forceI (bitF k Nat.lor a b) fun n => some (.int k n)
  | .xor => forceI (bitF k Nat.xor a b) fun n => some (.int k n)
  | .lss => some (.bool (ltF a b))
  | .leq => some (.bool (leF a b))
  | .gtr => some (.bool (ltF b a))
  | .geq => some (.bool (leF b a))
  | .eql => some (.bool (eqF a b))
  | .neq => some (.bool (!eqF a b))
  | op => binInt op k a b
theorem arF_eq (op : BinOp) (k : IntKind) (a b : Int) : arF op k a b = binInt op k a b := by
  cases op <;> simp only [arF, binInt, forceI_eq, mkInt_eq, wrapF_eq, addF_eq, subF_eq, bitF_eq, ltF_eq, leF_eq, eqF_eq] <;> rfl
def binF (op : BinOp) (x y : AV) : Option AV := match x with
  | .int k a => match y with
    | .int j b => match op with
      | .shl => match k, a, b with
        | .u64, .ofNat m, .ofNat n => forceN (Nat.mod (Nat.mul m (Nat.pow 2 (Nat.min n 64))) 18446744073709551616) fun r => some (.int .u64 (.ofNat r))
        | .u32, .ofNat m, .ofNat n => forceN (Nat.mod (Nat.mul m (Nat.pow 2 (Nat.min n 32))) 4294967296) fun r => some (.int .u32 (.ofNat r))
        | k, a, b => binA .shl (.int k a) (.int j b)
      | .shr => match a, b with
        | .ofNat m, .ofNat n => forceN (Nat.div m (Nat.pow 2 (Nat.min n k.bits))) fun r => some (.int k (.ofNat r))
        | a, b => binA .shr (.int k a) (.int j b)
      | op => match sameK j k with
        | true => arF op k a b
        | false => none
    | y => binA op (.int k a) y
  | x => binA op x y
theorem binF_eq (op : BinOp) (x y : AV) : binF op x y = binA op x y := by
  unfold binF
  split
  · rename_i k a
    split
    · rename_i j b
      split
      · split
        · rename_i m n
          have h : ¬ ((Int.ofNat n) < 0) := by simp only [Int.ofNat_eq_natCast]; omega
          simp only [forceN_eq, binA, h, if_false, mkInt_eq]
          rw [← wrapF_eq]
          congr 2
        · rename_i m n
          have h : ¬ ((Int.ofNat n) < 0) := by simp only [Int.ofNat_eq_natCast]; omega
          simp only [forceN_eq, binA, h, if_false, mkInt_eq]
          rw [← wrapF_eq]
          congr 2
        · rfl
      · split
        · rename_i m n
          have h : ¬ ((Int.ofNat n) < 0) := by simp only [Int.ofNat_eq_natCast]; omega
          simp only [forceN_eq, binA, h, if_false, mkInt_eq]
          congr 2
          simp only [Int.ofNat_eq_natCast, Int.toNat_natCast]
          rw [Int.fdiv_eq_ediv_of_nonneg _ (Int.pow_nonneg (by decide))]
          show ((m / 2 ^ (Nat.min n k.bits) : Nat) : Int) = _
          simp
        · rfl
      · rename_i hshl hshr
        have e : binA op (.int k a) (.int j b) = if j = k then binInt op k a b else none := by
          cases op <;> first | rfl | (exact absurd rfl hshl) | (exact absurd rfl hshr)
        rw [e, sameK_eq]
        by_cases hjk : j = k
        · simp only [hjk, decide_true, if_true, arF_eq]
        · simp only [hjk, decide_false, if_false]
    · rfl
  · rfl

/-! ### Cells -/
noncomputable def takeF (c : List AV) : Nat → Option (List AV) :=
  List.rec (motive := fun _ => Nat → Option (List AV)) (fun n => match n with
    | 0 => some []
    | _ + 1 => none) (fun x _ ih n => match n with
    | 0 => some []
    | n + 1 => match ih n with
      | some t => some (x :: t)
      | none => none) c
noncomputable def dropF (c : List AV) : Nat → List AV :=
  List.rec (motive := fun _ => Nat → List AV) (fun _ => []) (fun x r ih n => match n with
    | 0 => x :: r
    | n + 1 => ih n) c
theorem dropF_eq : ∀ (c : List AV) (n : Nat), dropF c n = c.drop n
  | [], n => by simp [dropF]
  | x :: r, 0 => rfl
  | x :: r, n + 1 => dropF_eq r n
theorem takeF_eq : ∀ (c : List AV) (n : Nat), takeF c n = if (c.take n).length = n then some (c.take n) else none
  | [], 0 => rfl
  | [], n + 1 => by simp [takeF]
  | x :: r, 0 => rfl
  | x :: r, n + 1 => by
    show (match takeF r n with | some t => some (x :: t) | none => none) = _
    rw [takeF_eq r n]
    have e : ((x :: r).take (n + 1)).length = (r.take n).length + 1 := by rw [List.take_succ_cons, List.length_cons]
    by_cases h : (r.take n).length = n
    · have h2 : ((x :: r).take (n + 1)).length = n + 1 := by omega
      rw [if_pos h, if_pos h2]; rfl
    · have h2 : ¬ ((x :: r).take (n + 1)).length = n + 1 := by omega
      rw [if_neg h, if_neg h2]
theorem spanF_eq (c : List AV) (o n : Nat) : takeF (dropF c o) n = span c o n := by
  rw [takeF_eq, dropF_eq]; rfl
noncomputable def layF (l : List AV) : List AV → Option (List AV) :=
  List.rec (motive := fun _ => List AV → Option (List AV)) (fun c => some c) (fun v _ ih c => match c with
    | [] => none
    | _ :: c => match ih c with
      | some r => some (v :: r)
      | none => none) l
noncomputable def writeF (c : List AV) (l : List AV) : Nat → Option (List AV) :=
  List.rec (motive := fun _ => Nat → Option (List AV)) (fun o => match o with
    | 0 => layF l []
    | _ + 1 => none) (fun x r ih o => match o with
    | 0 => layF l (x :: r)
    | o + 1 => match ih o with
      | some r' => some (x :: r')
      | none => none) c
theorem layF_eq : ∀ (l c : List AV), layF l c = if l.length ≤ c.length then some (l ++ c.drop l.length) else none
  | [], c => by simp [layF]
  | v :: l, [] => by simp [layF]
  | v :: l, x :: c => by
    show (match layF l c with | some r => some (v :: r) | none => none) = _
    rw [layF_eq l c]
    by_cases h : l.length ≤ c.length
    · simp [h]
    · simp [h]
theorem writeF_eq : ∀ (c : List AV) (l : List AV) (o : Nat), writeF c l o = writeL c o l
  | [], l, 0 => by
    show layF l [] = _
    rw [layF_eq]; simp [writeL]
  | [], l, o + 1 => by
    show none = _
    simp [writeL]
  | x :: r, l, 0 => by
    show layF l (x :: r) = _
    rw [layF_eq]; simp [writeL]
  | x :: r, l, o + 1 => by
    show (match writeF r l o with | some r' => some (x :: r') | none => none) = _
    rw [writeF_eq r l o]
    by_cases h : o + l.length ≤ r.length
    · have h2 : o + 1 + l.length ≤ (x :: r).length := by simp; omega
      simp only [writeL, h, h2, if_true]
      have e : o + 1 + l.length = (o + l.length) + 1 := by omega
      simp [e]
    · have h2 : ¬ (o + 1 + l.length ≤ (x :: r).length) := by simp; omega
      simp only [writeL, h, h2, if_false]
end Go.AE

/-
  The evaluator that answers a Bool: memory, operations, code; what it says is so.
-/
namespace Go.AE

/-! ### Memory -/
noncomputable def PT.getR {α : Type} (t : PT α) : Nat → Option α :=
  PT.rec (motive := fun _ => Nat → Option α) (fun _ => none) (fun _ v _ il ir n => match n with
    | 0 => v
    | m + 1 => match Nat.mod m 2 with
      | 0 => il (Nat.div m 2)
      | _ => ir (Nat.div m 2)) t
theorem PT.getR_eq {α : Type} : ∀ (t : PT α) (n : Nat), t.getR n = t.get n
  | .nil, n => by rw [PT.get_nil]; rfl
  | .node l v r, 0 => rfl
  | .node l v r, m + 1 => by
    show (match m % 2 with | 0 => l.getR (m / 2) | _ => r.getR (m / 2)) = match m % 2 with | 0 => l.get (m / 2) | _ => r.get (m / 2)
    rw [PT.getR_eq l, PT.getR_eq r]
noncomputable def PT.setR {α : Type} (o : Option α) (f : Nat) : PT α → Nat → PT α :=
  Nat.rec (motive := fun _ => PT α → Nat → PT α) (fun t _ => t) (fun _ ih t n => match t with
    | .nil => match n with
      | 0 => .node .nil o .nil
      | m + 1 => match Nat.mod m 2 with
        | 0 => .node (ih .nil (Nat.div m 2)) none .nil
        | _ => .node .nil none (ih .nil (Nat.div m 2))
    | .node l v r => match n with
      | 0 => .node l o r
      | m + 1 => match Nat.mod m 2 with
        | 0 => .node (ih l (Nat.div m 2)) v r
        | _ => .node l v (ih r (Nat.div m 2))) f
theorem PT.setR_eq {α : Type} (o : Option α) : ∀ (f : Nat) (t : PT α) (n : Nat), PT.setR o f t n = PT.setF o f t n
  | 0, t, n => rfl
  | f + 1, .nil, 0 => rfl
  | f + 1, .nil, m + 1 => by
    show (match m % 2 with | 0 => PT.node (PT.setR o f .nil (m / 2)) none .nil | _ => .node .nil none (PT.setR o f .nil (m / 2))) = match m % 2 with | 0 => PT.node (PT.setF o f .nil (m / 2)) none .nil | _ => .node .nil none (PT.setF o f .nil (m / 2))
    rw [PT.setR_eq o f]
  | f + 1, .node l v r, 0 => rfl
  | f + 1, .node l v r, m + 1 => by
    show (match m % 2 with | 0 => PT.node (PT.setR o f l (m / 2)) v r | _ => .node l v (PT.setR o f r (m / 2))) = match m % 2 with | 0 => PT.node (PT.setF o f l (m / 2)) v r | _ => .node l v (PT.setF o f r (m / 2))
    rw [PT.setR_eq o f, PT.setR_eq o f]
noncomputable def getB (H : Heap) (b : Nat) : Option AObj := H.mem.getR b
noncomputable def setB (H : Heap) (b : Nat) (o : AObj) : Heap := ⟨H.next, PT.setR (some o) (Nat.succ b) H.mem b⟩
noncomputable def killB (H : Heap) (b : Nat) : Heap := ⟨H.next, PT.setR none (Nat.succ b) H.mem b⟩
noncomputable def pushB (H : Heap) (o : AObj) : Heap := match H with
  | ⟨n, m⟩ => forceN (Nat.succ n) fun n' => ⟨n', PT.setR (some o) n' m n⟩
theorem getB_eq (H : Heap) (b : Nat) : getB H b = H.get b := PT.getR_eq _ _
theorem setB_eq (H : Heap) (b : Nat) (o : AObj) : setB H b o = H.set b o := by simp only [setB, Heap.set, PT.set, PT.setR_eq]
theorem killB_eq (H : Heap) (b : Nat) : killB H b = H.kill b := by simp only [killB, Heap.kill, PT.set, PT.setR_eq]
theorem pushB_eq (H : Heap) (o : AObj) : pushB H o = H.push o := by
  cases H; simp only [pushB, Heap.push, PT.set, PT.setR_eq, forceN_eq]

noncomputable def loadB (n : Option Nat) (b o : Nat) (H : Heap) : Option AV := match getB H b with
  | some (.cells _ c) => match n with
    | some n => match takeF (dropF c o) n with
      | some l => some (.agg l)
      | none => none
    | none => match dropF c o with
      | v :: _ => some v
      | [] => none
  | _ => none
theorem loadB_eq (n : Option Nat) (b o : Nat) (H : Heap) : loadB n b o H = H.load n b o := by
  unfold loadB Heap.load Heap.read
  rw [getB_eq]
  cases hg : H.get b with
  | none => cases n <;> rfl
  | some ob =>
    cases ob with
    | cells w c =>
      cases n with
      | some n => simp only [spanF_eq]; cases span c o n <;> rfl
      | none =>
        simp only [dropF_eq]
        cases hd : c.drop o with
        | nil => simp [span, hd]
        | cons v r => simp [span, hd]
    | map _ _ => cases n <;> rfl
    | iter _ _ _ => cases n <;> rfl
    | loop _ _ _ _ _ _ => cases n <;> rfl
noncomputable def storeB (n : Nat) (b o : Nat) (v : AV) (H : Heap) : Option Heap := match getB H b with
  | some (.cells true c) => match v with
    | .agg l => match v.size n with
      | true => match writeF c l o with
        | some c' => some (setB H b (.cells true c'))
        | none => none
      | false => none
    | .tup _ => none
    | v => match Nat.beq n 1 with
      | true => match writeF c [v] o with
        | some c' => some (setB H b (.cells true c'))
        | none => none
      | false => none
  | _ => none
theorem storeB_ok {n b o : Nat} {v : AV} {H H' : Heap} (h : storeB n b o v H = some H') : v.size n = true ∧ H.write b o v.cells = some H' := by
  unfold storeB at h
  rw [getB_eq] at h
  split at h
  · rename_i c hc
    have key : ∀ l, (match writeF c l o with | some c' => some (setB H b (.cells true c')) | none => none) = some H' → H.write b o l = some H' := by
      intro l hl
      rw [writeF_eq] at hl
      unfold Heap.write
      rw [hc]
      split at hl
      · rename_i c' hw
        injection hl with hl; subst hl
        simp only [hw, forceL_eq, setB_eq]
      · cases hl
    have key1 : ∀ l, (match Nat.beq n 1 with
      | true => match writeF c l o with
        | some c' => some (setB H b (.cells true c'))
        | none => none
      | false => none) = some H' → n = 1 ∧ H.write b o l = some H' := by
      intro l hl
      split at hl
      · rename_i hn; exact ⟨Nat.eq_of_beq_eq_true hn, key _ hl⟩
      · cases hl
    cases v with
    | agg l =>
      simp only at h
      split at h
      · rename_i hs; exact ⟨hs, key _ h⟩
      · cases h
    | tup l => cases h
    | _ =>
      obtain ⟨rfl, h2⟩ := key1 _ h
      exact ⟨rfl, h2⟩
  · cases h

/-! ### Jobs -/
inductive JobB where
  | code (c : ICode) (env : Env) (H : Heap) (Q : Out → Env → Heap → Bool)
  | call (f : Nat) (args : List AV) (H : Heap) (K : AV → Heap → Bool)
inductive FSpecB where
  | code (f : IFunc)
  | spec (S : List AV → Heap → (AV → Heap → Bool) → Bool)
def JobB.up : JobB → Job
  | .code c e H Q => .code c e H fun x e H => Q x e H = true
  | .call f args H K => .call f args H fun v H => K v H = true

noncomputable def envB (e : Env) (n : Nat) : Option AV := List.rec (motive := fun _ => Option AV) none (fun p _ ih => Prod.rec (motive := fun _ => Option AV) (fun k v => Bool.rec (motive := fun _ => Option AV) ih (some v) (Nat.beq k n)) p) e
theorem envB_eq : ∀ (e : Env) (n : Nat), envB e n = e.get n
  | [], _ => rfl
  | (k, v) :: r, n => by
    show Bool.rec (motive := fun _ => Option AV) (envB r n) (some v) (Nat.beq k n) = match Nat.beq k n with | true => some v | false => Env.get r n
    rw [envB_eq r]
    cases Nat.beq k n <;> rfl
noncomputable def evB (e : Env) (x : Opd) : Option AV := Opd.rec (motive := fun _ => Option AV) (fun n => envB e n) (fun v => some v) x
theorem evB_eq (e : Env) (x : Opd) : evB e x = ev e x := by cases x <;> simp only [evB, ev, envB_eq]
noncomputable def evsB (e : Env) (l : List Opd) : Option (List AV) := List.rec (motive := fun _ => Option (List AV)) (some []) (fun x _ ih => Option.rec (motive := fun _ => Option (List AV)) none (fun v => Option.rec (motive := fun _ => Option (List AV)) none (fun l => some (v :: l)) ih) (evB e x)) l
theorem evsB_eq (e : Env) : ∀ (l : List Opd), evsB e l = evs e l
  | [] => rfl
  | x :: r => by
    show Option.rec (motive := fun _ => Option (List AV)) none (fun v => Option.rec (motive := fun _ => Option (List AV)) none (fun l => some (v :: l)) (evsB e r)) (evB e x) = _
    rw [evB_eq, evsB_eq e r]
    show _ = match ev e x with
      | some v => match evs e r with
        | some l => some (v :: l)
        | none => none
      | none => none
    cases ev e x with
    | none => rfl
    | some v => cases evs e r <;> rfl
noncomputable def keepB (e : Env) (l : List Nat) : Env := List.rec (motive := fun _ => Env) [] (fun n _ ih => Option.rec (motive := fun _ => Env) ih (fun v => (n, v) :: ih) (envB e n)) l
theorem keepB_eq (e : Env) : ∀ (l : List Nat), keepB e l = e.keep l
  | [] => rfl
  | n :: r => by
    show Option.rec (motive := fun _ => Env) (keepB e r) (fun v => (n, v) :: keepB e r) (envB e n) = _
    rw [envB_eq, keepB_eq e r]
    show _ = match Env.get e n with
      | some v => (n, v) :: Env.keep e r
      | none => Env.keep e r
    cases Env.get e n <;> rfl
/-- so, and looked at first. -/
noncomputable def keepK (e : Env) (l : List Nat) : (Env → Bool) → Bool := List.rec (motive := fun _ => (Env → Bool) → Bool) (fun K => K []) (fun n _ ih K => Option.rec (motive := fun _ => Bool) (ih K) (fun v => ih fun t => K ((n, v) :: t)) (envB e n)) l
theorem keepK_eq (e : Env) : ∀ (l : List Nat) (K : Env → Bool), keepK e l K = K (e.keep l)
  | [], K => rfl
  | n :: r, K => by
    show Option.rec (motive := fun _ => Bool) (keepK e r K) (fun v => keepK e r fun t => K ((n, v) :: t)) (envB e n) = _
    rw [envB_eq, keepK_eq e r]
    show _ = K (match Env.get e n with
      | some v => (n, v) :: Env.keep e r
      | none => Env.keep e r)
    cases Env.get e n with
    | none => rfl
    | some v =>
      show (keepK e r fun t => K ((n, v) :: t)) = _
      rw [keepK_eq e r]

section
variable (ih : JobB → Bool)
noncomputable def roundB (l : Nat) (args : List AV) (H : Heap) (K : AV → Heap → Bool) : Bool :=
  match H.get l with
  | some (.loop env ps assign body .ready _) =>
    if args.length = ps.length then
      ih (.code assign (bindPs ps args env) H fun x e H1 =>
        match x with
        | .normal => match H1.get l with
          | some (.loop env1 ps1 assign1 body1 .ready pend) =>
            ih (.code body e (H1.set l (.loop env1 ps1 assign1 body1 .busy pend)) fun x _ H2 =>
              match H2.get l with
              | some (.loop env2 ps2 assign2 body2 .busy _) =>
                (match x with
                | .normal => K (.bool true) (H2.set l (.loop env2 ps2 assign2 body2 .ready none))
                | x => K (.bool false) (H2.set l (.loop env2 ps2 assign2 body2 .done (some x))))
              | _ => false)
          | _ => false
        | _ => false)
    else false
  | _ => false
def allB {α : Type} (p : α → Bool) : List α → Bool
  | [] => true
  | x :: r => match p x with
    | true => allB p r
    | false => false
def nextB (it : Nat) (H : Heap) (K : AV → Heap → Bool) : Bool :=
  match H.get it with
  | some (.iter m clock seen) => match H.mapAt m with
    | some (es, c') =>
      if c' = clock then
        match es.filter (fun e => !seen.contains e.2.2) with
        | [] => K (.tup [.bool false]) H
        | x :: r => allB (fun e => K (.tup [.bool true, e.1, e.2.1]) (H.set it (.iter m clock (seen ++ [e.2.2])))) (x :: r)
      else false
    | none => false
  | _ => false
def otherB (op : IOp) (xs : List AV) (H : Heap) (K : AV → Heap → Bool) : Bool :=
  match kd op with
  | .pure => match pureOp op xs with
    | some v => K v H
    | none => false
  | .read => match readOp op xs H with
    | some v => K v H
    | none => false
  | .alloc => match allocOp op xs with
    | some (f, o) => K (f H.next) (H.push o)
    | none => false
  | .eff => match effOp op xs H with
    | some (v, H') => K v H'
    | none => false
  | .call => false
  | .next => false
noncomputable def srcB (sz : Nat) (H : Heap) (x : AV) : Option (Nat × List AV) := match x with
  | .nils => some (0, [])
  | .sl b o n _ _ => match n with
    | 0 => some (0, [])
    | n' + 1 => match getB H b with
      | some (.cells _ c) => match takeF (dropF c o) (Nat.mul (Nat.succ n') sz) with
        | some l => some (Nat.succ n', l)
        | none => none
      | _ => none
  | x => srcCells sz H x
theorem srcB_eq (sz : Nat) (H : Heap) (x : AV) : srcB sz H x = srcCells sz H x := by
  unfold srcB
  split
  · rfl
  · rename_i b o n c e
    split
    · rfl
    · rename_i n'
      have h0 : ¬ (n' + 1 = 0) := by omega
      simp only [srcCells, h0, if_false, Heap.read, getB_eq, spanF_eq, Nat.succ_eq_add_one]
      cases hg : H.get b with
      | none => rfl
      | some ob =>
        cases ob with
        | cells w cs =>
          simp only
          have e1 : Nat.mul (n' + 1) sz = (n' + 1) * sz := rfl
          rw [e1]
          cases span cs o ((n' + 1) * sz) <;> rfl
        | map _ _ => rfl
        | iter _ _ _ => rfl
        | loop _ _ _ _ _ _ => rfl
  · rfl
noncomputable def takeCatK (l : List AV) (c : List AV) : Nat → (List AV → Bool) → Bool :=
  List.rec (motive := fun _ => Nat → (List AV → Bool) → Bool) (fun n K => match n with
    | 0 => K l
    | _ + 1 => false) (fun x _ ih n K => match n with
    | 0 => K l
    | n + 1 => ih n fun t => K (x :: t)) c
theorem takeCatK_ok (l : List AV) : ∀ (c : List AV) (n : Nat) (K : List AV → Bool), takeCatK l c n K = true → ∃ t, takeF c n = some t ∧ K (t ++ l) = true
  | [], 0, K, h => ⟨[], rfl, h⟩
  | [], n + 1, K, h => by
    have h : false = true := h
    cases h
  | x :: r, 0, K, h => ⟨[], rfl, h⟩
  | x :: r, n + 1, K, h => by
    have h : takeCatK l r n (fun t => K (x :: t)) = true := h
    obtain ⟨t, h1, h2⟩ := takeCatK_ok l r n _ h
    refine ⟨x :: t, ?_, h2⟩
    show (match takeF r n with | some t => some (x :: t) | none => none) = _
    rw [h1]
noncomputable def appB (e sz y : Nat) (z : List AV) (s x : AV) (H : Heap) (K : AV → Heap → Bool) : Bool := match srcB sz H x with
  | some (n, l) => match n with
    | 0 => otherB (.append e sz y z false) [s, x] H K
    | n' + 1 => match s with
      | .nils => match Nat.ble (Nat.mul (Nat.succ n') y) 1099511627776 with
        | true => K (.sl H.next 0 (Nat.succ n') none e) (pushB H (.cells true l))
        | false => false
      | .sl b o m c e' => match Nat.beq e' e, Nat.ble (Nat.mul (Nat.add m (Nat.succ n')) y) 1099511627776, getB H b with
        | true, true, some (.cells w cs) => match c with
          | none => match w with
            | true => match takeF (dropF cs (Nat.add o (Nat.mul m sz))) (Nat.mul (Nat.succ n') sz) with
              | some _ => otherB (.append e sz y z false) [s, x] H K
              | none => forceN (Nat.add m (Nat.succ n')) fun q => takeCatK l (dropF cs o) (Nat.mul m sz) fun r => K (.sl H.next 0 q none e) (pushB (killB H b) (.cells true r))
            | false => false
          | some c => match Nat.ble (Nat.add m (Nat.succ n')) c with
            | true => otherB (.append e sz y z false) [s, x] H K
            | false => forceN (Nat.add m (Nat.succ n')) fun q => takeCatK l (dropF cs o) (Nat.mul m sz) fun r => K (.sl H.next 0 q none e) (pushB H (.cells true r))
        | _, _, _ => false
      | _ => false
  | none => false
noncomputable def opB (op : IOp) (xs : List AV) (H : Heap) (K : AV → Heap → Bool) : Bool :=
  match op with
  | .move => match xs with
    | [x] => K x H
    | _ => false
  | .bin o => match xs with
    | [x, y] => match binF o x y with
      | some v => K v H
      | none => false
    | _ => false
  | .load n => match xs with
    | [.ptr b o] => match loadB n b o H with
      | some v => K v H
      | none => false
    | _ => false
  | .store n => match xs with
    | [.ptr b o, v] => match storeB n b o v H with
      | some H' => K (.tup []) H'
      | none => false
    | _ => false
  | .alloc z => match xs with
    | [] => K (.ptr H.next 0) (pushB H (.cells true z))
    | _ => false
  | .fieldAddr off => match xs with
    | [.ptr b o] => forceN (Nat.add o off) fun o => K (.ptr b o) H
    | _ => false
  | .cvInt k => match xs with
    | [.int _ n] => forceI (wrapF k n) fun n => K (.int k n) H
    | _ => false
  | .call => match xs with
    | .fn f fs cap :: args => ih (.call f (fs ++ args ++ cap) H K)
    | .yield l :: args => roundB ih l args H K
    | _ => false
  | .next => match xs with
    | [.ptr it 0] => nextB it H K
    | _ => false
  | .append e sz y z false => match xs with
    | [s, x] => appB e sz y z s x H K
    | _ => false
  | op => otherB op xs H K
def wantsB (e : Env) (g : Option (Nat × Bool)) : Option Bool := wants e g
noncomputable def regB (l : List IOper) : Env → Heap → (Env → Heap → Bool) → Bool :=
  List.rec (motive := fun _ => Env → Heap → (Env → Heap → Bool) → Bool) (fun e H K => K e H) (fun o _ r e H K => match o with
    | ⟨dst, op, xs, none⟩ => match evsB e xs with
      | some xs => opB ih op xs H fun v H' => r (e.putO dst v) H' K
      | none => false
    | ⟨dst, op, xs, some g⟩ => match wants e (some g) with
      | some true => match evsB e xs with
        | some xs => opB ih op xs H fun v H' => r (e.putO dst v) H' K
        | none => false
      | some false => r (e.putO dst (.tup [])) H K
      | none => false) l
noncomputable def dregB (base : Nat) : List DOp → Env → Heap → List (Nat × AObj) → List Watch → (Env → Heap → Bool) → Bool
  | [], e, H, q, _, K => K e (flush H q)
  | d :: r, e, H, q, ws, K => match wants e d.o.guard with
    | some true => match evsB e d.o.xs with
      | some xs => match d.k with
        | .pure => match pureOp d.o.op xs with
          | some v => dregB base r (e.putO d.o.dst v) H q ws K
          | none => false
        | .read hi => match readOp d.o.op xs H with
          | some v => dregB base r (e.putO d.o.dst v) H q (⟨hi, d.o.op, xs, v⟩ :: ws) K
          | none => false
        | .alloc j => match allocOp d.o.op xs with
          | some (f, o) => dregB base r (e.putO d.o.dst (f (base + j))) H ((base + j, o) :: q) ws K
          | none => false
        | .eff num _ => opB ih d.o.op xs (flush H q) fun v H' => match watched num H' ws with
          | true => dregB base r (e.putO d.o.dst v) H' [] ws K
          | false => false
      | none => false
    | some false => dregB base r (e.putO d.o.dst (.tup [])) H q ws K
    | none => false
noncomputable def codeB (c : ICode) (e : Env) (H : Heap) (Q : Out → Env → Heap → Bool) : Bool :=
  match c with
  | .skip => Q .normal e H
  | .reg ops live => regB ih ops e H fun e H => keepK e live fun e => Q .normal e H
  | .dreg ops na live => dregB ih H.next ops e ⟨H.next + na, H.mem⟩ [] [] fun e H => keepK e live fun e => Q .normal e H
  | .seq a b => ih (.code a e H fun x e H => match x with
    | .normal => ih (.code b e H Q)
    | x => Q x e H)
  | .cond o a b => match evB e o with
    | some (.bool c) => match c with
      | true => ih (.code a e H Q)
      | false => ih (.code b e H Q)
    | _ => false
  | .block id b => ih (.code b e H fun x e H => match x with
    | .exit j => match Nat.beq j id with
      | true => Q .normal e H
      | false => Q (.exit j) e H
    | x => Q x e H)
  | .loop b => ih (.code b e H fun x e H => match x with
    | .normal => ih (.code (.loop b) e H Q)
    | x => Q x e H)
  | .exit id => Q (.exit id) e H
  | .ret => Q .ret e H
  | .rangeFunc f ps assign body => match evB e f with
    | some (.fn g fs cap) => ih (.call g (fs ++ [.yield H.next] ++ cap) (H.push (.loop e ps assign body .ready none)) fun _ H2 =>
      match H2.get H.next with
      | some (.loop _ _ _ _ .ready pend) => Q (pend.getD .normal) e (H2.kill H.next)
      | some (.loop _ _ _ _ .done pend) => Q (pend.getD .normal) e (H2.kill H.next)
      | _ => false)
    | _ => false
end
noncomputable def jobB (T : Nat → Option FSpecB) (ih : JobB → Bool) : JobB → Bool
  | .code c e H Q => codeB ih c e H Q
  | .call f args H K => match T f with
    | some (.code fn) => match Nat.ble args.length fn.nt with
      | true => ih (.code fn.body (paramEnv 0 args) H fun x e H' => match x with
        | .exit _ => false
        | _ => match resultsA e H' fn.results with
          | some v => K v H'
          | none => false)
      | false => false
    | some (.spec S) => S args H K
    | none => false
noncomputable def wpB (T : Nat → Option FSpecB) (n : Nat) : JobB → Bool :=
  Nat.rec (fun _ => false) (fun _ ih j => jobB T ih j) n

/-! ### What it says is so -/
/-- A table of the one kind stands for one of the other. -/
structure TabB (T' : Nat → Option FSpecB) (T : Nat → Option FSpec) : Prop where
  code : ∀ f ifn, T' f = some (.code ifn) → T f = some (.code ifn)
  spec : ∀ f S', T' f = some (.spec S') → ∃ S, T f = some (.spec S) ∧ ∀ args H K, S' args H K = true → S args H (fun v H => K v H = true)

section
variable {ih : JobB → Bool} {X : Job → Prop} (hX : ∀ j, ih j = true → X j.up) (hM : JMono X)
include hX hM
theorem upCode {c : ICode} {e : Env} {H : Heap} {Q : Out → Env → Heap → Bool} {Q' : Out → Env → Heap → Prop} (h : ih (.code c e H Q) = true) (hQ : ∀ x e H, Q x e H = true → Q' x e H) : X (.code c e H Q') :=
  hM.code hQ (hX _ h)
theorem upCall {f : Nat} {args : List AV} {H : Heap} {K : AV → Heap → Bool} {K' : AV → Heap → Prop} (h : ih (.call f args H K) = true) (hK : ∀ v H, K v H = true → K' v H) : X (.call f args H K') :=
  hM.call hK (hX _ h)

theorem roundB_ok {l : Nat} {args : List AV} {H : Heap} {K : AV → Heap → Bool} {K' : AV → Heap → Prop} (hK : ∀ v H, K v H = true → K' v H) (h : roundB ih l args H K = true) : roundWp X l args H K' := by
  unfold roundB at h
  unfold roundWp
  split at h
  · rename_i hl
    simp only [hl]
    split at h
    · rename_i ha
      rw [if_pos ha]
      refine upCode hX hM h ?_
      intro x e H1 h
      split at h
      · split at h
        · rename_i hl1
          simp only [hl1]
          refine upCode hX hM h ?_
          intro x _ H2 h
          split at h
          · rename_i hl2
            simp only [hl2]
            cases x with
            | normal => exact hK _ _ h
            | exit j => exact hK _ _ h
            | ret => exact hK _ _ h
          · cases h
        · cases h
      · cases h
    · cases h
  · cases h
omit hX hM in
theorem allB_ok {α : Type} {p : α → Bool} : ∀ {l : List α}, allB p l = true → ∀ x ∈ l, p x = true
  | [], _, x, hx => by cases hx
  | y :: r, h, x, hx => by
    simp only [allB] at h
    split at h
    · rename_i hy
      rcases List.mem_cons.1 hx with rfl | hx
      · exact hy
      · exact allB_ok h x hx
    · cases h
omit hX hM in
theorem nextB_ok {it : Nat} {H : Heap} {K : AV → Heap → Bool} {K' : AV → Heap → Prop} (hK : ∀ v H, K v H = true → K' v H) (h : nextB it H K = true) : nextWp it H K' := by
  unfold nextB at h
  unfold nextWp
  split at h
  · rename_i hi
    simp only [hi]
    split at h
    · rename_i hm
      simp only [hm]
      split at h
      · rename_i hc
        rw [if_pos hc]
        split at h
        · rename_i hf
          simp only [hf]; exact hK _ _ h
        · rename_i hf
          simp only [hf]
          intro e he
          exact hK _ _ (allB_ok h e he)
      · cases h
    · cases h
  · cases h
omit hX hM in
theorem otherB_ok {op : IOp} {xs : List AV} {H : Heap} {K : AV → Heap → Bool} {K' : AV → Heap → Prop} (hK : ∀ v H, K v H = true → K' v H) (h : otherB op xs H K = true) : opWp X op xs H K' := by
  unfold otherB at h
  unfold opWp
  cases hk : kd op <;> simp only [hk] at h ⊢
  · split at h
    · rename_i hv; simp only [hv]; exact hK _ _ h
    · cases h
  · split at h
    · rename_i hv; simp only [hv]; exact hK _ _ h
    · cases h
  · split at h
    · rename_i hv; simp only [hv]; exact hK _ _ h
    · cases h
  · split at h
    · rename_i hv; simp only [hv]; exact hK _ _ h
    · cases h
  · cases h
  · cases h
omit hX hM in
theorem appB_ok {e sz y : Nat} {z : List AV} {s x : AV} {H : Heap} {K : AV → Heap → Bool} {K' : AV → Heap → Prop} (hK : ∀ v H, K v H = true → K' v H) (h : appB e sz y z s x H K = true) : opWp X (.append e sz y z false) [s, x] H K' := by
  unfold appB at h
  split at h
  · rename_i n l hsrc
    rw [srcB_eq] at hsrc
    have fin : ∀ {v H1}, appendA e sz y s n l H = some (v, H1) → K v H1 = true → opWp X (.append e sz y z false) [s, x] H K' := by
      intro v H1 h1 h2
      simp only [opWp, kd, effOp, hsrc, h1]; exact hK _ _ h2
    split at h
    · exact otherB_ok hK h
    · rename_i n'
      have hn0 : ¬ (n' + 1 = 0) := by omega
      split at h
      · split at h
        · rename_i hb
          have hb : (n' + 1) * y ≤ 2 ^ 40 := Nat.le_of_ble_eq_true hb
          rw [pushB_eq] at h
          exact fin (by simp only [appendA, hn0, if_false, hb, if_true, grown, forceL_eq]) h
        · cases h
      · rename_i b o m c e'
        split at h
        · rename_i w cs hee hbd hg
          have hee := Nat.eq_of_beq_eq_true hee
          have hbd : (m + (n' + 1)) * y ≤ 2 ^ 40 := Nat.le_of_ble_eq_true hbd
          rw [getB_eq] at hg
          subst hee
          have core : ∀ {r : List AV → Bool}, takeCatK l (dropF cs o) (Nat.mul m sz) r = true → ∃ t, span cs o (m * sz) = some t ∧ r (t ++ l) = true := by
            intro r hr
            obtain ⟨t, h1, h2⟩ := takeCatK_ok l _ _ _ hr
            rw [spanF_eq] at h1
            exact ⟨t, h1, h2⟩
          split at h
          · split at h
            · split at h
              · exact otherB_ok hK h
              · rename_i hnone
                rw [forceN_eq] at h
                obtain ⟨t, h1, h2⟩ := core h
                rw [pushB_eq, killB_eq] at h2
                have hlen : ¬ (o + (m + (n' + 1)) * sz ≤ cs.length) := by
                  rw [takeF_eq, dropF_eq] at hnone
                  split at hnone
                  · cases hnone
                  · rename_i hl
                    intro hle
                    apply hl
                    have e1 : Nat.mul (Nat.succ n') sz = (n' + 1) * sz := rfl
                    have e2 : Nat.add o (Nat.mul m sz) = o + m * sz := rfl
                    rw [e1, e2, List.length_take, List.length_drop]
                    have := Nat.add_mul m (n' + 1) sz
                    omega
                exact fin (by simp only [appendA, hn0, if_false, hbd, and_self, if_true, hg, hlen, h1, grown, forceL_eq]; rfl) h2
            · cases h
          · rename_i c'
            split at h
            · exact otherB_ok hK h
            · rename_i hc
              rw [forceN_eq] at h
              obtain ⟨t, h1, h2⟩ := core h
              rw [pushB_eq] at h2
              have hc' : ¬ (m + (n' + 1) ≤ c') := fun hle => by
                rw [show Nat.ble (Nat.add m (Nat.succ n')) c' = true from Nat.ble_eq_true_of_le hle] at hc; cases hc
              exact fin (by simp only [appendA, hn0, if_false, hbd, and_self, if_true, hg, hc', h1, grown, forceL_eq]; rfl) h2
        · cases h
      · cases h
  · cases h
theorem opB_ok {op : IOp} {xs : List AV} {H : Heap} {K : AV → Heap → Bool} {K' : AV → Heap → Prop} (hK : ∀ v H, K v H = true → K' v H) (h : opB ih op xs H K = true) : opWp X op xs H K' := by
  unfold opB at h
  split at h
  · split at h
    · exact hK _ _ h
    · cases h
  · split at h
    · split at h
      · rename_i hv
        rw [binF_eq] at hv
        simp only [opWp, kd, pureOp, hv]; exact hK _ _ h
      · cases h
    · cases h
  · split at h
    · split at h
      · rename_i hv
        rw [loadB_eq] at hv
        simp only [opWp, kd, readOp, hv]; exact hK _ _ h
      · cases h
    · cases h
  · split at h
    · split at h
      · rename_i hv
        obtain ⟨h1, h2⟩ := storeB_ok hv
        simp only [opWp, kd, effOp, h1, if_true, h2]; exact hK _ _ h
      · cases h
    · cases h
  · split at h
    · rw [pushB_eq] at h
      exact hK _ _ h
    · cases h
  · split at h
    · rw [forceN_eq] at h
      simp only [opWp, kd, pureOp, forceN_eq]; exact hK _ _ h
    · cases h
  · split at h
    · rw [forceI_eq, wrapF_eq] at h
      simp only [opWp, kd, pureOp, mkInt_eq]; exact hK _ _ h
    · cases h
  · split at h
    · exact upCall hX hM h hK
    · exact roundB_ok hX hM hK h
    · cases h
  · split at h
    · exact nextB_ok hK h
    · cases h
  · split at h
    · exact appB_ok hK h
    · cases h
  · exact otherB_ok hK h

theorem regB_ok : ∀ {l : List IOper} {e : Env} {H : Heap} {K : Env → Heap → Bool} {K' : Env → Heap → Prop}, (∀ e H, K e H = true → K' e H) → regB ih l e H K = true → regWp X l e H K'
  | [], e, H, K, K', hK, h => hK _ _ h
  | ⟨dst, op, xs, none⟩ :: r, e, H, K, K', hK, h => by
    have h : (match evsB e xs with
      | some xs => opB ih op xs H fun v H' => regB ih r (e.putO dst v) H' K
      | none => false) = true := h
    rw [evsB_eq] at h
    simp only [regWp, wants]
    split at h
    · rename_i hv
      simp only [hv]
      refine opB_ok hX hM ?_ h
      intro v H' h
      exact regB_ok hK h
    · cases h
  | ⟨dst, op, xs, some g⟩ :: r, e, H, K, K', hK, h => by
    have h : (match wants e (some g) with
      | some true => match evsB e xs with
        | some xs => opB ih op xs H fun v H' => regB ih r (e.putO dst v) H' K
        | none => false
      | some false => regB ih r (e.putO dst (.tup [])) H K
      | none => false) = true := h
    rw [evsB_eq] at h
    simp only [regWp]
    split at h
    · rename_i hw
      simp only [hw]
      split at h
      · rename_i hv
        simp only [hv]
        exact opB_ok hX hM (fun v H' h => regB_ok hK h) h
      · cases h
    · rename_i hw
      simp only [hw]
      exact regB_ok hK h
    · cases h

theorem dregB_ok {base : Nat} : ∀ {l : List DOp} {e : Env} {H : Heap} {q : List (Nat × AObj)} {ws : List Watch} {K : Env → Heap → Bool} {K' : Env → Heap → Prop}, (∀ e H, K e H = true → K' e H) → dregB ih base l e H q ws K = true → dregWp X base l e H q ws K'
  | [], e, H, q, ws, K, K', hK, h => hK _ _ h
  | d :: r, e, H, q, ws, K, K', hK, h => by
    simp only [dregB] at h
    simp only [dregWp]
    rw [evsB_eq] at h
    split at h
    · rename_i hw
      simp only [hw]
      split at h
      · rename_i hv
        simp only [hv]
        split at h
        · rename_i hk
          simp only [hk]
          split at h
          · rename_i hp; simp only [hp]; exact dregB_ok hK h
          · cases h
        · rename_i hk
          simp only [hk]
          split at h
          · rename_i hp; simp only [hp]; exact dregB_ok hK h
          · cases h
        · rename_i hk
          simp only [hk]
          split at h
          · rename_i hp; simp only [hp]; exact dregB_ok hK h
          · cases h
        · rename_i hk
          simp only [hk]
          refine opB_ok hX hM ?_ h
          intro v H' h
          split at h
          · rename_i hwt; simp only [hwt]; exact dregB_ok hK h
          · cases h
      · cases h
    · rename_i hw
      simp only [hw]
      exact dregB_ok hK h
    · cases h

theorem codeB_ok {c : ICode} {e : Env} {H : Heap} {Q : Out → Env → Heap → Bool} {Q' : Out → Env → Heap → Prop} (hQ : ∀ x e H, Q x e H = true → Q' x e H) (h : codeB ih c e H Q = true) : codeWp X c e H Q' := by
  cases c <;> simp only [codeB] at h <;> simp only [codeWp]
  case skip => exact hQ _ _ _ h
  case reg => exact regB_ok hX hM (fun e H h => hQ _ _ _ (by rw [keepK_eq] at h; exact h)) h
  case dreg => exact dregB_ok hX hM (fun e H h => hQ _ _ _ (by rw [keepK_eq] at h; exact h)) h
  case seq a b =>
    refine upCode hX hM h fun x e H h => ?_
    cases x with
    | normal => exact upCode hX hM h hQ
    | exit j => exact hQ _ _ _ h
    | ret => exact hQ _ _ _ h
  case cond =>
    rw [evB_eq] at h
    split at h
    · rename_i c hv
      simp only [hv]
      cases c with
      | true => exact upCode hX hM h hQ
      | false => exact upCode hX hM h hQ
    · cases h
  case block =>
    refine upCode hX hM h fun x e H h => ?_
    cases x with
    | normal => exact hQ _ _ _ h
    | exit j =>
      simp only at h ⊢
      split at h
      · rename_i hj; simp only [hj]; exact hQ _ _ _ h
      · rename_i hj; simp only [hj]; exact hQ _ _ _ h
    | ret => exact hQ _ _ _ h
  case loop =>
    refine upCode hX hM h fun x e H h => ?_
    cases x with
    | normal => exact upCode hX hM h hQ
    | exit j => exact hQ _ _ _ h
    | ret => exact hQ _ _ _ h
  case exit => exact hQ _ _ _ h
  case ret => exact hQ _ _ _ h
  case rangeFunc =>
    rw [evB_eq] at h
    split at h
    · rename_i hv
      simp only [hv]
      refine upCall hX hM h fun v H2 h => ?_
      split at h
      · rename_i hl; simp only [hl]; exact hQ _ _ _ h
      · rename_i hl; simp only [hl]; exact hQ _ _ _ h
      · cases h
    · cases h

theorem jobB_ok {T' : Nat → Option FSpecB} {T : Nat → Option FSpec} (hT : TabB T' T) : ∀ j, jobB T' ih j = true → jobWp T X j.up
  | .code c e H Q, h => codeB_ok hX hM (fun _ _ _ h => h) h
  | .call f args H K, h => by
    simp only [jobB] at h
    simp only [JobB.up, jobWp]
    split at h
    · rename_i fn hf
      simp only [hT.code f fn hf]
      split at h
      · rename_i hl
        simp only [hl]
        refine upCode hX hM h fun x e H' h => ?_
        cases x with
        | exit j => cases h
        | normal =>
          simp only at h ⊢
          split at h
          · rename_i hv; simp only [hv]; exact h
          · cases h
        | ret =>
          simp only at h ⊢
          split at h
          · rename_i hv; simp only [hv]; exact h
          · cases h
      · cases h
    · rename_i S' hf
      obtain ⟨S, hS, hk⟩ := hT.spec f S' hf
      simp only [hS]
      exact hk _ _ _ h
    · cases h
end

theorem wpB_ok {T' : Nat → Option FSpecB} {T : Nat → Option FSpec} (hM : TMono T) (hT : TabB T' T) : ∀ (n : Nat) (j : JobB), wpB T' n j = true → Wp T j.up
  | 0, j, h => by cases h
  | n + 1, j, h => Wp.intro hM (jobB_ok (ih := wpB T' n) (X := Wp T) (fun j h => wpB_ok hM hT n j h) Wp.jmono hT j h)
end Go.AE

/-
  A call worked out in memory that nothing writes to, behind which one fresh slice of plain cells stays.
-/
namespace Go.AE

/-- What memory holds, as cells that nothing writes to; the rest left out. -/
def frozenO : AObj → Option AObj
  | .cells _ c => some (.cells false c)
  | _ => none
def PT.mapO : PT AObj → PT AObj
  | .nil => .nil
  | .node l v r => .node (PT.mapO l) (match v with
    | some o => frozenO o
    | none => none) (PT.mapO r)
theorem PT.mapO_get : ∀ (t : PT AObj) (n : Nat), (PT.mapO t).get n = (t.get n).bind frozenO
  | .nil, n => by rw [PT.get_nil]; show PT.get .nil n = _; rw [PT.get_nil]; rfl
  | .node l v r, 0 => by
    show (match v with | some o => frozenO o | none => none) = v.bind frozenO
    cases v <;> rfl
  | .node l v r, m + 1 => by
    show (match m % 2 with | 0 => (PT.mapO l).get (m / 2) | _ => (PT.mapO r).get (m / 2)) = (match m % 2 with | 0 => l.get (m / 2) | _ => r.get (m / 2)).bind frozenO
    rw [PT.mapO_get l, PT.mapO_get r]
    split <;> rfl
def Heap.frozen (H : Heap) : Heap := ⟨H.next, PT.mapO H.mem⟩
theorem frozen_get {H : Heap} {b : Nat} {o : AObj} (h : H.frozen.get b = some o) : ∃ w c, H.get b = some (.cells w c) ∧ o = .cells false c := by
  have h : (PT.mapO H.mem).get b = some o := h
  rw [PT.mapO_get] at h
  cases hg : H.mem.get b with
  | none => rw [hg] at h; cases h
  | some ob =>
    rw [hg] at h
    cases ob with
    | cells w c => exact ⟨w, c, hg, by simpa [frozenO] using h.symm⟩
    | map _ _ => cases h
    | iter _ _ _ => cases h
    | loop _ _ _ _ _ _ => cases h

section
variable {P : Program}
theorem Rel.frozen {w0 w : World} {prv : List (Nat × Obj)} {β : Inj} {H : Heap} (hR : Rel P w0 prv β H w) : Rel P w [] β H.frozen w where
  obj := fun b o hb => by
    obtain ⟨wr, c, h1, rfl⟩ := frozen_get hb
    obtain ⟨L, g1, g2⟩ := hR.obj b _ h1
    refine ⟨L, g1, ?_⟩
    simp only [ORel] at g2 ⊢
    obtain ⟨cs, ty, fz, k1, k2, k3, k4, k5, _⟩ := g2
    exact ⟨cs, ty, fz, k1, k2, k3, k4, k5, by simp⟩
  new := fun b o L hb _ hw => by
    obtain ⟨wr, c, h1, rfl⟩ := frozen_get hb
    cases hw
  inj := fun b b' o o' L L' _ hb _ _ _ hw => by
    obtain ⟨wr, c, h1, rfl⟩ := frozen_get hb
    cases hw
  dom := hR.dom
  blk := hR.blk
  glob := hR.glob
  old := fun _ _ => rfl
  size := Nat.le_refl _
  same := ⟨rfl, rfl, rfl⟩
  prvs := fun r o hr => by cases hr
  prvN := fun r o b ob L hr => by cases hr

theorem heap_lt {w : World} {r : Nat} {o : Obj} (h : w.heap[r]? = some o) : r < w.heap.size := by
  rcases Nat.lt_or_ge r w.heap.size with h' | h'
  · exact h'
  · simp [Array.getElem?_eq_none h'] at h

/-- Nothing that was there turned: all stands as it stood. -/
theorem Rel.thaw {w0 w w' : World} {prv : List (Nat × Obj)} {β β' : Inj} {H H' : Heap} (hR : Rel P w0 prv β H w) (hR' : Rel P w [] β' H' w') : Rel P w0 prv β H w' where
  obj := fun b o hb => by
    obtain ⟨L, h1, h2⟩ := hR.obj b o hb
    exact ⟨L, h1, h2.mono (fun _ _ h => h) (hR'.old _ (hR.blk b L h1))⟩
  new := hR.new
  inj := hR.inj
  dom := hR.dom
  blk := fun b L hb => Nat.lt_of_lt_of_le (hR.blk b L hb) hR'.size
  glob := hR.glob
  old := fun i hi => by rw [hR'.old i (Nat.lt_of_lt_of_le hi hR.size)]; exact hR.old i hi
  size := Nat.le_trans hR.size hR'.size
  same := ⟨hR'.same.1.trans hR.same.1, hR'.same.2.1.trans hR.same.2.1, hR'.same.2.2.trans hR.same.2.2⟩
  prvs := fun r o hr => by
    have := hR.prvs r o hr
    rw [hR'.old r (heap_lt this)]; exact this
  prvN := hR.prvN

theorem frame_plain {f : Nat} {args : List AV} {H : Heap} {K : AV → Heap → Prop} (h : CallSound P f args H.frozen (fun v _ => AV.under 0 v = true ∧ K v H)) : CallSound P f args H K := by
  refine ⟨h.1, ?_⟩
  intro w0 prv β w vargs cs G hG hR ha cont
  refine h.2 w [] β w vargs cs G hG hR.frozen ha ?_
  intro v H' β' w' u fr' ⟨hv, hk⟩ hx hev hR' hu hl hf
  refine cont v H β w' u fr' hk (Ext.refl _ _) (Evo.refl _) (hR.thaw hR') ?_ hl hf
  have h0 : Ext 0 (fun _ => none) β' := ⟨fun _ _ h => (by cases h), fun _ _ _ => .inr (Nat.zero_le _)⟩
  exact VRel.mono (fun _ _ h => (by cases h)) _ _ (VRel.back h0 _ _ hv hu)

/-- The answer: a slice of a fresh block of plain cells, and a plain value. -/
theorem frame_slice {f : Nat} {args : List AV} {H : Heap} {K : AV → Heap → Prop} {l : List AV} {n e : Nat} {x : AV} (hl : AV.unders 0 l = true) (hx : AV.under 0 x = true)
    (hk : K (.tup [.sl H.next 0 n none e, x]) (H.push (.cells true l)))
    (h : CallSound P f args H.frozen (fun v H' => ∃ b, v = .tup [.sl b 0 n none e, x] ∧ H'.get b = some (.cells true l))) : CallSound P f args H K := by
  refine ⟨h.1, ?_⟩
  intro w0 prv β w vargs cs G hG hR ha cont
  refine h.2 w [] β w vargs cs G hG hR.frozen ha ?_
  rintro v H' β' w' u fr' ⟨b, rfl, hb⟩ hxx hev hR' hu hlv hf
  have hT := hR.thaw hR'
  obtain ⟨L, hL, hO⟩ := hR'.obj b _ hb
  have hnew : w.heap.size ≤ L.blk := hR'.new b _ L hb hL rfl
  have h0 : Ext 0 (fun _ => none) β' := ⟨fun _ _ h => (by cases h), fun _ _ _ => .inr (Nat.zero_le _)⟩
  have up : ∀ (γ : Inj) (l : List AV) (vs : List Value), AV.unders 0 l = true → VRels P β' l vs → VRels P γ l vs := fun γ l vs hu hr =>
    VRels.mono (fun _ _ h => (by cases h)) _ _ (VRels.back h0 _ _ hu hr)
  have hfr : β H.next = none := hR.fresh
  have hkeep := Inj.put_keep (L := L) hfr
  refine cont _ _ (β.put H.next L) w' u fr' hk ⟨hkeep, ?_⟩ ⟨by simp, fun c hc hn => by rw [Heap.get_push, if_neg (by omega)]; exact hn⟩ ?_ ?_ hlv hf
  · intro c M hM
    unfold Inj.put at hM
    split at hM
    · rename_i hc; exact .inr (by omega)
    · exact .inl hM
  · have hne : ∀ {c : Nat}, c ≠ H.next → (H.push (.cells true l)).get c = H.get c := fun {c} hc => by rw [Heap.get_push, if_neg hc]
    have hput : ∀ {c M}, c ≠ H.next → (β.put H.next L) c = some M → β c = some M := fun {c M} hc hM => by simpa [Inj.put, hc] using hM
    constructor
    · intro c o hc
      by_cases e1 : c = H.next
      · subst e1
        rw [Heap.get_push, if_pos rfl] at hc
        injection hc with hc; subst hc
        refine ⟨L, Inj.put_same, ?_⟩
        simp only [ORel] at hO ⊢
        obtain ⟨cs', ty, fz, k1, k2, k3, k4, k5⟩ := hO
        exact ⟨cs', ty, fz, k1, k2, k3, up _ _ _ hl k4, k5⟩
      · rw [hne e1] at hc
        obtain ⟨M, h1, h2⟩ := hT.obj c o hc
        exact ⟨M, hkeep _ _ h1, h2.mono hkeep rfl⟩
    · intro c o M hc hM hw
      by_cases e1 : c = H.next
      · subst e1
        rw [Inj.put_same] at hM; injection hM with hM; subst hM
        exact Nat.le_trans hR.size hnew
      · rw [hne e1] at hc
        exact hT.new c o M hc (hput e1 hM) hw
    · intro c c' o o' M M' hcc hc hc' hM hM' hw
      by_cases e1 : c = H.next
      · subst e1
        rw [Inj.put_same] at hM; injection hM with hM; subst hM
        have e2 : c' ≠ H.next := fun h => hcc h.symm
        have := hR.blk c' M' (hput e2 hM')
        omega
      · by_cases e2 : c' = H.next
        · subst e2
          rw [Inj.put_same] at hM'; injection hM' with hM'; subst hM'
          have := hR.blk c M (hput e1 hM)
          omega
        · rw [hne e1] at hc; rw [hne e2] at hc'
          exact hT.inj c c' o o' M M' hcc hc hc' (hput e1 hM) (hput e2 hM') hw
    · intro c M hM
      by_cases e1 : c = H.next
      · subst e1; simp
      · exact Nat.lt_succ_of_lt (hR.dom c M (hput e1 hM))
    · intro c M hM
      by_cases e1 : c = H.next
      · subst e1
        rw [Inj.put_same] at hM; injection hM with hM; subst hM
        exact hR'.blk b _ hL
      · exact hT.blk c M (hput e1 hM)
    · intro g hg
      obtain ⟨M, h1, h2⟩ := hR.glob g hg
      exact ⟨M, hkeep _ _ h1, h2⟩
    · exact hT.old
    · exact hT.size
    · exact hT.same
    · exact hT.prvs
    · intro r o c ob M hr hc hM
      by_cases e1 : c = H.next
      · subst e1
        rw [Inj.put_same] at hM; injection hM with hM; subst hM
        have := heap_lt (hR.prvs r o hr)
        omega
      · rw [hne e1] at hc
        exact hT.prvN r o c ob M hr hc (hput e1 hM)
  · simp only [VRel, VRels] at hu ⊢
    obtain ⟨vs, rfl, v1, vs1, h1, ⟨L1, a, cap, i, q1, q2⟩, v2, vs2, h2, h3, h4⟩ := hu
    rw [hL] at q1; injection q1 with q1; subst q1
    refine ⟨vs, rfl, v1, vs1, h1, ⟨L, a, cap, i, Inj.put_same, q2⟩, v2, vs2, h2, ?_, h4⟩
    exact VRel.mono (fun _ _ h => (by cases h)) _ _ (VRel.back h0 _ _ hx h3)
end
end Go.AE
