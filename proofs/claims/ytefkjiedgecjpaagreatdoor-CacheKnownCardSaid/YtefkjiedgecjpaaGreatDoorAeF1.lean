/-
  The evaluator once more, for the kernel's own reckoning: it answers a Bool, and looks at what comes first.
-/
import Derived.Test.YtefkjiedgecjpaaGreatDoorAeW1
import Derived.Test.YtefkjiedgecjpaaGreatDoorAeS3
set_option linter.unusedSimpArgs false
set_option linter.unusedVariables false
set_option linter.unusedSectionVars false
namespace Go.AE

/-! ### Numbers -/
def kIdx : IntKind → Nat
  | .i8 => 0 | .i16 => 1 | .i32 => 2 | .i64 => 3 | .u8 => 4 | .u16 => 5 | .u32 => 6 | .u64 => 7
def sameK (j k : IntKind) : Bool := Nat.beq (kIdx j) (kIdx k)
theorem sameK_eq (j k : IntKind) : sameK j k = decide (j = k) := by cases j <;> cases k <;> rfl

def wrapF (k : IntKind) (n : Int) : Int := match n with
  | .ofNat m => match k with
    | .u64 => .ofNat (Nat.mod m 18446744073709551616)
    | .u8 => .ofNat (Nat.mod m 256)
    | .i64 => match Nat.ble m 9223372036854775807 with
      | true => .ofNat m
      | false => IntKind.wrap .i64 (.ofNat m)
    | k => IntKind.wrap k (.ofNat m)
  | .negSucc m => match k with
    | .i64 => match Nat.ble m 9223372036854775807 with
      | true => .negSucc m
      | false => IntKind.wrap .i64 (.negSucc m)
    | k => IntKind.wrap k (.negSucc m)
theorem wrapF_eq (k : IntKind) (n : Int) : wrapF k n = k.wrap n := by
  unfold wrapF
  split
  · rename_i m
    split
    · exact (wrap_u64_nat m).symm
    · exact (wrap_u8_nat m).symm
    · split
      · rename_i h
        have h := Nat.le_of_ble_eq_true h
        exact (wrap_i64 (by simp only [Int.ofNat_eq_natCast]; omega) (by simp only [Int.ofNat_eq_natCast]; omega)).symm
      · rfl
    · rfl
  · rename_i m
    split
    · split
      · rename_i h
        have h := Nat.le_of_ble_eq_true h
        exact (wrap_i64 (by rw [Int.negSucc_eq]; omega) (by rw [Int.negSucc_eq]; omega)).symm
      · rfl
    · rfl

def addF (a b : Int) : Int := match a, b with
  | .ofNat x, .ofNat y => .ofNat (Nat.add x y)
  | a, b => a + b
theorem addF_eq (a b : Int) : addF a b = a + b := by unfold addF; split <;> rfl
def subF (a b : Int) : Int := match a, b with
  | .ofNat x, .ofNat y => match Nat.ble y x with
    | true => .ofNat (Nat.sub x y)
    | false => .negSucc (Nat.sub (Nat.sub y x) 1)
  | a, b => a - b
theorem subF_eq (a b : Int) : subF a b = a - b := by
  unfold subF
  split
  · rename_i x y
    split
    · rename_i h
      have h := Nat.le_of_ble_eq_true h
      show Int.ofNat (x - y) = _
      simp only [Int.ofNat_eq_natCast]; omega
    · rename_i h
      have h : ¬ y ≤ x := fun h' => by rw [Nat.ble_eq_true_of_le h'] at h; cases h
      show Int.negSucc (y - x - 1) = _
      simp only [Int.ofNat_eq_natCast]; omega
  · rfl
def ltF (a b : Int) : Bool := match a, b with
  | .ofNat x, .ofNat y => Nat.ble (Nat.succ x) y
  | a, b => decide (a < b)
theorem ltF_eq (a b : Int) : ltF a b = decide (a < b) := by
  unfold ltF
  split
  · rename_i x y
    rw [Bool.eq_iff_iff, decide_eq_true_eq]
    exact ⟨fun h => by have := Nat.le_of_ble_eq_true h; simp only [Int.ofNat_eq_natCast]; omega, fun h => Nat.ble_eq_true_of_le (by simp only [Int.ofNat_eq_natCast] at h; omega)⟩
  · rfl
def leF (a b : Int) : Bool := match a, b with
  | .ofNat x, .ofNat y => Nat.ble x y
  | a, b => decide (a ≤ b)
theorem leF_eq (a b : Int) : leF a b = decide (a ≤ b) := by
  unfold leF
  split
  · rename_i x y
    rw [Bool.eq_iff_iff, decide_eq_true_eq]
    exact ⟨fun h => by have := Nat.le_of_ble_eq_true h; simp only [Int.ofNat_eq_natCast]; omega, fun h => Nat.ble_eq_true_of_le (by simp only [Int.ofNat_eq_natCast] at h; omega)⟩
  · rfl
def eqF (a b : Int) : Bool := match a, b with
  | .ofNat x, .ofNat y => Nat.beq x y
  | a, b => a == b
theorem eqF_eq (a b : Int) : eqF a b = (a == b) := by
  unfold eqF
  split
  · rename_i x y
    rw [Bool.eq_iff_iff]
    exact ⟨fun h => by have := Nat.eq_of_beq_eq_true h; subst this; simp, fun h => by
      have h := eq_of_beq h
      simp only [Int.ofNat_eq_natCast] at h
      have : x = y := by omega
      subst this; exact Nat.beq_refl x⟩
  · rfl
def bitF (k : IntKind) (f : Nat → Nat → Nat) (a b : Int) : Int := match k, a, b with
  | .u64, .ofNat x, .ofNat y => .ofNat (Nat.mod (f (Nat.mod x 18446744073709551616) (Nat.mod y 18446744073709551616)) 18446744073709551616)
  | k, a, b => bits k f a b
theorem toNat_mod64 (a : Nat) : ((Int.ofNat a) % 2 ^ IntKind.u64.bits).toNat = a % 18446744073709551616 := by
  simp only [IntKind.bits, Int.ofNat_eq_natCast]; omega
theorem bitF_eq (k : IntKind) (f : Nat → Nat → Nat) (a b : Int) : bitF k f a b = bits k f a b := by
  unfold bitF
  split
  · unfold bits
    rw [toNat_mod64, toNat_mod64, ← wrapF_eq]; rfl
  · rfl
def arF (op : BinOp) (k : IntKind) (a b : Int) : Option AV := match op with
  | .add => forceI (wrapF k (addF a b)) fun n => some (.int k n)
  | .sub => forceI (wrapF k (subF a b)) fun n => some (.int k n)
  | .and => forceI (bitF k Nat.land a b) fun n => some (.int k n)
  | .or => forceI (bitF k Nat.lor a b) fun n => some (.int k n)
  | .xor => forceI (bitF k Nat.xor a b) fun n => some (.int k n)
  | .lss => some (.bool (ltF a b))
  | .leq => some (.bool (leF a b))
  | .gtr => some (.bool (ltF b a))
  | .geq => some (.bool (leF b a))
  | .eql => some (.bool (eqF a b))
  | .neq => some (.bool (!eqF a b))
  | op => binInt op k a b
theorem arF_eq (op : BinOp) (k : IntKind) (a b : Int) : arF op k a b = binInt op k a b := by
  cases op <;> simp only [arF, binInt, forceI_eq, mkInt_eq, wrapF_eq, addF_eq, subF_eq, bitF_eq, ltF_eq, leF_eq, eqF_eq] <;> rfl
def binF (op : BinOp) (x y : AV) : Option AV := match x with
  | .int k a => match y with
    | .int j b => match op with
      | .shl => match k, a, b with
        | .u64, .ofNat m, .ofNat n => forceN (Nat.mod (Nat.mul m (Nat.pow 2 (Nat.min n 64))) 18446744073709551616) fun r => some (.int .u64 (.ofNat r))
        | k, a, b => binA .shl (.int k a) (.int j b)
      | .shr => match a, b with
        | .ofNat m, .ofNat n => forceN (Nat.div m (Nat.pow 2 (Nat.min n k.bits))) fun r => some (.int k (.ofNat r))
        | a, b => binA .shr (.int k a) (.int j b)
      | op => match sameK j k with
        | true => arF op k a b
        | false => none
    | y => binA op (.int k a) y
  | x => binA op x y
theorem binF_eq (op : BinOp) (x y : AV) : binF op x y = binA op x y := by
  unfold binF
  split
  · rename_i k a
    split
    · rename_i j b
      split
      · split
        · rename_i m n
          have h : ¬ ((Int.ofNat n) < 0) := by simp only [Int.ofNat_eq_natCast]; omega
          simp only [forceN_eq, binA, h, if_false, mkInt_eq]
          rw [← wrapF_eq]
          congr 2
        · rfl
      · split
        · rename_i m n
          have h : ¬ ((Int.ofNat n) < 0) := by simp only [Int.ofNat_eq_natCast]; omega
          simp only [forceN_eq, binA, h, if_false, mkInt_eq]
          congr 2
          simp only [Int.ofNat_eq_natCast, Int.toNat_natCast]
          rw [Int.fdiv_eq_ediv_of_nonneg _ (Int.pow_nonneg (by decide))]
          show ((m / 2 ^ (Nat.min n k.bits) : Nat) : Int) = _
          simp
        · rfl
      · rename_i hshl hshr
        have e : binA op (.int k a) (.int j b) = if j = k then binInt op k a b else none := by
          cases op <;> first | rfl | (exact absurd rfl hshl) | (exact absurd rfl hshr)
        rw [e, sameK_eq]
        by_cases hjk : j = k
        · simp only [hjk, decide_true, if_true, arF_eq]
        · simp only [hjk, decide_false, if_false]
    · rfl
  · rfl

/-! ### Cells -/
noncomputable def takeF (c : List AV) : Nat → Option (List AV) :=
  List.rec (motive := fun _ => Nat → Option (List AV)) (fun n => match n with
    | 0 => some []
    | _ + 1 => none) (fun x _ ih n => match n with
    | 0 => some []
    | n + 1 => match ih n with
      | some t => some (x :: t)
      | none => none) c
noncomputable def dropF (c : List AV) : Nat → List AV :=
  List.rec (motive := fun _ => Nat → List AV) (fun _ => []) (fun x r ih n => match n with
    | 0 => x :: r
    | n + 1 => ih n) c
theorem dropF_eq : ∀ (c : List AV) (n : Nat), dropF c n = c.drop n
  | [], n => by simp [dropF]
  | x :: r, 0 => rfl
  | x :: r, n + 1 => dropF_eq r n
theorem takeF_eq : ∀ (c : List AV) (n : Nat), takeF c n = if (c.take n).length = n then some (c.take n) else none
  | [], 0 => rfl
  | [], n + 1 => by simp [takeF]
  | x :: r, 0 => rfl
  | x :: r, n + 1 => by
    show (match takeF r n with | some t => some (x :: t) | none => none) = _
    rw [takeF_eq r n]
    have e : ((x :: r).take (n + 1)).length = (r.take n).length + 1 := by rw [List.take_succ_cons, List.length_cons]
    by_cases h : (r.take n).length = n
    · have h2 : ((x :: r).take (n + 1)).length = n + 1 := by omega
      rw [if_pos h, if_pos h2]; rfl
    · have h2 : ¬ ((x :: r).take (n + 1)).length = n + 1 := by omega
      rw [if_neg h, if_neg h2]
theorem spanF_eq (c : List AV) (o n : Nat) : takeF (dropF c o) n = span c o n := by
  rw [takeF_eq, dropF_eq]; rfl
noncomputable def layF (l : List AV) : List AV → Option (List AV) :=
  List.rec (motive := fun _ => List AV → Option (List AV)) (fun c => some c) (fun v _ ih c => match c with
    | [] => none
    | _ :: c => match ih c with
      | some r => some (v :: r)
      | none => none) l
noncomputable def writeF (c : List AV) (l : List AV) : Nat → Option (List AV) :=
  List.rec (motive := fun _ => Nat → Option (List AV)) (fun o => match o with
    | 0 => layF l []
    | _ + 1 => none) (fun x r ih o => match o with
    | 0 => layF l (x :: r)
    | o + 1 => match ih o with
      | some r' => some (x :: r')
      | none => none) c
theorem layF_eq : ∀ (l c : List AV), layF l c = if l.length ≤ c.length then some (l ++ c.drop l.length) else none
  | [], c => by simp [layF]
  | v :: l, [] => by simp [layF]
  | v :: l, x :: c => by
    show (match layF l c with | some r => some (v :: r) | none => none) = _
    rw [layF_eq l c]
    by_cases h : l.length ≤ c.length
    · simp [h]
    · simp [h]
theorem writeF_eq : ∀ (c : List AV) (l : List AV) (o : Nat), writeF c l o = writeL c o l
  | [], l, 0 => by
    show layF l [] = _
    rw [layF_eq]; simp [writeL]
  | [], l, o + 1 => by
    show none = _
    simp [writeL]
  | x :: r, l, 0 => by
    show layF l (x :: r) = _
    rw [layF_eq]; simp [writeL]
  | x :: r, l, o + 1 => by
    show (match writeF r l o with | some r' => some (x :: r') | none => none) = _
    rw [writeF_eq r l o]
    by_cases h : o + l.length ≤ r.length
    · have h2 : o + 1 + l.length ≤ (x :: r).length := by simp; omega
      simp only [writeL, h, h2, if_true]
      have e : o + 1 + l.length = (o + l.length) + 1 := by omega
      simp [e]
    · have h2 : ¬ (o + 1 + l.length ≤ (x :: r).length) := by simp; omega
      simp only [writeL, h, h2, if_false]
end Go.AE
