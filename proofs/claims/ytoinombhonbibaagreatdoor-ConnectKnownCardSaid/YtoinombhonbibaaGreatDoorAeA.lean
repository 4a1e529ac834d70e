/-
  An abstract evaluator for the model's code: values without capacities, without a tape, without concrete addresses. Definitions alone.
-/
import Derived.Calls
set_option linter.unusedSimpArgs false
set_option linter.unusedVariables false
set_option linter.unusedSectionVars false
namespace Go.AE

/-- Abstract values. 'sl b o n c e': a slice into the abstract block b from its cell o on, of length n; c: its capacity where it is known; e: the type of its elements. -/
inductive AV where
  | bool (b : Bool)
  | int (k : IntKind) (n : Int)
  | str (l : List UInt8)
  | nilp
  | ptr (b o : Nat)
  | nils
  | sl (b o n : Nat) (c : Option Nat) (e : Nat)
  | nilm
  | map (b : Nat)
  | nilf
  | fn (f : Nat) (fs cap : List AV)
  | yield (l : Nat)
  | nili
  | agg (l : List AV)
  | tup (l : List AV)

def AV.cells : AV → List AV
  | .agg l => l
  | v => [v]

/-- Kinds of cells that are compared cell by cell. -/
inductive CK where
  | bool
  | int (k : IntKind)
  | str

inductive EqK where
  | bool | ptr | slice | map | func
  | flat (ks : List CK)

inductive SlK where
  | str
  | sl (sz e : Nat)
  | arr (n sz e : Nat)

inductive LenK where
  | str | sl | map
  | const (n : Nat)

/-- A map's keys: one cell, or an aggregate. -/
inductive KK where
  | one (c : CK)
  | agg (ks : List CK)

inductive Opd where
  | t (n : Nat)
  | c (v : AV)

inductive IOp where
  | move | pick
  | alloc (z : List AV)
  | box
  | build (z : List AV) (pl : List (Nat × Nat))
  | buildSlice (e len : Nat) (z : List AV) (pl : List (Nat × Nat))
  | load (n : Option Nat)
  | store (n : Nat)
  | nilCheck
  | bin (op : BinOp)
  | eq (neg : Bool) (k : EqK)
  | un (op : UnOp)
  | cvInt (k : IntKind)
  | cvBS
  | cvSB (e : Nat)
  | cvSS (e : Nat)
  | cvNop
  | s2a (n : Nat)
  | mkFunc (f nf : Nat)
  | mkMap
  | mkSlice (e y : Nat) (z : List AV)
  | slice (k : SlK) (lo hi mx : Bool)
  | fieldAddr (off : Nat)
  | field (off : Nat) (n : Option Nat)
  | idxArr (n sz : Nat)
  | idxSl (sz : Nat)
  | idxVal (n sz : Nat) (agg : Bool)
  | idxStr
  | lookup (kk : KK) (zero : AV) (ok : Bool)
  | mapUpdate (kk : KK)
  | mapEntry (kk : KK) (zero : AV)
  | entryStore
  | range
  | next
  | entry
  | extract (i : Nat)
  | call
  | len (k : LenK)
  | cap
  | append (e sz y : Nat) (z : List AV) (zeros : Bool)
  | copy (sz : Nat)
  | max | min
  | delete (kk : KK)
  | clearSl (z : List AV)
  | bad

structure IOper where
  dst : Option Nat
  op : IOp
  xs : List Opd
  guard : Option (Nat × Bool)

/-- What an operation of a region that draws its order does to memory. -/
inductive DK where
  | pure
  | read (hi : Nat)
  | alloc (j : Nat)
  | eff (num hi : Nat)

structure DOp where
  idx : Nat
  pre : List Nat
  k : DK
  o : IOper

inductive ICode where
  | skip
  | reg (ops : List IOper) (live : List Nat)
  | dreg (ops : List DOp) (na : Nat) (live : List Nat)
  | seq (a b : ICode)
  | cond (c : Opd) (a b : ICode)
  | block (id : Nat) (body : ICode)
  | loop (body : ICode)
  | rangeFunc (f : Opd) (ps : List Nat) (assign body : ICode)
  | exit (id : Nat)
  | ret

inductive Out where
  | normal
  | exit (id : Nat)
  | ret

abbrev Env := List (Nat × AV)

def Env.get : Env → Nat → Option AV
  | [], _ => none
  | (k, v) :: r, n => match Nat.beq k n with
    | true => some v
    | false => Env.get r n

def Env.put (e : Env) (n : Nat) (v : AV) : Env := (n, v) :: e

def Env.putO (e : Env) (d : Option Nat) (v : AV) : Env := match d with
  | some n => (n, v) :: e
  | none => e

/-- Only what is named is kept. -/
def Env.keep (e : Env) : List Nat → Env
  | [] => []
  | n :: r => match e.get n with
    | some v => (n, v) :: Env.keep e r
    | none => Env.keep e r

inductive LoopSt where
  | ready | busy | done

inductive AObj where
  | cells (w : Bool) (c : List AV)
  | map (es : List (AV × AV × Nat)) (clock : Nat)
  | iter (m clock : Nat) (seen : List Nat)
  | loop (env : Env) (ps : List Nat) (assign body : ICode) (st : LoopSt) (pend : Option Out)

def AObj.writable : AObj → Bool
  | .cells w _ => w
  | _ => true

/-- A finite map on numbers. -/
inductive PT (α : Type) where
  | nil
  | node (l : PT α) (v : Option α) (r : PT α)

namespace PT
variable {α : Type}

def get : PT α → Nat → Option α
  | .nil, _ => none
  | .node l v r, n => match n with
    | 0 => v
    | m + 1 => match m % 2 with
      | 0 => l.get (m / 2)
      | _ => r.get (m / 2)

def setF (o : Option α) : Nat → PT α → Nat → PT α
  | 0, t, _ => t
  | f + 1, t, n => match t with
    | .nil => match n with
      | 0 => .node .nil o .nil
      | m + 1 => match m % 2 with
        | 0 => .node (setF o f .nil (m / 2)) none .nil
        | _ => .node .nil none (setF o f .nil (m / 2))
    | .node l v r => match n with
      | 0 => .node l o r
      | m + 1 => match m % 2 with
        | 0 => .node (setF o f l (m / 2)) v r
        | _ => .node l v (setF o f r (m / 2))

def set (t : PT α) (n : Nat) (o : Option α) : PT α := setF o (n + 1) t n

theorem get_nil (n : Nat) : (PT.nil : PT α).get n = none := by cases n <;> rfl

theorem get_setF (o : Option α) : ∀ (f : Nat) (t : PT α) (n k : Nat), n < f → (setF o f t n).get k = if k = n then o else t.get k := by
  intro f
  induction f with
  | zero => intro t n k h; omega
  | succ f ih =>
    intro t n k h
    have key : ∀ (s : PT α) (m j : Nat), m < f → j % 2 = m % 2 → (setF o f s (m / 2)).get (j / 2) = if j + 1 = m + 1 then o else s.get (j / 2) := by
      intro s m j hm hp
      rw [ih _ _ _ (by omega)]
      by_cases e : j = m
      · subst e; simp
      · rw [if_neg (by omega), if_neg (by omega)]
    cases t with
    | nil =>
      cases n with
      | zero => cases k with
        | zero => simp [setF, get]
        | succ k =>
          simp only [setF, get]
          split <;> simp [get_nil]
      | succ m =>
        simp only [setF]
        split
        · rename_i hm
          cases k with
          | zero => simp [get]
          | succ k =>
            simp only [get]
            split
            · rename_i hk
              rw [key _ _ _ (by omega) (by omega), get_nil]
            · rename_i hk
              rw [if_neg (by rintro h; apply hk; omega)]
        · rename_i hm
          cases k with
          | zero => simp [get]
          | succ k =>
            simp only [get]
            split
            · rename_i hk
              rw [if_neg (by rintro h; apply hm; omega)]
            · rename_i hk
              have hk' : k % 2 ≠ 0 := hk
              have hm' : m % 2 ≠ 0 := hm
              rw [key _ _ _ (by omega) (by omega), get_nil]
    | node l v r =>
      cases n with
      | zero => cases k with
        | zero => simp [setF, get]
        | succ k => simp [setF, get]
      | succ m =>
        simp only [setF]
        split
        · rename_i hm
          cases k with
          | zero => simp [get]
          | succ k =>
            simp only [get]
            split
            · rename_i hk
              rw [key _ _ _ (by omega) (by omega)]
            · rename_i hk
              rw [if_neg (by rintro h; apply hk; omega)]
        · rename_i hm
          cases k with
          | zero => simp [get]
          | succ k =>
            simp only [get]
            split
            · rename_i hk
              rw [if_neg (by rintro h; apply hm; omega)]
            · rename_i hk
              have hk' : k % 2 ≠ 0 := hk
              have hm' : m % 2 ≠ 0 := hm
              rw [key _ _ _ (by omega) (by omega)]

theorem get_set (t : PT α) (n k : Nat) (o : Option α) : (t.set n o).get k = if k = n then o else t.get k :=
  get_setF o (n + 1) t n k (Nat.lt_succ_self n)
end PT

structure Heap where
  next : Nat
  mem : PT AObj

def Heap.get (H : Heap) (b : Nat) : Option AObj := H.mem.get b
def Heap.set (H : Heap) (b : Nat) (o : AObj) : Heap := ⟨H.next, H.mem.set b (some o)⟩
def Heap.kill (H : Heap) (b : Nat) : Heap := ⟨H.next, H.mem.set b none⟩
def Heap.push (H : Heap) (o : AObj) : Heap := ⟨H.next + 1, H.mem.set H.next (some o)⟩

theorem Heap.get_set (H : Heap) (b k : Nat) (o : AObj) : (H.set b o).get k = if k = b then some o else H.get k := PT.get_set ..
theorem Heap.get_kill (H : Heap) (b k : Nat) : (H.kill b).get k = if k = b then none else H.get k := PT.get_set ..
theorem Heap.get_push (H : Heap) (k : Nat) (o : AObj) : (H.push o).get k = if k = H.next then some o else H.get k := PT.get_set ..
@[simp] theorem Heap.next_set (H : Heap) (b : Nat) (o : AObj) : (H.set b o).next = H.next := rfl
@[simp] theorem Heap.next_kill (H : Heap) (b : Nat) : (H.kill b).next = H.next := rfl
@[simp] theorem Heap.next_push (H : Heap) (o : AObj) : (H.push o).next = H.next + 1 := rfl

/-! ### Numbers worked out first: for the kernel -/
def forceN {α : Type} (n : Nat) (k : Nat → α) : α := match n with
  | 0 => k 0
  | m + 1 => k (m + 1)
theorem forceN_eq {α : Type} (n : Nat) (k : Nat → α) : forceN n k = k n := by cases n <;> rfl
def forceI {α : Type} (n : Int) (k : Int → α) : α := match n with
  | .ofNat m => forceN m fun m => k (.ofNat m)
  | .negSucc m => forceN m fun m => k (.negSucc m)
theorem forceI_eq {α : Type} (n : Int) (k : Int → α) : forceI n k = k n := by cases n <;> simp [forceI, forceN_eq]
def forceL {α β : Type} (l : List α) (k : List α → β) : β := match l with
  | [] => k []
  | x :: r => forceL r fun r => k (x :: r)
theorem forceL_eq {α β : Type} (l : List α) (k : List α → β) : forceL l k = k l := by
  induction l generalizing k with
  | nil => rfl
  | cons x r ih => simp [forceL, ih]

def mkInt (k : IntKind) (n : Int) : Option AV := forceI n fun n => some (.int k n)
@[simp] theorem mkInt_eq (k : IntKind) (n : Int) : mkInt k n = some (.int k n) := forceI_eq ..

/-! ### Equality -/
def ckEq : CK → AV → AV → Option Bool
  | .bool, .bool a, .bool b => some (a == b)
  | .int k, .int j a, .int i b => if j = k ∧ i = k then some (a == b) else none
  | .str, .str a, .str b => some (a == b)
  | _, _, _ => none

def cksEq : List CK → List AV → List AV → Option Bool
  | [], [], [] => some true
  | k :: ks, a :: as, b :: bs => match ckEq k a b with
    | some x => match cksEq ks as bs with
      | some y => some (x && y)
      | none => none
    | none => none
  | _, _, _ => none

def keyEq : KK → AV → AV → Option Bool
  | .one k, a, b => ckEq k a b
  | .agg ks, .agg as, .agg bs => cksEq ks as bs
  | _, _, _ => none

def aEq : EqK → AV → AV → Option Bool
  | .bool, .bool a, .bool b => some (a == b)
  | .ptr, .nilp, .nilp => some true
  | .ptr, .nilp, .ptr _ _ => some false
  | .ptr, .ptr _ _, .nilp => some false
  | .slice, .nils, .nils => some true
  | .slice, .nils, .sl .. => some false
  | .slice, .sl .., .nils => some false
  | .map, .nilm, .nilm => some true
  | .map, .nilm, .map _ => some false
  | .map, .map _, .nilm => some false
  | .func, .nilf, .nilf => some true
  | .func, .nilf, .fn .. => some false
  | .func, .fn .., .nilf => some false
  | .flat ks, .agg as, .agg bs => cksEq ks as bs
  | _, _, _ => none

/-! ### Integers -/
def bits (k : IntKind) (f : Nat → Nat → Nat) (a b : Int) : Int :=
  k.wrap (f (a % 2 ^ k.bits).toNat (b % 2 ^ k.bits).toNat : Nat)

def binInt (op : BinOp) (k : IntKind) (a b : Int) : Option AV :=
  match op with
  | .add => mkInt k (k.wrap (a + b))
  | .sub => mkInt k (k.wrap (a - b))
  | .mul => mkInt k (k.wrap (a * b))
  | .quo => if b = 0 then none else mkInt k (k.wrap (a.tdiv b))
  | .rem => if b = 0 then none else mkInt k (a.tmod b)
  | .and => mkInt k (bits k (fun x y => x &&& y) a b)
  | .or => mkInt k (bits k (fun x y => x ||| y) a b)
  | .xor => mkInt k (bits k (fun x y => x ^^^ y) a b)
  | .andNot => mkInt k (bits k (fun x y => x &&& (2 ^ k.bits - 1 - y)) a b)
  | .eql => some (.bool (a == b))
  | .neq => some (.bool (a != b))
  | .lss => some (.bool (decide (a < b)))
  | .leq => some (.bool (decide (a ≤ b)))
  | .gtr => some (.bool (decide (b < a)))
  | .geq => some (.bool (decide (b ≤ a)))
  | _ => none

def strLess : List UInt8 → List UInt8 → Bool
  | _, [] => false
  | [], _ :: _ => true
  | a :: x, b :: y => a < b || (a == b && strLess x y)

def binStr (op : BinOp) (a b : List UInt8) : Option AV :=
  match op with
  | .add => if a.length + b.length ≤ 2 ^ 40 then some (.str (a ++ b)) else none
  | .eql => some (.bool (a == b))
  | .neq => some (.bool (!(a == b)))
  | .lss => some (.bool (strLess a b))
  | .leq => some (.bool (strLess a b || a == b))
  | .gtr => some (.bool (!(strLess a b || a == b)))
  | .geq => some (.bool (!strLess a b))
  | _ => none

def binA (op : BinOp) (x y : AV) : Option AV :=
  match x, y with
  | .int k a, .int j b => match op with
    | .shl => if b < 0 then none else mkInt k (k.wrap (a * 2 ^ (Nat.min b.toNat k.bits)))
    | .shr => if b < 0 then none else mkInt k (a.fdiv (2 ^ (Nat.min b.toNat k.bits)))
    | _ => if j = k then binInt op k a b else none
  | .str a, .str b => binStr op a b
  | _, _ => none

def unA (op : UnOp) (x : AV) : Option AV :=
  match op, x with
  | .neg, .int k n => mkInt k (k.wrap (0 - n))
  | .xor, .int k n => mkInt k (bits k (fun x y => x ^^^ y) (if k.signed then -1 else k.max) n)
  | .not, .bool b => some (.bool (!b))
  | _, _ => none

/-! ### Memory -/
/-- n cells from o on. -/
def span (c : List AV) (o n : Nat) : Option (List AV) :=
  let l := (c.drop o).take n
  if l.length = n then some l else none

def Heap.cellsAt (H : Heap) (b : Nat) : Option (Bool × List AV) := match H.get b with
  | some (.cells w c) => some (w, c)
  | _ => none

def Heap.read (H : Heap) (b o n : Nat) : Option (List AV) := match H.get b with
  | some (.cells _ c) => span c o n
  | _ => none

/-- cells overwritten from o on; all must be there. -/
def writeL (c : List AV) (o : Nat) (l : List AV) : Option (List AV) :=
  if o + l.length ≤ c.length then some (c.take o ++ l ++ c.drop (o + l.length)) else none

def Heap.write (H : Heap) (b o : Nat) (l : List AV) : Option Heap := match H.get b with
  | some (.cells true c) => match writeL c o l with
    | some c' => forceL c' fun c' => some (H.set b (.cells true c'))
    | none => none
  | _ => none

def Heap.load (H : Heap) (n : Option Nat) (b o : Nat) : Option AV := match n with
  | some n => match H.read b o n with
    | some l => some (.agg l)
    | none => none
  | none => match H.read b o 1 with
    | some [v] => some v
    | _ => none

/-- is it a value of one cell? -/
def AV.one : AV → Bool
  | .agg _ | .tup _ => false
  | _ => true

def AV.size (n : Nat) (v : AV) : Bool := Nat.beq v.cells.length n && v.cells.all AV.one

/-- Parts laid into cells. -/
def fillA : List AV → List (Nat × Nat) → List AV → Option (List AV)
  | c, [], [] => some c
  | c, (off, sz) :: pl, v :: vs =>
    if v.size sz then
      match writeL c off v.cells with
      | some c' => fillA c' pl vs
      | none => none
    else none
  | _, _, _ => none

def zeros (z : List AV) : Nat → List AV
  | 0 => []
  | n + 1 => z ++ zeros z n

def asInts (l : List UInt8) : List AV := l.map fun b => .int .u8 b.toNat

def toBytes : List AV → Option (List UInt8)
  | [] => some []
  | .int .u8 n :: r => match toBytes r with
    | some l => some (UInt8.ofNat n.toNat :: l)
    | none => none
  | _ => none

/-- What is appended, or copied from. -/
def srcCells (sz : Nat) (H : Heap) : AV → Option (Nat × List AV)
  | .nils => some (0, [])
  | .sl b o n _ _ => match (if n = 0 then some [] else H.read b o (n * sz)) with
    | some l => some (n, l)
    | none => none
  | .str s => if sz = 1 then some (s.length, asInts s) else none
  | _ => none

/-- a new block, whole; the slice of its first n elements, its capacity not known. -/
def grown (H : Heap) (e n : Nat) (l : List AV) : Option (AV × Heap) :=
  forceL l fun l => some (.sl H.next 0 n none e, H.push (.cells true l))

def appendA (e sz y : Nat) (s : AV) (n : Nat) (l : List AV) (H : Heap) : Option (AV × Heap) :=
  if n = 0 then (match s with
    | .nils => some (s, H)
    | .sl _ _ _ _ e' => if e' = e then some (s, H) else none
    | _ => none)
  else match s with
  | .nils => if n * y ≤ 2 ^ 40 then grown H e n l else none
  | .sl b o m c e' =>
    if e' = e ∧ (m + n) * y ≤ 2 ^ 40 then
      match H.get b with
      | some (.cells w cs) =>
        match c with
        | some c =>
          if m + n ≤ c then
            match H.write b (o + m * sz) l with
            | some H' => some (.sl b o (m + n) (some c) e, H')
            | none => none
          else match span cs o (m * sz) with
            | some old => grown H e (m + n) (old ++ l)
            | none => none
        | none =>
          if w then
            if o + (m + n) * sz ≤ cs.length then
              match H.write b (o + m * sz) l with
              | some H' => some (.sl b o (m + n) none e, H')
              | none => none
            else match span cs o (m * sz) with
              | some old => grown (H.kill b) e (m + n) (old ++ l)
              | none => none
          else none
      | _ => (match c with
        | some 0 => if m = 0 then grown H e n l else none
        | _ => none)
    else none
  | _ => none

/-- bounds as Go asks them: lo ≤ hi ≤ max ≤ cap. -/
def bound (v : AV) (y : Nat) : Option Nat := match v with
  | .int _ i => if 0 ≤ i ∧ i ≤ y then some i.toNat else none
  | _ => none

/-- low, high, max; 'y': how far high may go (the capacity where it is known, the length else). -/
def bounds (len y : Nat) (lo hi mx : Bool) (xs : List AV) : Option (Nat × Nat × Option Nat) :=
  match lo, hi, mx, xs with
  | false, false, false, [] => some (0, len, none)
  | true, false, false, [l] => match bound l len with
    | some l => some (l, len, none)
    | none => none
  | false, true, false, [h] => match bound h y with
    | some h => some (0, h, none)
    | none => none
  | true, true, false, [l, h] => match bound h y with
    | some h => match bound l h with
      | some l => some (l, h, none)
      | none => none
    | none => none
  | false, true, true, [h, m] => match bound m y with
    | some m => match bound h m with
      | some h => some (0, h, some m)
      | none => none
    | none => none
  | true, true, true, [l, h, m] => match bound m y with
    | some m => match bound h m with
      | some h => match bound l h with
        | some l => some (l, h, some m)
        | none => none
      | none => none
    | none => none
  | _, _, _, _ => none

def sliceA (k : SlK) (lo hi mx : Bool) (x : AV) (xs : List AV) : Option AV :=
  match k, x with
  | .str, .str s => if mx then none else match bounds s.length s.length lo hi false xs with
    | some (l, h, _) => some (.str ((s.drop l).take (h - l)))
    | none => none
  | .sl _ _, .nils => match bounds 0 0 lo hi mx xs with
    | some _ => some .nils
    | none => none
  | .sl sz e0, .sl b o n c e => match bounds n (c.getD n) lo hi mx xs with
    | some (l, h, m) => if e0 = e then forceN (o + l * sz) fun o' => forceN (h - l) fun n' =>
        some (.sl b o' n' (match m with
          | some m => some (m - l)
          | none => c.map (· - l)) e)
      else none
    | none => none
  | .arr n sz e, .ptr b o => match bounds n n lo hi mx xs with
    | some (l, h, m) => some (.sl b (o + l * sz) (h - l) (some (m.getD n - l)) e)
    | none => none
  | _, _ => none

/-! ### Maps -/
def mlook (kk : KK) (k : AV) : List (AV × AV × Nat) → Option (Option (Nat × AV × Nat))
  | [] => some none
  | (k', v, b) :: r => match keyEq kk k k' with
    | some true => some (some (0, v, b))
    | some false => match mlook kk k r with
      | some (some (i, v, b)) => some (some (i + 1, v, b))
      | some none => some none
      | none => none
    | none => none

/-- is it a key of this kind? -/
def keyOk : KK → AV → Bool
  | kk, k => (keyEq kk k k).isSome

def Heap.mapAt (H : Heap) (b : Nat) : Option (List (AV × AV × Nat) × Nat) := match H.get b with
  | some (.map es c) => some (es, c)
  | _ => none

/-- Operations that look at no memory. -/
def pureOp (op : IOp) (xs : List AV) : Option AV :=
  match op, xs with
  | .move, [x] => some x
  | .pick, [c, a, b] => match c with
    | .bool true => some a
    | .bool false => some b
    | _ => none
  | .build z pl, vs => match fillA z pl vs with
    | some c => forceL c fun c => some (.agg c)
    | none => none
  | .nilCheck, [.ptr b o] => some (.ptr b o)
  | .nilCheck, [.fn f fs c] => some (.fn f fs c)
  | .nilCheck, [.yield l] => some (.yield l)
  | .bin op, [x, y] => binA op x y
  | .eq neg k, [x, y] => match aEq k x y with
    | some r => some (.bool (if neg then !r else r))
    | none => none
  | .un op, [x] => unA op x
  | .cvInt k, [.int _ n] => mkInt k (k.wrap n)
  | .cvNop, [.str s] => some (.str s)
  | .s2a n, [.sl b o m _ _] => if n ≤ m ∧ 0 < n then some (.ptr b o) else none
  | .mkFunc f nf, xs => some (.fn f (xs.take nf) (xs.drop nf))
  | .slice k lo hi mx, x :: xs => sliceA k lo hi mx x xs
  | .fieldAddr off, [.ptr b o] => forceN (o + off) fun o => some (.ptr b o)
  | .field off n, [.agg c] => match n with
    | some n => match span c off n with
      | some l => some (.agg l)
      | none => none
    | none => match span c off 1 with
      | some [v] => some v
      | _ => none
  | .idxArr n sz, [.ptr b o, .int _ i] => if 0 ≤ i ∧ i < n then forceN (o + i.toNat * sz) fun o => some (.ptr b o) else none
  | .idxSl sz, [.sl b o n _ _, .int _ i] => if 0 ≤ i ∧ i < n then forceN (o + i.toNat * sz) fun o => some (.ptr b o) else none
  | .idxVal n sz agg, [.agg c, .int _ i] => if 0 ≤ i ∧ i < n then
      (match agg with
      | true => match span c (i.toNat * sz) sz with
        | some l => some (.agg l)
        | none => none
      | false => match span c (i.toNat * sz) 1 with
        | some [v] => some v
        | _ => none)
    else none
  | .idxStr, [.str s, .int _ i] => if 0 ≤ i then match s[i.toNat]? with
      | some b => mkInt .u8 b.toNat
      | none => none
    else none
  | .extract i, [.tup l] => l[i]?
  | .len .str, [.str s] => mkInt .i64 s.length
  | .len .sl, [.nils] => some (.int .i64 0)
  | .len .sl, [.sl _ _ n _ _] => mkInt .i64 n
  | .len .map, [.nilm] => some (.int .i64 0)
  | .len (.const n), [_] => some (.int .i64 n)
  | .cap, [.nils] => some (.int .i64 0)
  | .cap, [.sl _ _ _ (some c) _] => some (.int .i64 c)
  | .max, [.int k a, .int j b] => if j = k then some (.int k (if b > a then b else a)) else none
  | .min, [.int k a, .int j b] => if j = k then some (.int k (if b < a then b else a)) else none
  | _, _ => none

/-- Operations that look at memory and leave it. -/
def readOp (op : IOp) (xs : List AV) (H : Heap) : Option AV :=
  match op, xs with
  | .load n, [.ptr b o] => H.load n b o
  | .cvBS, [.nils] => some (.str [])
  | .cvBS, [.sl b o n _ _] => match (if n = 0 then some [] else H.read b o n) with
    | some l => match toBytes l with
      | some s => forceL s fun s => some (.str s)
      | none => none
    | none => none
  | .lookup kk zero ok, [m, k] =>
    if keyOk kk k then
      match (match m with
        | .nilm => some (none : Option (Nat × AV × Nat))
        | .map b => match H.mapAt b with
          | some (es, _) => mlook kk k es
          | none => none
        | _ => none) with
      | some (some (_, v, _)) => some (if ok then .tup [v, .bool true] else v)
      | some none => some (if ok then .tup [zero, .bool false] else zero)
      | none => none
    else none
  | .entry, [.ptr it 0] => match H.get it with
    | some (.iter m clock seen) => match H.mapAt m with
      | some (es, c') => if c' = clock then
          (match seen.getLast? with
          | some s => match es.find? (fun e => e.2.2 == s) with
            | some (k, v, _) => some (.tup [k, v])
            | none => none
          | none => none)
        else none
      | none => none
    | _ => none
  | .len .map, [.map b] => match H.mapAt b with
    | some (es, _) => mkInt .i64 es.length
    | none => none
  | _, _ => none

/-- Operations that make one block and do no more: the value, given the block's number; the block. -/
def allocOp (op : IOp) (xs : List AV) : Option ((Nat → AV) × AObj) :=
  match op, xs with
  | .alloc z, [] => some (fun b => .ptr b 0, .cells true z)
  | .box, [x] => if x.cells.all AV.one then forceL x.cells fun l => some (fun b => .ptr b 0, .cells true l) else none
  | .buildSlice e len z pl, vs => match fillA (zeros z len) pl vs with
    | some c => forceL c fun c => some (fun b => .sl b 0 len (some len) e, .cells true c)
    | none => none
  | .mkMap, _ => some (fun b => .map b, .map [] 0)
  | .mkSlice e y z, [.int .i64 l, .int .i64 c] =>
    if 0 ≤ l ∧ l ≤ c ∧ c * y ≤ 2 ^ 40 ∧ c ≤ 2 ^ 40 then
      forceL (zeros z c.toNat) fun cs => some (fun b => .sl b 0 l.toNat (some c.toNat) e, .cells true cs)
    else none
  | _, _ => none

/-- Operations that change memory otherwise. -/
def effOp (op : IOp) (xs : List AV) (H : Heap) : Option (AV × Heap) :=
  match op, xs with
  | .store n, [.ptr b o, v] => if v.size n then match H.write b o v.cells with
      | some H' => some (.tup [], H')
      | none => none
    else none
  | .cvSB e, [.str s] => if s.length ≤ 2 ^ 40 then grown H e s.length (asInts s) else none
  | .cvSS e, [.str s] => if s.length ≤ 2 ^ 40 then grown H e s.length (asInts s) else none
  | .cvSS _, [.sl b o n c e] => if 0 < n then (match H.get b with
    | some (.cells true _) => some (.sl b o n c e, H)
    | _ => none) else none
  | .mapUpdate kk, [.map b, k, v] =>
    if keyOk kk k then
      match H.mapAt b with
      | some (es, clock) => match mlook kk k es with
        | some (some (i, _, born)) => some (.tup [], H.set b (.map (es.set i (k, v, born)) clock))
        | some none => some (.tup [], H.set b (.map (es ++ [(k, v, clock)]) (clock + 1)))
        | none => none
      | none => none
    else none
  | .mapEntry kk zero, [.map b, k] =>
    if keyOk kk k then
      match H.mapAt b with
      | some (es, clock) => match mlook kk k es with
        | some (some (i, v, born)) => some (.tup [v, .int .i64 born], H.set b (.map (es.set i (k, v, born)) clock))
        | some none => some (.tup [zero, .int .i64 clock], H.set b (.map (es ++ [(k, zero, clock)]) (clock + 1)))
        | none => none
      | none => none
    else none
  | .entryStore, [.map b, .int _ s, v] =>
    match H.mapAt b with
    | some (es, clock) => match es.findIdx? (fun e => (e.2.2 : Int) == s) with
      | some i => match es[i]? with
        | some (k, _, born) => some (.tup [], H.set b (.map (es.set i (k, v, born)) clock))
        | none => none
      | none => none
    | none => none
  | .range, [.map b] => match H.mapAt b with
    | some (_, clock) => some (.ptr H.next 0, H.push (.iter b clock []))
    | none => none
  | .append e sz y _ false, [s, x] => match srcCells sz H x with
    | some (n, l) => appendA e sz y s n l H
    | none => none
  | .append e sz y z true, [.nils, .int _ n] => if 0 ≤ n ∧ n ≤ 2 ^ 40 then appendA e sz y .nils n.toNat (zeros z n.toNat) H else none
  | .append e sz y z true, [.sl b o m c e', .int _ n] => if 0 ≤ n ∧ n ≤ 2 ^ 40 ∧ n.toNat * y ≤ 2 ^ 40 then appendA e sz y (.sl b o m c e') n.toNat (zeros z n.toNat) H else none
  | .copy sz, [d, x] => match srcCells sz H x with
    | some (n, l) => (match d with
      | .nils => some (.int .i64 0, H)
      | .sl b o m _ _ =>
        if Nat.min n m = 0 then some (.int .i64 0, H) else
        match H.write b o (l.take (Nat.min n m * sz)) with
        | some H' => some (.int .i64 (Nat.min n m : Nat), H')
        | none => none
      | _ => none)
    | none => none
  | .delete kk, [.map b, k] =>
    if keyOk kk k then
      match H.mapAt b with
      | some (es, clock) => match mlook kk k es with
        | some (some (i, _, _)) => some (.tup [], H.set b (.map (es.eraseIdx i) clock))
        | some none => some (.tup [], H.set b (.map es clock))
        | none => none
      | none => none
    else none
  | .clearSl z, [.sl b o n _ _] => if n = 0 then some (.tup [], H) else match H.write b o (zeros z n) with
    | some H' => some (.tup [], H')
    | none => none
  | .clearSl _, [.nils] => some (.tup [], H)
  | _, _ => none

inductive Kd where
  | pure | read | alloc | eff | call | next

def kd : IOp → Kd
  | .call => .call
  | .next => .next
  | .load _ | .cvBS | .lookup .. | .entry | .len .map => .read
  | .alloc _ | .box | .buildSlice .. | .mkMap | .mkSlice .. => .alloc
  | .store _ | .cvSB _ | .cvSS _ | .mapUpdate _ | .mapEntry .. | .entryStore | .range | .append .. | .copy _ | .delete _ | .clearSl _ => .eff
  | _ => .pure

/-! ### Code -/
def ev (e : Env) : Opd → Option AV
  | .t n => e.get n
  | .c v => some v

def evs (e : Env) : List Opd → Option (List AV)
  | [] => some []
  | x :: r => match ev e x with
    | some v => match evs e r with
      | some l => some (v :: l)
      | none => none
    | none => none

/-- is the operation wanted? -/
def wants (e : Env) : Option (Nat × Bool) → Option Bool
  | none => some true
  | some (g, b) => match e.get g with
    | some (.bool x) => some (x == b)
    | some (.tup []) => some false
    | _ => none

inductive ResV where
  | t (n : Nat)
  | c (n : Nat) (k : Option Nat)

structure IFunc where
  nt : Nat
  results : List ResV
  body : ICode

inductive Job where
  | code (c : ICode) (env : Env) (H : Heap) (Q : Out → Env → Heap → Prop)
  | call (f : Nat) (args : List AV) (H : Heap) (K : AV → Heap → Prop)

inductive FSpec where
  | code (f : IFunc)
  | spec (S : List AV → Heap → (AV → Heap → Prop) → Prop)

def bindPs : List Nat → List AV → Env → Env
  | p :: ps, v :: vs, e => bindPs ps vs (e.put p v)
  | _, _, e => e

def paramEnv : Nat → List AV → Env
  | _, [] => []
  | i, v :: r => (i, v) :: paramEnv (i + 1) r

def resultOf (e : Env) (H : Heap) : ResV → Option AV
  | .t n => e.get n
  | .c n k => match e.get n with
    | some (.ptr b o) => H.load k b o
    | _ => none

def resultsL (e : Env) (H : Heap) : List ResV → Option (List AV)
  | [] => some []
  | r :: rs => match resultOf e H r with
    | some v => match resultsL e H rs with
      | some l => some (v :: l)
      | none => none
    | none => none

def resultsA (e : Env) (H : Heap) (rs : List ResV) : Option AV := match resultsL e H rs with
  | some [v] => some v
  | some l => some (.tup l)
  | none => none

/-- a round of a loop over a function. -/
def roundWp (ih : Job → Prop) (l : Nat) (args : List AV) (H : Heap) (K : AV → Heap → Prop) : Prop :=
  match H.get l with
  | some (.loop env ps assign body .ready _) =>
    if args.length = ps.length then
      ih (.code assign (bindPs ps args env) H fun x e H1 =>
        match x with
        | .normal => match H1.get l with
          | some (.loop env1 ps1 assign1 body1 .ready pend) =>
            ih (.code body e (H1.set l (.loop env1 ps1 assign1 body1 .busy pend)) fun x _ H2 =>
              match H2.get l with
              | some (.loop env2 ps2 assign2 body2 .busy _) =>
                (match x with
                | .normal => K (.bool true) (H2.set l (.loop env2 ps2 assign2 body2 .ready none))
                | x => K (.bool false) (H2.set l (.loop env2 ps2 assign2 body2 .done (some x))))
              | _ => False)
          | _ => False
        | _ => False)
    else False
  | _ => False

/-- a step over a map: whichever entry comes. -/
def nextWp (it : Nat) (H : Heap) (K : AV → Heap → Prop) : Prop :=
  match H.get it with
  | some (.iter m clock seen) => match H.mapAt m with
    | some (es, c') =>
      if c' = clock then
        match es.filter (fun e => !seen.contains e.2.2) with
        | [] => K (.tup [.bool false]) H
        | x :: r => ∀ e ∈ x :: r, K (.tup [.bool true, e.1, e.2.1]) (H.set it (.iter m clock (seen ++ [e.2.2])))
      else False
    | none => False
  | _ => False

def opWp (ih : Job → Prop) (op : IOp) (xs : List AV) (H : Heap) (K : AV → Heap → Prop) : Prop :=
  match kd op with
  | .pure => match pureOp op xs with
    | some v => K v H
    | none => False
  | .read => match readOp op xs H with
    | some v => K v H
    | none => False
  | .alloc => match allocOp op xs with
    | some (f, o) => K (f H.next) (H.push o)
    | none => False
  | .eff => match effOp op xs H with
    | some (v, H') => K v H'
    | none => False
  | .call => match xs with
    | .fn f fs cap :: args => ih (.call f (fs ++ args ++ cap) H K)
    | .yield l :: args => roundWp ih l args H K
    | _ => False
  | .next => match xs with
    | [.ptr it 0] => nextWp it H K
    | _ => False

def regWp (ih : Job → Prop) : List IOper → Env → Heap → (Env → Heap → Prop) → Prop
  | [], e, H, K => K e H
  | o :: r, e, H, K => match wants e o.guard with
    | some true => match evs e o.xs with
      | some xs => opWp ih o.op xs H fun v H' => regWp ih r (e.putO o.dst v) H' K
      | none => False
    | some false => regWp ih r (e.putO o.dst (.tup [])) H K
    | none => False

structure Watch where
  hi : Nat
  op : IOp
  xs : List AV
  v : AV

mutual
def AV.beq : AV → AV → Bool
  | .bool a, .bool b => a == b
  | .int k a, .int j b => decide (k = j) && decide (a = b)
  | .str a, .str b => a == b
  | .nilp, .nilp => true
  | .ptr a b, .ptr c d => Nat.beq a c && Nat.beq b d
  | .nils, .nils => true
  | .sl a b c d e, .sl a' b' c' d' e' => Nat.beq a a' && Nat.beq b b' && Nat.beq c c' && decide (d = d') && Nat.beq e e'
  | .nilm, .nilm => true
  | .map a, .map b => Nat.beq a b
  | .nilf, .nilf => true
  | .fn f a c, .fn g b d => Nat.beq f g && AV.beqs a b && AV.beqs c d
  | .yield a, .yield b => Nat.beq a b
  | .nili, .nili => true
  | .agg a, .agg b => AV.beqs a b
  | .tup a, .tup b => AV.beqs a b
  | _, _ => false
def AV.beqs : List AV → List AV → Bool
  | [], [] => true
  | a :: r, b :: s => AV.beq a b && AV.beqs r s
  | _, _ => false
end

/-- is what was read still there? (behind the k-th effect) -/
def watched (k : Nat) (H : Heap) : List Watch → Bool
  | [] => true
  | w :: r => (if w.hi < k then true else match readOp w.op w.xs H with
      | some v => v.beq w.v
      | none => false) && watched k H r

def flush (H : Heap) : List (Nat × AObj) → Heap
  | [] => H
  | (b, o) :: r => (flush H r).set b o

def dregWp (ih : Job → Prop) (base : Nat) : List DOp → Env → Heap → List (Nat × AObj) → List Watch → (Env → Heap → Prop) → Prop
  | [], e, H, q, _, K => K e (flush H q)
  | d :: r, e, H, q, ws, K => match wants e d.o.guard with
    | some true => match evs e d.o.xs with
      | some xs => match d.k with
        | .pure => match pureOp d.o.op xs with
          | some v => dregWp ih base r (e.putO d.o.dst v) H q ws K
          | none => False
        | .read hi => match readOp d.o.op xs H with
          | some v => dregWp ih base r (e.putO d.o.dst v) H q (⟨hi, d.o.op, xs, v⟩ :: ws) K
          | none => False
        | .alloc j => match allocOp d.o.op xs with
          | some (f, o) => dregWp ih base r (e.putO d.o.dst (f (base + j))) H ((base + j, o) :: q) ws K
          | none => False
        | .eff num _ => opWp ih d.o.op xs (flush H q) fun v H' => match watched num H' ws with
          | true => dregWp ih base r (e.putO d.o.dst v) H' [] ws K
          | false => False
      | none => False
    | some false => dregWp ih base r (e.putO d.o.dst (.tup [])) H q ws K
    | none => False

def codeWp (ih : Job → Prop) (c : ICode) (e : Env) (H : Heap) (Q : Out → Env → Heap → Prop) : Prop :=
  match c with
  | .skip => Q .normal e H
  | .reg ops live => regWp ih ops e H fun e H => Q .normal (e.keep live) H
  | .dreg ops na live => dregWp ih H.next ops e ⟨H.next + na, H.mem⟩ [] [] fun e H => Q .normal (e.keep live) H
  | .seq a b => ih (.code a e H fun x e H => match x with
    | .normal => ih (.code b e H Q)
    | x => Q x e H)
  | .cond o a b => match ev e o with
    | some (.bool true) => ih (.code a e H Q)
    | some (.bool false) => ih (.code b e H Q)
    | _ => False
  | .block id b => ih (.code b e H fun x e H => match x with
    | .exit j => match Nat.beq j id with
      | true => Q .normal e H
      | false => Q (.exit j) e H
    | x => Q x e H)
  | .loop b => ih (.code b e H fun x e H => match x with
    | .normal => ih (.code (.loop b) e H Q)
    | x => Q x e H)
  | .exit id => Q (.exit id) e H
  | .ret => Q .ret e H
  | .rangeFunc f ps assign body => match ev e f with
    | some (.fn g fs cap) => ih (.call g (fs ++ [.yield H.next] ++ cap) (H.push (.loop e ps assign body .ready none)) fun _ H2 =>
      match H2.get H.next with
      | some (.loop _ _ _ _ .busy _) => False
      | some (.loop _ _ _ _ _ pend) => Q (pend.getD .normal) e (H2.kill H.next)
      | _ => False)
    | _ => False

def jobWp (T : Nat → Option FSpec) (ih : Job → Prop) : Job → Prop
  | .code c e H Q => codeWp ih c e H Q
  | .call f args H K => match T f with
    | some (.code fn) => match Nat.ble args.length fn.nt with
      | true => ih (.code fn.body (paramEnv 0 args) H fun x e H' => match x with
        | .exit _ => False
        | _ => match resultsA e H' fn.results with
          | some v => K v H'
          | none => False)
      | false => False
    | some (.spec S) => S args H K
    | none => False

/-- What the code does, to a depth. -/
noncomputable def wp (T : Nat → Option FSpec) (n : Nat) : Job → Prop :=
  Nat.rec (fun _ => False) (fun _ ih j => jobWp T ih j) n

theorem wp_succ (T : Nat → Option FSpec) (n : Nat) (j : Job) : wp T (n + 1) j = jobWp T (wp T n) j := rfl
theorem wp_zero (T : Nat → Option FSpec) (j : Job) : wp T 0 j = False := rfl

end Go.AE
