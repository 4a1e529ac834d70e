/-
  How the model's code is read as the evaluator's; when an abstract state stands for a world. Definitions.
-/
import Derived.Test.YtoinombhonbibaaGreatDoorAeA
import Derived.Laws.Sem
set_option linter.unusedSimpArgs false
set_option linter.unusedVariables false
set_option linter.unusedSectionVars false
namespace Go.AE

/-! ### Constants and operands -/
def cCell : Value → Option AV
  | .bool b => some (.bool b)
  | .int k n => some (.int k n)
  | .string s => some (.str s.data.toList)
  | .pointer none => some .nilp
  | .slice none 0 0 => some .nils
  | .map none => some .nilm
  | .nilFunc => some .nilf
  | .nilIface => some .nili
  | _ => none

def cCells : List Value → Option (List AV)
  | [] => some []
  | v :: r => match cCell v with
    | some x => match cCells r with
      | some l => some (x :: l)
      | none => none
    | none => none

def cVal : Value → Option AV
  | .agg cs => match cCells cs.toList with
    | some l => some (.agg l)
    | none => none
  | .tuple vs => match cCells vs.toList with
    | some l => some (.tup l)
    | none => none
  | v => cCell v

def cOpd (P : Program) : Operand → Option Opd
  | .tmp t => some (.t t)
  | .const v => match cVal v with
    | some a => some (.c a)
    | none => none
  | .global g => if g < P.globals.size then some (.c (.ptr g 0)) else none
  | .func f => some (.c (.fn f [] []))

def cOpds (P : Program) : List Operand → Option (List Opd)
  | [] => some []
  | x :: r => match cOpd P x with
    | some a => match cOpds P r with
      | some l => some (a :: l)
      | none => none
    | none => none

/-! ### Types -/
def szOf (P : Program) (t : TypeId) : Option Nat := match P.info? t with
  | some i => some i.size
  | none => none

/-- how a variable of a type is loaded: so many cells, or one. -/
def ldK (P : Program) (t : TypeId) : Option (Option Nat) := match P.underlying t with
  | some (.struct _) | some (.array ..) => match szOf P t with
    | some n => some (some n)
    | none => none
  | some _ => some none
  | none => none

def zeroV (P : Program) (t : TypeId) : Option AV := match P.info? t with
  | some i => match i.zero with
    | some v => cVal v
    | none => none
  | none => none

def zeroCs (P : Program) (t : TypeId) : Option (List AV) := match P.info? t with
  | some i => match i.zero with
    | some v => cCells v.cells.toList
    | none => none
  | none => none

def places (P : Program) : List Field → Option (List (Nat × Nat))
  | [] => some []
  | f :: r => match szOf P f.type with
    | some s => match places P r with
      | some l => some ((f.offset, s) :: l)
      | none => none
    | none => none

def flatGo (P : Program) (rec : TypeId → Option (List CK)) : List Field → Nat → Option (List CK)
  | [], _ => some []
  | f :: r, off => if f.name = "_" || f.offset ≠ off then none else
    match rec f.type with
    | some ks => if 0 < ks.length ∧ szOf P f.type = some ks.length then match flatGo P rec r (off + ks.length) with
        | some l => some (ks ++ l)
        | none => none
      else none
    | none => none

/-- the kinds of a type's cells, where it is compared cell by cell. -/
def flatK (P : Program) : Nat → TypeId → Option (List CK)
  | 0, _ => none
  | d + 1, t => match P.underlying t with
    | some .bool => some [.bool]
    | some (.int k) => some [.int k]
    | some .string => some [.str]
    | some (.array n e) => match flatK P d e with
      | some ks => if 0 < ks.length ∧ szOf P e = some ks.length then some (List.replicate n ks).flatten else none
      | none => none
    | some (.struct fs) => if P.stoodInHeld t then none else flatGo P (fun u => flatK P d u) fs.toList 0
    | _ => none

def cKey (P : Program) (t : TypeId) : Option KK := match P.underlying t with
  | some .bool => some (.one .bool)
  | some (.int k) => some (.one (.int k))
  | some .string => some (.one .str)
  | some (.struct _) | some (.array ..) => match flatK P 8 t with
    | some ks => some (.agg ks)
    | none => none
  | _ => none

def cEq (P : Program) (neg : Bool) (t : TypeId) : Option IOp := match P.underlying t with
  | some .bool => some (.eq neg .bool)
  | some (.int _) | some .string => some (.bin (if neg then .neq else .eql))
  | some (.pointer _) => some (.eq neg .ptr)
  | some (.slice _) => some (.eq neg .slice)
  | some (.map ..) => some (.eq neg .map)
  | some (.func ..) => some (.eq neg .func)
  | some (.struct _) | some (.array ..) => match flatK P 8 t with
    | some ks => if P.eqGuardType P.depth t then none else some (.eq neg (.flat ks))
    | none => none
  | _ => none

/-! ### Operations -/
def partPlaces (P : Program) (t : TypeId) (parts : List (Nat × Operand)) : Option (List (Nat × Nat)) := match P.underlying t with
  | some (.struct fs) => match places P fs.toList with
    | some pl => parts.mapM fun p => pl[p.1]?
    | none => none
  | some (.array _ e) => match szOf P e with
    | some s => some (parts.map fun p => (p.1 * s, s))
    | none => none
  | _ => none

def two (o : Option IOp) (xs : List Operand) : Option (IOp × List Operand) := match o with
  | some o => some (o, xs)
  | none => none

def cBuiltin (P : Program) (b : Builtin) (ts : List TypeId) (xs : List Operand) : Option (IOp × List Operand) :=
  match b, ts with
  | .len, t :: _ => match P.underlying t with
    | some .string => some (.len .str, xs)
    | some (.slice _) => some (.len .sl, xs)
    | some (.map ..) => some (.len .map, xs)
    | some (.array n _) => some (.len (.const n), xs)
    | some (.pointer a) => match P.underlying a with
      | some (.array n _) => some (.len (.const n), xs)
      | _ => none
    | _ => none
  | .cap, t :: _ => match P.underlying t with
    | some (.slice _) => some (.cap, xs)
    | _ => none
  | .max, _ => some (.max, xs)
  | .min, _ => some (.min, xs)
  | .append, [t, u] => match P.underlying t, P.underlying u with
    | some (.slice e), some du => match P.info? e, zeroCs P e with
      | some i, some z => if i.size = 0 ∨ z.length ≠ i.size ∨ i.bytes = 0 ∨ 2 ^ 20 < i.bytes then none else
        (match du with
        | .int _ => some (.append e i.size i.bytes z true, xs)
        | .slice _ | .string => some (.append e i.size i.bytes z false, xs)
        | _ => none)
      | _, _ => none
    | _, _ => none
  | .copy, t :: _ => match P.underlying t with
    | some (.slice e) => match szOf P e with
      | some s => some (.copy s, xs)
      | none => none
    | _ => none
  | .delete, t :: _ => match P.underlying t with
    | some (.map k _) => match cKey P k with
      | some kk => some (.delete kk, xs)
      | none => none
    | _ => none
  | .clear, t :: _ => match P.underlying t with
    | some (.slice e) => match P.info? e, zeroCs P e with
      | some i, some z => if z.length ≠ i.size ∨ i.size = 0 then none else some (.clearSl z, xs)
      | _, _ => none
    | _ => none
  | _, _ => none

def cOp (P : Program) (o : Go.Op) : Option (IOp × List Operand) :=
  match o with
  | .move x | .assign x => some (.move, [x])
  | .pick c a b => some (.pick, [c, a, b])
  | .alloc e => match zeroCs P e with
    | some z => some (.alloc z, [])
    | none => none
  | .box _ x => some (.box, [x])
  | .build t parts => match zeroCs P t, partPlaces P t parts.toList with
    | some z, some pl => some (.build z pl, parts.toList.map (·.2))
    | _, _ => none
  | .buildSlice t n parts => match P.underlying t with
    | some (.slice e) => match P.info? e, zeroCs P e with
      | some i, some z => if i.size = 0 ∨ z.length ≠ i.size ∨ 2 ^ 20 < n * i.size ∨ 2 ^ 40 < n * i.bytes then none else
        some (.buildSlice e n z (parts.toList.map fun p => (p.1 * i.size, i.size)), parts.toList.map (·.2))
      | _, _ => none
    | _ => none
  | .load t a => match ldK P t with
    | some k => some (.load k, [a])
    | none => none
  | .store t a v => match szOf P t with
    | some n => some (.store n, [a, v])
    | none => none
  | .nilCheck x => some (.nilCheck, [x])
  | .binOp .eql t x y _ => two (cEq P false t) [x, y]
  | .binOp .neq t x y _ => two (cEq P true t) [x, y]
  | .binOp op _ x y _ => some (.bin op, [x, y])
  | .unOp op _ x => some (.un op, [x])
  | .convert s d x => match P.underlying s, P.underlying d with
    | some _, some (.int k) => some (.cvInt k, [x])
    | some .string, some .string => some (.cvNop, [x])
    | some (.slice e), some .string => match P.underlying e with
      | some (.int .u8) => if szOf P e = some 1 then some (.cvBS, [x]) else none
      | _ => none
    | some .string, some (.slice e) => match P.underlying e, P.info? e with
      | some (.int .u8), some i => if i.size = 1 ∧ i.bytes = 1 then some (.cvSB e, [x]) else none
      | _, _ => none
    | some (.slice _), some (.slice e) => match P.underlying e, P.info? e with
      | some (.int .u8), some i => if i.size = 1 ∧ i.bytes = 1 ∧ s = d then some (.cvSS e, [x]) else none
      | _, _ => none
    | _, _ => none
  | .sliceToArrayPointer t x => match P.underlying t with
    | some (.array n _) => some (.s2a n, [x])
    | _ => none
  | .makeFunc (.func f) first captured => some (.mkFunc f first.size, first.toList ++ captured.toList)
  | .makeMap _ none => some (.mkMap, [])
  | .makeSlice t l c => match P.underlying t with
    | some (.slice e) => match P.info? e, zeroCs P e with
      | some i, some z => if z.length ≠ i.size ∨ i.size = 0 ∨ i.bytes = 0 ∨ 2 ^ 20 < i.bytes then none else some (.mkSlice e i.bytes z, [l, c])
      | _, _ => none
    | _ => none
  | .slice t x lo hi mx =>
    let xs := [x] ++ lo.toList ++ hi.toList ++ mx.toList
    match P.underlying t with
    | some .string => some (.slice .str lo.isSome hi.isSome mx.isSome, xs)
    | some (.slice e) => match szOf P e with
      | some s => some (.slice (.sl s e) lo.isSome hi.isSome mx.isSome, xs)
      | none => none
    | some (.array n e) => match P.info? e with
      | some i => if 2 ^ 40 < n * i.bytes then none else some (.slice (.arr n i.size e) lo.isSome hi.isSome mx.isSome, xs)
      | none => none
    | some (.pointer a) => match P.underlying a with
      | some (.array n e) => match P.info? e with
        | some i => if 2 ^ 40 < n * i.bytes then none else some (.slice (.arr n i.size e) lo.isSome hi.isSome mx.isSome, xs)
        | none => none
      | _ => none
    | _ => none
  | .fieldAddr t x i => match P.underlying t with
    | some (.struct fs) => match fs[i]? with
      | some f => match szOf P f.type with
        | some s => if s = 0 then none else some (.fieldAddr f.offset, [x])
        | none => none
      | none => none
    | _ => none
  | .field t x i => match P.underlying t with
    | some (.struct fs) => match fs[i]? with
      | some f => match ldK P f.type with
        | some k => some (.field f.offset k, [x])
        | none => none
      | none => none
    | _ => none
  | .indexAddr t x i => match P.underlying t with
    | some (.array n e) => match szOf P e with
      | some s => some (.idxArr n s, [x, i])
      | none => none
    | some (.slice e) => match szOf P e with
      | some s => some (.idxSl s, [x, i])
      | none => none
    | _ => none
  | .index t x i => match P.underlying t with
    | some (.array n e) => match ldK P e, szOf P e with
      | some k, some s => some (.idxVal n s k.isSome, [x, i])
      | _, _ => none
    | some .string => some (.idxStr, [x, i])
    | _ => none
  | .lookup t x i ok => match P.underlying t with
    | some (.map k e) => match cKey P k, zeroV P e with
      | some kk, some z => some (.lookup kk z ok, [x, i])
      | _, _ => none
    | _ => none
  | .mapUpdate t m k v => match P.underlying t with
    | some (.map kt _) => match cKey P kt with
      | some kk => some (.mapUpdate kk, [m, k, v])
      | none => none
    | _ => none
  | .mapEntry t m k => match P.underlying t with
    | some (.map kt e) => match cKey P kt, zeroV P e with
      | some kk, some z => some (.mapEntry kk z, [m, k])
      | _, _ => none
    | _ => none
  | .entryStore _ m s v => some (.entryStore, [m, s, v])
  | .range t x => match P.underlying t with
    | some (.map ..) => some (.range, [x])
    | _ => none
  | .makeInterface .. | .panic _ => some (.bad, [])
  | .next it false => some (.next, [it])
  | .entry it => some (.entry, [it])
  | .extract x i => some (.extract i, [x])
  | .call c => match c.callee with
    | .value f => some (.call, f :: c.args.toList)
    | .builtin b => cBuiltin P b c.argTypes.toList c.args.toList
    | _ => none
  | _ => none

def cGuard (ops : Array Oper) : Option (Nat × Bool) → Option (Option (Nat × Bool))
  | none => some none
  | some (j, b) => match ops[j]? with
    | some o => match o.dst with
      | some t => some (some (t, b))
      | none => none
    | none => none

def cDst (N : Nat) : Option Tmp → Bool
  | none => true
  | some d => decide (d < N)

def cOper (P : Program) (N : Nat) (ops : Array Oper) (o : Oper) : Option IOper :=
  match cOp P o.op, cGuard ops o.guard, cDst N o.dst with
  | some (op, xs), some g, true => match cOpds P xs with
    | some ys => some ⟨o.dst, op, ys, g⟩
    | none => none
  | _, _, _ => none

def cOpers (P : Program) (N : Nat) (ops : Array Oper) : List Oper → Option (List IOper)
  | [] => some []
  | o :: r => match cOper P N ops o with
    | some a => match cOpers P N ops r with
      | some l => some (a :: l)
      | none => none
    | none => none

/-! ### Regions that draw their order: the order in which they are evaluated is handed in; what makes any other order alike is checked. -/
def preOf (o : Oper) : List Nat := (o.after.toList.filter fun e => Region.binds .any e).map (·.on)

/-- which operations lie before one: a bit each. -/
def ancOf (done : List (Nat × Nat)) (pre : List Nat) : Nat :=
  pre.foldl (fun s j => s ||| 2 ^ j ||| (match done.find? (fun p => Nat.beq p.1 j) with | some p => p.2 | none => 0)) 0

def usesOf (o : IOper) : List Nat :=
  (o.xs.filterMap fun | .t n => some n | .c _ => none) ++ (match o.guard with | some (g, _) => [g] | none => [])

/-- a stands ahead of b in the order of evaluation, b hangs not from a: may b be run ahead of a? -/
def indep (a b : DOp) : Bool :=
  (match a.o.dst with
    | some d => !(usesOf b.o).contains d && (match b.o.dst with | some e => !Nat.beq d e | none => true)
    | none => true) &&
  (match b.o.dst with
    | some d => !(usesOf a.o).contains d
    | none => true) &&
  (match a.k, b.k with
    | .eff _ _, .eff _ _ => false
    | .eff _ hi, .alloc j => Nat.ble hi j
    | .eff _ _, .read _ => false
    | .eff _ _, .pure => true
    | .alloc _, .eff _ _ => false
    | .read h, .eff num _ => Nat.ble num h
    | .pure, .eff _ _ => true
    | .alloc i, .alloc j => !Nat.beq i j
    | _, _ => true)

def depsOk : List (Nat × DOp) → Bool
  | [] => true
  | a :: r => r.all (fun b => b.1.testBit a.2.idx || indep a.2 b.2) && depsOk r

structure Pl where
  idx : Nat
  anc : Nat
  pre : List Nat
  o : IOper

def cDops (P : Program) (N : Nat) (ops : Array Oper) : List Nat → List (Nat × Nat) → Option (List Pl)
  | [], _ => some []
  | i :: r, done => match ops[i]? with
    | some o => match cOper P N ops o with
      | some x =>
        let pre := preOf o
        if pre.all (fun j => done.any fun p => Nat.beq p.1 j) && !(done.any fun p => Nat.beq p.1 i) then
          let anc := ancOf done pre
          match cDops P N ops r ((i, anc) :: done) with
          | some l => some (⟨i, anc, pre, x⟩ :: l)
          | none => none
        else none
      | none => none
    | none => none

/-- numbers for the allocations and the effects; how far each read may be delayed. -/
def kinds (ea : List Nat) : List Pl → Nat → Nat → List (Nat × DOp)
  | [], _, _ => []
  | p :: r, j, n => match kd p.o.op with
    | .pure => (p.anc, ⟨p.idx, p.pre, .pure, p.o⟩) :: kinds ea r j n
    | .read => (p.anc, ⟨p.idx, p.pre, .read ((ea.filter fun q => !q.testBit p.idx).length), p.o⟩) :: kinds ea r j n
    | .alloc => (p.anc, ⟨p.idx, p.pre, .alloc j, p.o⟩) :: kinds ea r (j + 1) n
    | _ => (p.anc, ⟨p.idx, p.pre, .eff (n + 1) j, p.o⟩) :: kinds ea r j (n + 1)

def isEff : IOp → Bool
  | op => match kd op with
    | .eff | .call | .next => true
    | _ => false

def isAlloc : IOp → Bool
  | op => match kd op with
    | .alloc => true
    | _ => false

def cDraw (P : Program) (N : Nat) (ops : Array Oper) (perm : List Nat) : Option (List DOp × Nat) :=
  match cDops P N ops perm [] with
  | some l =>
    let z := kinds ((l.filter fun p => isEff p.o.op).map (·.anc)) l 0 0
    if Nat.beq perm.length ops.size && (List.range ops.size).all (fun i => perm.any (Nat.beq i)) && depsOk z then
      some (z.map (·.2), (l.filter fun p => isAlloc p.o.op).length)
    else none
  | none => none

structure Ann where
  live : Nat → List Nat
  perm : Nat → List Nat

def cCode (P : Program) (N : Nat) (A : Ann) (inRound : Bool) : Code → Option ICode
  | .skip => some .skip
  | .region id ops true => match cDraw P N ops (A.perm id) with
    | some (l, na) => some (.dreg l na (A.live id))
    | none => none
  | .region id ops false => match cOpers P N ops ops.toList with
    | some l => some (.reg l (A.live id))
    | none => none
  | .seq a b => match cCode P N A inRound a, cCode P N A inRound b with
    | some x, some y => some (.seq x y)
    | _, _ => none
  | .cond c a b => match cOpd P c, cCode P N A inRound a, cCode P N A inRound b with
    | some o, some x, some y => some (.cond o x y)
    | _, _, _ => none
  | .block id b => match cCode P N A inRound b with
    | some x => some (.block id x)
    | none => none
  | .loop b => match cCode P N A inRound b with
    | some x => some (.loop x)
    | none => none
  | .exit id => some (.exit id)
  | .ret => some .ret
  | .rangeFunc f ps assign body => if inRound then none else
    match cOpd P f, cCode P N A true assign, cCode P N A true body, ps.toList.all (fun p => decide (p < N)) with
    | some o, some x, some y, true => some (.rangeFunc o ps.toList x y)
    | _, _, _, _ => none
  | _ => none

def cRes (P : Program) : ResultVar → Option ResV
  | .tmp t => some (.t t)
  | .cell a t => match ldK P t with
    | some k => some (.c a k)
    | none => none

def cFunc (P : Program) (A : Ann) (fn : Func) : Option IFunc := match fn.body with
  | some c => match cCode P fn.ntmps A false c, fn.results.toList.mapM (cRes P) with
    | some b, some r => some ⟨fn.ntmps, r, b⟩
    | _, _ => none
  | none => none

end Go.AE
