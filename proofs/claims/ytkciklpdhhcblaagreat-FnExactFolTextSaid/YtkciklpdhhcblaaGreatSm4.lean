import Derived.Test.YtkciklpdhhcblaaGreatSm3
/-
  The weakest precondition over environments: the operations that only make a value ('pur').
-/
namespace Go.Sm
open Go.RowKit

/-- What is known of a type. -/
structure TI where
  ok : Bool := false
  desc : TypeDesc := .invalid
  sz : Nat := 0
  by_ : Nat := 0
  zv : Value := .tuple #[]
  z : List Lf := []
  ms : List Md := []
  eqb : Bool := false
instance : Inhabited TI := ⟨{}⟩
abbrev TT := Nat → TI

def TI.agg (t : TI) : Bool := match t.desc with | .struct _ => true | _ => false
def TI.elt (t : TI) : Option Nat := match t.desc with | .slice e => some e | _ => none
def TI.isStr (t : TI) : Bool := match t.desc with | .string => true | _ => false
def TI.isBool (t : TI) : Bool := match t.desc with | .bool => true | _ => false
def TI.int? (t : TI) : Option IntKind := match t.desc with | .int k => some k | _ => none
def TI.fld (t : TI) (k : Nat) : Option (Nat × Nat) := match t.desc with | .struct fs => (fs[k]?).map (fun f => (f.offset, f.type)) | _ => none
def zval : Lf → Value
  | .sc v => v
  | .ls _ _ => .slice none 0 0
def scal : Value → Bool
  | .int _ _ | .bool _ | .string _ => true
  | _ => false
structure TI.good (P : Program) (t : Nat) (i : TI) : Prop where
  info : (P.info? t).map (fun x => (x.size, x.bytes, x.zero)) = some (i.sz, i.by_, some i.zv)
  und : P.underlying t = some i.desc
  zc : i.zv.cells.toList = i.z.map zval
  zl : i.z.length = i.sz
  zf : ∀ l ∈ i.z, (∃ v, l = .sc v ∧ scal v = true) ∨ ∃ zz, l = .ls zz []
  pos : 0 < i.sz
  posb : 0 < i.by_
  ag : i.agg = true → ∃ cs, i.zv = .agg cs
  na : i.agg = false → i.sz = 1 ∧ i.zv.oneCell' = true ∧ ∀ n e, i.desc ≠ .array n e
  fs : ∀ k o u, i.fld k = some (o, u) → ∃ n, (P.info? u).map (·.size) = some n ∧ n ≠ 0
/-! structs that are compared -/
def sameK : List Lf → List Value → Prop
  | [], [] => True
  | .sc (.int k _) :: z, .int k' _ :: xs => k' = k ∧ sameK z xs
  | .sc (.string _) :: z, .string _ :: xs => sameK z xs
  | .sc (.bool _) :: z, .bool _ :: xs => sameK z xs
  | _, _ => False
def eqV : List Value → List Value → Bool
  | [], [] => true
  | .int _ a :: xs, .int _ b :: ys => a == b && eqV xs ys
  | .string a :: xs, .string b :: ys => a.toList == b.toList && eqV xs ys
  | .bool a :: xs, .bool b :: ys => a == b && eqV xs ys
  | _, _ => false
def eqAt (P : Program) (i : TI) (t : Nat) (n : Nat) : Prop := ∀ (d : Nat) (w : World) (xs ys : List Value), sameK i.z xs → sameK i.z ys →
  (Op.equalIn (d + n) t (mkV i.agg xs) (mkV i.agg ys)).run P w = .ok (eqV xs ys) w
structure TGood (P : Program) (ti : TT) : Prop where
  g : ∀ t, (ti t).ok = true → (ti t).good P t
  e : ∀ t, (ti t).eqb = true → eqAt P (ti t) t 5000 ∧ P.eqGuardType P.depth t = false
instance (P : Program) (ti : TT) : CoeFun (TGood P ti) (fun _ => ∀ t, (ti t).ok = true → (ti t).good P t) := ⟨TGood.g⟩

/-! ### places in an environment -/
def Env.at_ (E : Env) : List Nat → Option (Md × Lf)
  | r :: rest => (lkp E.rt r).bind (getL rest)
  | _ => none
def Env.vld (E : Env) : List Nat → Prop
  | r :: rest => match lkp E.rt r with
    | some x => vldL rest x
    | none => False
  | _ => False

def bool (b : Bool) : SV := .v false [.s (.sc (.bool b))]
def int (k : IntKind) (n : Int) : SV := .v false [.s (.sc (.int k n))]
def str (s : ByteArray) : SV := .v false [.s (.sc (.string s))]
def list (z : List Lf) (rows : List (List Lf)) : SV := .v false [.s (.ls z rows)]

/-- A cell of a slice of the call's own, as a value in a slot. -/
def toLV (p : List Nat) (i j : Nat) : Md → Lf → LV
  | .s, l => .s l
  | .x, _ => .u
  | .o _ _, _ => .r (p ++ [i, j])

def cLV : Lf → Value → Option LV
  | .ls zz _, .slice none 0 0 => some (.n zz)
  | _, v => if scal v then some (.s (.sc v)) else none
def cLVs : List Lf → List Value → Option (List LV)
  | [], [] => some []
  | z :: zs, v :: vs => match cLV z v, cLVs zs vs with
    | some x, some xs => some (x :: xs)
    | _, _ => none
  | _, _ => none
def cSV (ti : TT) (T : Nat) : Value → Option SV
  | .agg cs => if (ti T).ok then (cLVs (ti T).z cs.toList).map (.v true) else none
  | .slice none 0 0 => match (ti T).elt with
    | some e => some (.v false [.n (ti e).z])
    | none => none
  | v => if scal v then some (.v false [.s (.sc v)]) else none

def opd (ti : TT) (E : Env) (T : Nat) : Operand → Option SV
  | .tmp t => lkp E.sl t
  | .const v => cSV ti T v
  | .func k => some (.fn k [])
  | .global _ => none

/-- The reading of one cell as a tree, where nothing of it is unknown. -/
def Env.lf (E : Env) : LV → Option Lf
  | .s l => some l
  | .n z => some (.ls z [])
  | .r p => (E.at_ p).map (·.2)
  | .u => none
/-- A slice's elements. -/
def Env.rows (E : Env) : LV → Option (List Lf × List (List Lf))
  | .s (.ls z rows) => some (z, rows)
  | .n z => some (z, [])
  | .r p => match E.at_ p with
    | some (.o _ _, .ls z rows) => some (z, rows)
    | _ => none
  | _ => none
def Env.vldLV (E : Env) : LV → Prop
  | .r p => E.vld p
  | _ => True

/-- Rows that are bytes. -/
def eByte (b : UInt8) : List Lf := [.sc (.int .u8 (b.toNat : Int))]
def rowByte : List Lf → UInt8
  | [.sc (.int _ n)] => UInt8.ofNat n.toNat
  | _ => 0
def isByteRow (row : List Lf) : Prop := ∃ b, row = eByte b
def Env.bytM (E : Env) : LV → Prop
  | .r p => match E.at_ p with
    | some (.o _ cols, _) => ∀ i, md cols i 0 = .s
    | _ => False
  | _ => True
def TI.isU8 (t : TI) : Bool := match t.desc with | .int .u8 => true | _ => false

def intBin (op : BinOp) (k : IntKind) (a b : Int) : Option (Prop × SV) :=
  match op with
  | .add => some (True, int k (k.wrap (a + b)))
  | .sub => some (True, int k (k.wrap (a - b)))
  | .mul => some (True, int k (k.wrap (a * b)))
  | .quo => some (b ≠ 0, int k (k.wrap (a.tdiv b)))
  | .rem => some (b ≠ 0, int k (a.tmod b))
  | .and => some (True, int k (k.wrap ((BitVec.ofInt k.bits a &&& BitVec.ofInt k.bits b).toNat : Int)))
  | .or => some (True, int k (k.wrap ((BitVec.ofInt k.bits a ||| BitVec.ofInt k.bits b).toNat : Int)))
  | .xor => some (True, int k (k.wrap ((BitVec.ofInt k.bits a ^^^ BitVec.ofInt k.bits b).toNat : Int)))
  | .eql => some (True, bool (a == b))
  | .neq => some (True, bool (a != b))
  | .lss => some (True, bool (decide (a < b)))
  | .leq => some (True, bool (decide (a ≤ b)))
  | .gtr => some (True, bool (decide (a > b)))
  | .geq => some (True, bool (decide (a ≥ b)))
  | _ => none
def shiftBin (op : BinOp) (k : IntKind) (a b : Int) : Option (Prop × SV) :=
  match op with
  | .shl => some (0 ≤ b, int k (k.wrap (a * 2 ^ min b.toNat k.bits)))
  | .shr => some (0 ≤ b, int k (a.fdiv (2 ^ min b.toNat k.bits)))
  | _ => none
def strBin (op : BinOp) (x y : ByteArray) : Option (Prop × SV) :=
  match op with
  | .add => some (x.size + y.size ≤ 9223372036854775807, str (x ++ y))
  | .eql => some (True, bool (x.toList == y.toList))
  | .neq => some (True, bool (!(x.toList == y.toList)))
  | .lss => some (True, bool (Op.bytesLess x.toList y.toList))
  | .leq => some (True, bool (Op.bytesLess x.toList y.toList || x.toList == y.toList))
  | .gtr => some (True, bool (!(Op.bytesLess x.toList y.toList || x.toList == y.toList)))
  | .geq => some (True, bool (!Op.bytesLess x.toList y.toList))
  | _ => none
def boolBin (op : BinOp) (x y : Bool) : Option (Prop × SV) :=
  match op with
  | .eql => some (True, bool (x == y))
  | .neq => some (True, bool (!(x == y)))
  | _ => none
def binSV (op : BinOp) (x y : SV) : Option (Prop × SV) :=
  match op, x, y with
  | .shl, .v false [.s (.sc (.int k a))], .v false [.s (.sc (.int _ b))] => shiftBin .shl k a b
  | .shr, .v false [.s (.sc (.int k a))], .v false [.s (.sc (.int _ b))] => shiftBin .shr k a b
  | op, .v false [.s (.sc (.int k a))], .v false [.s (.sc (.int k' b))] => if k = k' then intBin op k a b else none
  | op, .v false [.s (.sc (.string a))], .v false [.s (.sc (.string b))] => strBin op a b
  | _, _, _ => none

def eqC : List Lf → List LV → List LV → Option Bool
  | [], [], [] => some true
  | .sc (.int k _) :: z, .s (.sc (.int k1 a)) :: xs, .s (.sc (.int k2 b)) :: ys => match eqC z xs ys with
    | some r => if k1 = k ∧ k2 = k then some (a == b && r) else none
    | none => none
  | .sc (.string _) :: z, .s (.sc (.string a)) :: xs, .s (.sc (.string b)) :: ys => match eqC z xs ys with
    | some r => some (a.toList == b.toList && r)
    | none => none
  | .sc (.bool _) :: z, .s (.sc (.bool a)) :: xs, .s (.sc (.bool b)) :: ys => match eqC z xs ys with
    | some r => some (a == b && r)
    | none => none
  | _, _, _ => none
def eqSV (ti : TT) (op : BinOp) (t : Nat) : SV → SV → Option (Prop × SV)
  | .v true ls, .v true ls' => match eqC (ti t).z ls ls' with
    | some r => match op with
      | .eql => some ((ti t).ok = true ∧ (ti t).agg = true, bool r)
      | .neq => some ((ti t).ok = true ∧ (ti t).agg = true, bool (!r))
      | _ => none
    | none => none
  | _, _ => none

def bnd (n : Nat) : Option SV → Option (Prop × Nat)   -- an upper bound: what is asked, its number
  | none => some (True, n)
  | some (.v false [.s (.sc (.int _ i))]) => some (0 ≤ i ∧ i ≤ n, i.toNat)
  | some _ => none
def bndL (h : Nat) : Option SV → Option (Prop × Nat)
  | none => some (True, 0)
  | some (.v false [.s (.sc (.int _ i))]) => some (0 ≤ i ∧ i ≤ h, i.toNat)
  | some _ => none

def capsO (ti : TT) (E : Env) : List Operand → Option (List PV)
  | [] => some []
  | x :: r => match opd ti E 0 x, capsO ti E r with
    | some (.p q), some qs => some (q :: qs)
    | _, _ => none

def purFn (ti : TT) (E : Env) (f : Fn) (first caps : List Operand) : Option (Prop × SV) :=
  match f, first with
  | .func k, [] => match capsO ti E caps with
    | some qs => some (True, .fn k qs)
    | none => none
  | _, _ => none
def purCall (ti : TT) (E : Env) (ty : Nat) (f : Callee) (args : List Operand) (ats : List TypeId) : Option (Prop × SV) :=
  match f with
  | .builtin .len => match args, ats with
    | [x], [t] => match opd ti E t x with
      | some (.p (.vw _ _ _ n)) => some ((ti t).ok = true ∧ ((ti t).elt).isSome = true, int .i64 n)
      | some (.v false [.s (.sc (.string s))]) => some ((ti t).ok = true ∧ (ti t).isStr = true, int .i64 s.size)
      | some (.v false [c]) => match E.rows c with
        | some (_, rows) => some ((ti t).ok = true ∧ ((ti t).elt).isSome = true ∧ E.vldLV c, int .i64 rows.length)
        | none => none
      | _ => none
    | _, _ => none
  | .builtin .min => match args with
    | [x, y] => match opd ti E ty x, opd ti E ty y with
      | some (.v false [.s (.sc (.int k a))]), some (.v false [.s (.sc (.int _ b))]) => some (True, int k (if b < a then b else a))
      | _, _ => none
    | _ => none
  | .builtin .max => match args with
    | [x, y] => match opd ti E ty x, opd ti E ty y with
      | some (.v false [.s (.sc (.int k a))]), some (.v false [.s (.sc (.int _ b))]) => some (True, int k (if b > a then b else a))
      | _, _ => none
    | _ => none
  | _ => none

def zLV : Lf → LV
  | .sc v => .s (.sc v)
  | .ls z _ => .n z
def setM {α : Type} : List α → Nat → List α → List α
  | l, _, [] => l
  | l, off, y :: r => setM (l.set off y) (off + 1) r
/-- Parts put into cells: where each begins, its type. -/
def bparts (ti : TT) (E : Env) (place : Nat → Option (Nat × Nat)) : List (Nat × Operand) → List LV → Option (Prop × List LV)
  | [], ls => some (True, ls)
  | (i, x) :: r, ls => match place i with
    | some (off, u) => match opd ti E u x with
      | some (.v _ new) => match bparts ti E place r (setM ls off new) with
        | some (C, l) => some (((ti u).ok = true ∧ new.length = (ti u).sz ∧ off + new.length ≤ ls.length) ∧ C, l)
        | none => none
      | _ => none
    | none => none

/-- The value that an operation makes, and what it asks for. -/
def pur (ti : TT) (E : Env) (o : Oper) : Option (Prop × SV) :=
  match o.op with
  | .move x => (opd ti E o.type x).map fun s => (True, s)
  | .assign x => (opd ti E o.type x).map fun s => (True, s)
  | .load t a => match opd ti E 0 a with
    | some (.p (.ps ds)) => some ((ti t).ok = true ∧ (ti t).sz ≤ ds.length, .v (ti t).agg ((ds.take (ti t).sz).map .s))
    | some (.p (.bx b off)) => match lkp E.bx b with
      | some ls => some ((ti t).ok = true ∧ off + (ti t).sz ≤ ls.length, .v (ti t).agg ((ls.drop off).take (ti t).sz))
      | none => none
    | some (.p (.pt p sz i off)) => match E.at_ p with
      | some (.o _ cols, .ls z rows) => some ((ti t).ok = true ∧ E.vld p ∧ i < rows.length ∧ off + (ti t).sz ≤ z.length ∧ z.length = sz,
          .v (ti t).agg ((List.range' off (ti t).sz).map fun j => toLV p i j (md cols i j) (lf z rows i j)))
      | _ => none
    | _ => none
  | .binOp op t x y _ => match opd ti E t x, opd ti E t y with
    | some a, some b => match (ti t).isBool with
      | true => match a, b with
        | .v false [.s (.sc (.bool u))], .v false [.s (.sc (.bool v))] => (boolBin op u v).map fun r => ((ti t).ok = true, r.2)
        | _, _ => none
      | false => match (ti t).eqb with
        | true => eqSV ti op t a b
        | false => binSV op a b
    | _, _ => none
  | .unOp .not _ x => match opd ti E 0 x with
    | some (.v false [.s (.sc (.bool b))]) => some (True, bool (!b))
    | _ => none
  | .unOp .neg t x => match opd ti E t x with
    | some (.v false [.s (.sc (.int k n))]) => some (True, int k (k.wrap (0 - n)))
    | _ => none
  | .fieldAddr t x f => match (ti t).fld f, opd ti E 0 x with
    | some (off, _), some (.p (.ps ds)) => some ((ti t).ok = true, .p (.ps (ds.drop off)))
    | some (off, _), some (.p (.bx b o)) => some ((ti t).ok = true, .p (.bx b (o + off)))
    | some (off, _), some (.p (.pt p sz i o)) => some ((ti t).ok = true, .p (.pt p sz i (o + off)))
    | _, _ => none
  | .field t x f => match (ti t).fld f, opd ti E t x with
    | some (off, u), some (.v true ls) => some ((ti t).ok = true ∧ (ti u).ok = true ∧ off + (ti u).sz ≤ ls.length, .v (ti u).agg ((ls.drop off).take (ti u).sz))
    | _, _ => none
  | .indexAddr t x ix => match (ti t).elt, opd ti E t x, opd ti E 0 ix with
    | some e, some (.v false [.s (.ls z rows)]), some (.v false [.s (.sc (.int _ i))]) =>
      some ((ti t).ok = true ∧ (ti e).ok = true ∧ (ti e).sz = z.length ∧ 0 ≤ i ∧ i < rows.length, .p (.ps (rows.getD i.toNat z)))
    | some e, some (.v false [.r p]), some (.v false [.s (.sc (.int _ i))]) => match E.at_ p with
      | some (.o _ _, .ls z rows) => some ((ti t).ok = true ∧ (ti e).ok = true ∧ (ti e).sz = z.length ∧ E.vld p ∧ 0 ≤ i ∧ i < rows.length, .p (.pt p z.length i.toNat 0))
      | _ => none
    | _, _, _ => none
  | .index t x ix => match opd ti E t x, opd ti E 0 ix with
    | some (.v false [.s (.sc (.string s))]), some (.v false [.s (.sc (.int _ i))]) => some ((ti t).ok = true ∧ (ti t).isStr = true ∧ 0 ≤ i ∧ i < s.size, int .u8 ((s.data.getD i.toNat 0).toNat : Int))
    | _, _ => none
  | .extract t ix => match opd ti E 0 t with
    | some (.tu parts) => match parts[ix]? with
      | some (a, ls) => some (True, .v a ls)
      | none => none
    | _ => none
  | .nilCheck x => match opd ti E 0 x with
    | some (.p (.vw _ _ _ _)) => none
    | some (.p q) => some (True, .p q)
    | some (.fn k caps) => some (True, .fn k caps)
    | _ => none
  | .slice t x lo hi none => match opd ti E t x with
    | some (.v false [.s (.sc (.string s))]) => match bnd s.size (hi.bind (opd ti E 0)) with
      | some (C, h) => match bndL h (lo.bind (opd ti E 0)) with
        | some (D, l) => some ((ti t).ok = true ∧ (ti t).isStr = true ∧ C ∧ D ∧ lo.isSome = (lo.bind (opd ti E 0)).isSome ∧ hi.isSome = (hi.bind (opd ti E 0)).isSome, str (s.extract l h))
        | none => none
      | none => none
    | some (.v false [.s (.ls z rows)]) => match bnd rows.length (hi.bind (opd ti E 0)), (ti t).elt with
      | some (C, h), some e => match bndL h (lo.bind (opd ti E 0)) with
        | some (D, l) => some ((ti t).ok = true ∧ (ti e).ok = true ∧ (ti e).sz = z.length ∧ C ∧ D ∧ lo.isSome = (lo.bind (opd ti E 0)).isSome ∧ hi.isSome = (hi.bind (opd ti E 0)).isSome, list z ((rows.take h).drop l))
        | none => none
      | _, _ => none
    | some (.v false [.r p]) => match E.at_ p with
      | some (.o _ _, .ls z rows) => match bnd rows.length (hi.bind (opd ti E 0)), (ti t).elt with
        | some (C, h), some e => match bndL h (lo.bind (opd ti E 0)) with
          | some (D, l) => some ((ti t).ok = true ∧ (ti e).ok = true ∧ (ti e).sz = z.length ∧ C ∧ D ∧ lo.isSome = (lo.bind (opd ti E 0)).isSome ∧ hi.isSome = (hi.bind (opd ti E 0)).isSome ∧ E.vld p, .p (.vw p z.length l (h - l)))
          | none => none
        | _, _ => none
      | _ => none
    | _ => none
  | .convert src dst x => match opd ti E src x, (ti dst).int?, (ti dst).isStr with
    | some (.v false [.s (.sc (.int _ n))]), some k, _ => some ((ti src).ok = true ∧ (ti dst).ok = true, int k (k.wrap n))
    | some (.v false [.s (.sc (.string s))]), _, true => some ((ti src).ok = true ∧ (ti dst).ok = true, str s)
    | some (.v false [c]), _, true => match E.rows c, (ti src).elt with
      | some (z, rows), some e => some ((ti src).ok = true ∧ (ti dst).ok = true ∧ (ti e).ok = true ∧ (ti e).isU8 = true ∧ z.length = 1 ∧ E.vldLV c ∧ E.bytM c ∧ ∀ row ∈ rows, isByteRow row, str ⟨(rows.map rowByte).toArray⟩)
      | _, _ => none
    | _, _, _ => none
  | .makeFunc f first caps => purFn ti E f first.toList caps.toList
  | .build t parts => match bparts ti E (ti t).fld parts.toList ((ti t).z.map zLV) with
    | some (C, l) => some ((ti t).ok = true ∧ (ti t).agg = true ∧ C, .v true l)
    | none => none
  | .call c => purCall ti E o.type c.callee c.args.toList c.argTypes.toList
  | _ => none
end Go.Sm
