/- The abstract executor: its data, its states, and what each operation does to them. Definitions alone. -/
import Derived.Orders
import Derived.Below
import Derived.Laws.StructEq
namespace Go.AX

/-- A datum, read out of memory as deep as it goes: a slice is the list of its elements, an element the list of its cells. -/
inductive D where
  | int (k : IntKind) (n : Int)
  | bool (b : Bool)
  | str (s : ByteArray)
  | sl (es : List (List D))

/-- What a temporary may hold. -/
inductive A where
  | d (x : D)
  | es
  | os (id n : Nat)
  | ptr (id off : Nat)
  | pe (id i sz off : Nat)
  | dp (cs : List D)
  | fn (f : FuncId) (cap : List A)
  | agg (cs : List A)
  | tup (vs : List A)
  | undef
  | junk

/-- An object of the call's own. -/
inductive O where
  | gone
  | dead
  | box (t : TypeId) (cs : List A)
  | arr (t : TypeId) (own : Bool) (es : List (List D))
  | frz (es : List (List D))

structure St where
  n : Nat
  t : Nat → A
  h : Nat → O

def upd {α : Type} (f : Nat → α) (i : Nat) (v : α) : Nat → α := fun j => if j = i then v else f j

/-! ### types -/
def szT (P : Program) (t : TypeId) : Nat := P.cellsOf t
def bytesT (P : Program) (t : TypeId) : Nat := P.bytesOf t
def aggT (P : Program) (t : TypeId) : Bool := match P.underlying t with | some (.struct _) | some (.array _ _) => true | _ => false
def fldT (P : Program) (s : TypeId) (f : Nat) : Option (Nat × TypeId) := match P.underlying s with | some (.struct fs) => (fs[f]?).map fun x => (x.offset, x.type) | _ => none
def elT (P : Program) (t : TypeId) : Option TypeId := match P.underlying t with | some (.slice e) => some e | _ => none
def ofLeaf : Value → A
  | .int k n => .d (.int k n)
  | .bool b => .d (.bool b)
  | .string s => .d (.str s)
  | .slice none 0 0 => .es
  | _ => .junk
def ofV : Value → A
  | .agg cs => .agg (cs.toList.map ofLeaf)
  | v => ofLeaf v
def zeroT (P : Program) (t : TypeId) : Option (List A) := ((P.info? t).bind (·.zero)).map fun v => v.cells.toList.map ofLeaf

def val (st : St) : Operand → A
  | .tmp t => st.t t
  | .const v => ofV v
  | .func f => .fn f []
  | .global _ => .junk

def leafs : A → Option (List A)
  | .agg cs => some cs
  | .tup _ => none
  | .junk => none
  | a => some [a]
def pack (P : Program) (t : TypeId) (cs : List A) : A := if aggT P t then .agg cs else cs.headD .junk

/-! ### memory -/
def notSl : D → Bool
  | .sl _ => false
  | _ => true
def rd (h : Nat → O) (n : Nat) : A → Option (List A)
  | .ptr id off => match h id with
    | .box _ cs => if off + n ≤ cs.length then some ((cs.drop off).take n) else none
    | _ => none
  | .pe id i sz off => match h id with
    | .arr _ own es => match es[i]? with
      | some cs => if cs.length = sz ∧ off + n ≤ sz ∧ (own = true → ((cs.drop off).take n).all notSl = true) then some (((cs.drop off).take n).map .d) else none
      | none => none
    | .frz es => match es[i]? with
      | some cs => if cs.length = sz ∧ off + n ≤ sz then some (((cs.drop off).take n).map .d) else none
      | none => none
    | _ => none
  | .dp cs => if n ≤ cs.length then some ((cs.take n).map .d) else none
  | _ => none

def putAt {α : Type} (cs : List α) (off : Nat) (vs : List α) : List α := cs.take off ++ vs ++ cs.drop (off + vs.length)

/-- A value's cells as data that an array takes in: rows of the call's own go over into it. The bool: nothing of it is shared. -/
def sink (h : Nat → O) : List A → Option (List D × Bool × (Nat → O))
  | [] => some ([], true, h)
  | a :: as =>
    match (match a with
      | .d (.sl es) => some (D.sl es, false, h)
      | .d x => some (x, true, h)
      | .es => some (D.sl [], true, h)
      | .os id n => match h id with
        | .arr _ own es => if n ≤ es.length then some (D.sl (es.take n), own, upd h id .dead) else none
        | .frz es => if n ≤ es.length then some (D.sl (es.take n), false, h) else none
        | _ => none
      | _ => none : Option (D × Bool × (Nat → O))) with
    | some (x, o, h1) => match sink h1 as with
      | some (xs, o', h2) => some (x :: xs, o && o', h2)
      | none => none
    | none => none

def wr (h : Nat → O) (vs : List A) : A → Option (Nat → O)
  | .ptr id off => match h id with
    | .box t cs => if off + vs.length ≤ cs.length then some (upd h id (.box t (putAt cs off vs))) else none
    | _ => none
  | .pe id i sz off => match sink h vs with
    | some (xs, o, h1) => match h1 id with
      | .arr t own es => match es[i]? with
        | some cs => if cs.length = sz ∧ off + xs.length ≤ sz then some (upd h1 id (.arr t (own && o) (es.set i (putAt cs off xs)))) else none
        | none => none
      | _ => none
    | none => none
  | _ => none

/-! ### operations that only compute -/
def eqF (P : Program) (xs ys : List A) : List Field → Option Bool
  | [] => some true
  | f :: fs => if f.name = "_" then none else
    match P.underlying f.type, xs[f.offset]?, ys[f.offset]?, eqF P xs ys fs with
    | some (.int _), some (.d (.int k a)), some (.d (.int k' b)), some r => if k = k' then some (decide (a = b) && r) else none
    | some .bool, some (.d (.bool a)), some (.d (.bool b)), some r => some ((a == b) && r)
    | some .string, some (.d (.str a)), some (.d (.str b)), some r => some ((a.toList == b.toList) && r)
    | _, _, _, _ => none
def eqA (P : Program) (t : TypeId) (xs ys : List A) : Option Bool :=
  match P.underlying t with
  | some (.struct fs) => if P.stoodInHeld t = false ∧ P.eqGuardType P.depth t = false then eqF P xs ys fs.toList else none
  | _ => none
def isBoolT (P : Program) (t : TypeId) : Bool := match P.underlying t with | some .bool => true | _ => false

def binA (P : Program) (t : TypeId) (op : BinOp) : A → A → Option A
  | .d (.int k a), .d (.int k' b) =>
    match op with
    | .shl => if 0 ≤ b then some (.d (.int k (k.wrap (a * 2 ^ (min b.toNat k.bits))))) else none
    | .shr => if 0 ≤ b then some (.d (.int k (a.fdiv (2 ^ (min b.toNat k.bits))))) else none
    | _ => if k = k' then
      (match op with
      | .add => some (.d (.int k (k.wrap (a + b))))
      | .sub => some (.d (.int k (k.wrap (a - b))))
      | .mul => some (.d (.int k (k.wrap (a * b))))
      | .quo => if b = 0 then none else some (.d (.int k (k.wrap (a.tdiv b))))
      | .rem => if b = 0 then none else some (.d (.int k (a.tmod b)))
      | .and => some (.d (.int k (k.wrap (BitVec.ofInt k.bits a &&& BitVec.ofInt k.bits b).toNat)))
      | .or => some (.d (.int k (k.wrap (BitVec.ofInt k.bits a ||| BitVec.ofInt k.bits b).toNat)))
      | .xor => some (.d (.int k (k.wrap (BitVec.ofInt k.bits a ^^^ BitVec.ofInt k.bits b).toNat)))
      | .eql => some (.d (.bool (decide (a = b))))
      | .neq => some (.d (.bool (!decide (a = b))))
      | .lss => some (.d (.bool (decide (a < b))))
      | .leq => some (.d (.bool (decide (a ≤ b))))
      | .gtr => some (.d (.bool (decide (b < a))))
      | .geq => some (.d (.bool (decide (b ≤ a))))
      | _ => none) else none
  | .d (.bool a), .d (.bool b) =>
    match op with
    | .eql => if isBoolT P t then some (.d (.bool (a == b))) else none
    | .neq => if isBoolT P t then some (.d (.bool (!(a == b)))) else none
    | _ => none
  | .agg xs, .agg ys =>
    match op with
    | .eql => (eqA P t xs ys).map fun b => .d (.bool b)
    | .neq => (eqA P t xs ys).map fun b => .d (.bool (!b))
    | _ => none
  | .d (.str a), .d (.str b) =>
    match op with
    | .add => if a.size + b.size ≤ 9223372036854775807 then some (.d (.str (a ++ b))) else none
    | .eql => some (.d (.bool (a.toList == b.toList)))
    | .neq => some (.d (.bool (!(a.toList == b.toList))))
    | .lss => some (.d (.bool (Op.bytesLess a.toList b.toList)))
    | .leq => some (.d (.bool (Op.bytesLess a.toList b.toList || a.toList == b.toList)))
    | .gtr => some (.d (.bool (!(Op.bytesLess a.toList b.toList || a.toList == b.toList))))
    | .geq => some (.d (.bool (!Op.bytesLess a.toList b.toList)))
    | _ => none
  | _, _ => none

def unA (op : UnOp) : A → Option A
  | .d (.int k n) => match op with
    | .neg => some (.d (.int k (k.wrap (0 - n))))
    | _ => none
  | .d (.bool b) => match op with
    | .not => some (.d (.bool (!b)))
    | _ => none
  | _ => none

def convA (P : Program) (src dst : TypeId) : A → Option A
  | .d (.int k n) => match P.underlying src, P.underlying dst with
    | some _, some (.int k') => some (.d (.int k' (k'.wrap n)))
    | _, _ => none
  | .d (.str s) => match P.underlying src, P.underlying dst with
    | some .string, some .string => some (.d (.str s))
    | _, _ => none
  | _ => none

def lenA : A → Option A
  | .d (.sl es) => some (.d (.int .i64 es.length))
  | .d (.str s) => some (.d (.int .i64 s.size))
  | .es => some (.d (.int .i64 0))
  | .os _ n => some (.d (.int .i64 n))
  | _ => none

def idxA (P : Program) (t : TypeId) : A → A → Option A
  | .d (.sl es), .d (.int _ i) => match elT P t with
    | some e => if 0 ≤ i then (match es[i.toNat]? with
      | some cs => if cs.length = szT P e ∧ cs ≠ [] then some (.dp cs) else none
      | none => none) else none
    | none => none
  | .os id n, .d (.int _ i) => match elT P t with
    | some e => if 0 ≤ i ∧ i < n ∧ szT P e ≠ 0 then some (.pe id i.toNat (szT P e) 0) else none
    | none => none
  | _, _ => none

def fldA (P : Program) (s : TypeId) (f : Nat) : A → Option A
  | .ptr id off => match fldT P s f with
    | some (o, t) => if szT P t = 0 then none else some (.ptr id (off + o))
    | none => none
  | .pe id i sz off => match fldT P s f with
    | some (o, t) => if szT P t = 0 then none else some (.pe id i sz (off + o))
    | none => none
  | .dp cs => match fldT P s f with
    | some (o, t) => if szT P t = 0 then none else some (.dp (cs.drop o))
    | none => none
  | _ => none

def partA (P : Program) (t : TypeId) (cs : List A) (off : Nat) : Option A :=
  match P.underlying t with
  | none => none
  | some _ => if aggT P t = true then (if off + szT P t ≤ cs.length ∧ szT P t ≠ 0 then some (.agg ((cs.drop off).take (szT P t))) else none) else cs[off]?

def intA : Option A → Option (Option Int)
  | none => some none
  | some (.d (.int _ i)) => some (some i)
  | some _ => none

/-- x[l:h] without a third index. -/
def sliceA (P : Program) (t : TypeId) (x : A) (lo hi : Option A) : Option A :=
  match intA lo, intA hi with
  | some lo, some hi =>
    match x with
    | .d (.sl es) => match elT P t with
      | some e => if 0 ≤ lo.getD 0 ∧ lo.getD 0 ≤ hi.getD es.length ∧ hi.getD es.length ≤ es.length ∧ 0 < szT P e ∧ (∀ cs ∈ es, cs.length = szT P e) then
          some (.d (.sl ((es.take (hi.getD es.length).toNat).drop (lo.getD 0).toNat))) else none
      | none => none
    | .os id n => match elT P t with
      | some e => if lo.getD 0 = 0 ∧ 0 ≤ hi.getD n ∧ hi.getD n ≤ n ∧ szT P e ≠ 0 then some (.os id (hi.getD n).toNat) else none
      | none => none
    | .es => match elT P t with
      | some e => if lo.getD 0 = 0 ∧ hi.getD 0 = 0 ∧ szT P e ≠ 0 then some .es else none
      | none => none
    | .d (.str s) => match P.underlying t with
      | some .string => if 0 ≤ lo.getD 0 ∧ lo.getD 0 ≤ hi.getD s.size ∧ hi.getD s.size ≤ s.size then some (.d (.str (s.extract (lo.getD 0).toNat (hi.getD s.size).toNat))) else none
      | _ => none
    | _ => none
  | _, _ => none

def indexA (P : Program) (t : TypeId) : A → A → Option A
  | .d (.str s), .d (.int _ i) => match P.underlying t with
    | some .string => if 0 ≤ i then (match s[i.toNat]? with
      | some b => some (.d (.int .u8 b.toNat))
      | none => none) else none
    | _ => none
  | _, _ => none

def fillA (P : Program) (fs : Nat → Option (Nat × Nat)) (cells : List A) : List (Nat × A) → Option (List A)
  | [] => some cells
  | (i, v) :: rest => match fs i, leafs v with
    | some (off, size), some l => if l.length = size ∧ off + size ≤ cells.length then fillA P fs (putAt cells off l) rest else none
    | _, _ => none

def buildA (P : Program) (t : TypeId) (parts : List (Nat × A)) : Option A :=
  match zeroT P t, P.underlying t with
  | some z, some (.struct fs) => if fs.toList.all (fun f => szT P f.type != 0) = true then (fillA P (fun i => (fldT P t i).map fun x => (x.1, szT P x.2)) z parts).map .agg else none
  | some z, some (.array _ e) => if szT P e ≠ 0 then (fillA P (fun i => some (i * szT P e, szT P e)) z parts).map .agg else none
  | _, _ => none


/-- What an operation computes that neither reads nor writes memory. -/
def pureA (P : Program) (o : Op) (ρ : Operand → A) : Option A :=
  match o with
  | .move x | .assign x => some (ρ x)
  | .pick c a b => match ρ c with
    | .d (.bool true) => some (ρ a)
    | .d (.bool false) => some (ρ b)
    | _ => none
  | .build t ps => buildA P t (ps.toList.map fun x => (x.1, ρ x.2))
  | .nilCheck x => match ρ x with
    | .ptr id off => some (.ptr id off)
    | .pe id i sz off => some (.pe id i sz off)
    | .dp cs => some (.dp cs)
    | .fn f cap => some (.fn f cap)
    | _ => none
  | .binOp op t x y _ => binA P t op (ρ x) (ρ y)
  | .unOp op _ x => unA op (ρ x)
  | .convert src dst x => convA P src dst (ρ x)
  | .slice t x lo hi none => sliceA P t (ρ x) (lo.map ρ) (hi.map ρ)
  | .fieldAddr s x f => fldA P s f (ρ x)
  | .field t x f => match ρ x, fldT P t f with
    | .agg cs, some (off, u) => partA P u cs off
    | _, _ => none
  | .indexAddr t x i => idxA P t (ρ x) (ρ i)
  | .index t x i => indexA P t (ρ x) (ρ i)
  | .makeFunc (.func f) first cap => if first.size = 0 then some (.fn f (cap.toList.map ρ)) else none
  | .extract x i => match ρ x with
    | .tup vs => vs[i]?
    | _ => none
  | .call { callee := .builtin .len, args, argTypes } => match args.toList, argTypes.toList with
    | [x], [t] => match P.underlying t with
      | some (.slice _) => (match ρ x with | .d (.str _) => none | a => lenA a)
      | some .string => (match ρ x with | .d (.str s) => lenA (.d (.str s)) | _ => none)
      | _ => none
    | _, _ => none
  | .call { callee := .builtin .max, args, .. } => match args.toList with
    | [x, y] => match ρ x, ρ y with
      | .d (.int k a), .d (.int k' b) => if k = k' then some (.d (.int k (if a < b then b else a))) else none
      | _, _ => none
    | _ => none
  | .call { callee := .builtin .min, args, .. } => match args.toList with
    | [x, y] => match ρ x, ρ y with
      | .d (.int k a), .d (.int k' b) => if k = k' then some (.d (.int k (if b < a then b else a))) else none
      | _, _ => none
    | _ => none
  | _ => none

end Go.AX
