/- An abstract executor, part A: what the operations of the program do to data. -/
import Derived.Orders
import Derived.Below
import Derived.Laws.StructEq
import Derived.Tactics
import Derived.Laws.Pointers
import Derived.Laws.OwnMore
import Derived.Maps.AppendAt
import Derived.WalkKit
import Derived.Lib.LaidTab
import Derived.Lib.ItoaNum
import Derived.Laws.CopyRow
import Derived.Laws.BytesString
set_option linter.unusedVariables false
set_option linter.unusedSimpArgs false
namespace Go.AX

/-- A datum, read out of memory as deep as it goes: a slice is the list of its elements, an element the list of its cells. -/
inductive D where
  | int (k : IntKind) (n : Int)
  | bool (b : Bool)
  | str (s : ByteArray)
  | sl (es : List (List D))
  | pt (cs : List D)
  | np

/-- What a temporary may hold. -/
inductive A where
  | d (x : D)
  | es
  | os (id n : Nat)
  | ptr (id off : Nat)
  | pe (id i sz off : Nat)
  | dp (cs : List D)
  | fn (f : FuncId) (cap : List A)
  | agg (cs : List A)
  | tup (vs : List A)
  | undef
  | junk

/-- An object of the call's own. -/
inductive O where
  | gone
  | dead
  | box (t : TypeId) (cs : List A)
  | arr (t : TypeId) (own : Bool) (es : List (List D))
  | frz (es : List (List D))

structure St where
  n : Nat
  t : Nat → A
  h : Nat → O

def upd {α : Type} (f : Nat → α) (i : Nat) (v : α) : Nat → α := fun j => if j = i then v else f j

/-! ### types -/
def szT (P : Program) (t : TypeId) : Nat := P.cellsOf t
def bytesT (P : Program) (t : TypeId) : Nat := P.bytesOf t
def aggT (P : Program) (t : TypeId) : Bool := match P.underlying t with | some (.struct _) | some (.array _ _) => true | _ => false
def fldT (P : Program) (s : TypeId) (f : Nat) : Option (Nat × TypeId) := match P.underlying s with | some (.struct fs) => (fs[f]?).map fun x => (x.offset, x.type) | _ => none
def elT (P : Program) (t : TypeId) : Option TypeId := match P.underlying t with | some (.slice e) => some e | _ => none
def ofLeaf : Value → A
  | .int k n => .d (.int k n)
  | .bool b => .d (.bool b)
  | .string s => .d (.str s)
  | .slice none 0 0 => .es
  | .pointer none => .d .np
  | _ => .junk
def ofV : Value → A
  | .agg cs => .agg (cs.toList.map ofLeaf)
  | v => ofLeaf v
def zeroT (P : Program) (t : TypeId) : Option (List A) := ((P.info? t).bind (·.zero)).map fun v => v.cells.toList.map ofLeaf

def val (st : St) : Operand → A
  | .tmp t => st.t t
  | .const v => ofV v
  | .func f => .fn f []
  | .global _ => .junk

def leafs : A → Option (List A)
  | .agg cs => some cs
  | .tup _ => none
  | .junk => none
  | a => some [a]
def pack (P : Program) (t : TypeId) (cs : List A) : A := if aggT P t then .agg cs else cs.headD .junk

/-! ### memory -/
def notSl : D → Bool
  | .sl _ => false
  | .pt _ => false
  | _ => true
def rd (h : Nat → O) (n : Nat) : A → Option (List A)
  | .ptr id off => match h id with
    | .box _ cs => if off + n ≤ cs.length then some ((cs.drop off).take n) else none
    | _ => none
  | .pe id i sz off => match h id with
    | .arr _ own es => match es[i]? with
      | some cs => if cs.length = sz ∧ off + n ≤ sz ∧ (own = true → ((cs.drop off).take n).all notSl = true) then some (((cs.drop off).take n).map .d) else none
      | none => none
    | .frz es => match es[i]? with
      | some cs => if cs.length = sz ∧ off + n ≤ sz then some (((cs.drop off).take n).map .d) else none
      | none => none
    | _ => none
  | .dp cs => if n ≤ cs.length then some ((cs.take n).map .d) else none
  | _ => none

def putAt {α : Type} (cs : List α) (off : Nat) (vs : List α) : List α := cs.take off ++ vs ++ cs.drop (off + vs.length)

/-- A value's cells as data that an array takes in: rows of the call's own go over into it. The bool: nothing of it is shared. -/
def sink (h : Nat → O) : List A → Option (List D × Bool × (Nat → O))
  | [] => some ([], true, h)
  | a :: as =>
    match (match a with
      | .d (.sl es) => some (D.sl es, false, h)
      | .d (.pt cs) => some (D.pt cs, false, h)
      | .dp cs => some (D.pt cs, false, h)
      | .d x => some (x, true, h)
      | .es => some (D.sl [], true, h)
      | .os id n => match h id with
        | .arr _ own es => if n ≤ es.length then some (D.sl (es.take n), own, upd h id .dead) else none
        | .frz es => if n ≤ es.length then some (D.sl (es.take n), false, h) else none
        | _ => none
      | _ => none : Option (D × Bool × (Nat → O))) with
    | some (x, o, h1) => match sink h1 as with
      | some (xs, o', h2) => some (x :: xs, o && o', h2)
      | none => none
    | none => none

def wr (h : Nat → O) (vs : List A) : A → Option (Nat → O)
  | .ptr id off => match h id with
    | .box t cs => if off + vs.length ≤ cs.length then some (upd h id (.box t (putAt cs off vs))) else none
    | _ => none
  | .pe id i sz off => match sink h vs with
    | some (xs, o, h1) => match h1 id with
      | .arr t own es => match es[i]? with
        | some cs => if cs.length = sz ∧ off + xs.length ≤ sz then some (upd h1 id (.arr t (own && o) (es.set i (putAt cs off xs)))) else none
        | none => none
      | _ => none
    | none => none
  | _ => none

/-! ### operations that only compute -/
def eqF (P : Program) (xs ys : List A) : List Field → Option Bool
  | [] => some true
  | f :: fs => if f.name = "_" then none else
    match P.underlying f.type, xs[f.offset]?, ys[f.offset]?, eqF P xs ys fs with
    | some (.int _), some (.d (.int k a)), some (.d (.int k' b)), some r => if k = k' then some (decide (a = b) && r) else none
    | some .bool, some (.d (.bool a)), some (.d (.bool b)), some r => some ((a == b) && r)
    | some .string, some (.d (.str a)), some (.d (.str b)), some r => some ((a.toList == b.toList) && r)
    | _, _, _, _ => none
def eqA (P : Program) (t : TypeId) (xs ys : List A) : Option Bool :=
  match P.underlying t with
  | some (.struct fs) => if P.stoodInHeld t = false ∧ P.eqGuardType P.depth t = false then eqF P xs ys fs.toList else none
  | _ => none
def isPtrT (P : Program) (t : TypeId) : Bool := match P.underlying t with | some (.pointer _) => true | _ => false
def isBoolT (P : Program) (t : TypeId) : Bool := match P.underlying t with | some .bool => true | _ => false

def binA (P : Program) (t : TypeId) (op : BinOp) : A → A → Option A
  | .d (.int k a), .d (.int k' b) =>
    match op with
    | .shl => if 0 ≤ b then some (.d (.int k (k.wrap (a * 2 ^ (min b.toNat k.bits))))) else none
    | .shr => if 0 ≤ b then some (.d (.int k (a.fdiv (2 ^ (min b.toNat k.bits))))) else none
    | _ => if k = k' then
      (match op with
      | .add => some (.d (.int k (k.wrap (a + b))))
      | .sub => some (.d (.int k (k.wrap (a - b))))
      | .mul => some (.d (.int k (k.wrap (a * b))))
      | .quo => if b = 0 then none else some (.d (.int k (k.wrap (a.tdiv b))))
      | .rem => if b = 0 then none else some (.d (.int k (a.tmod b)))
      | .and => some (.d (.int k (k.wrap (BitVec.ofInt k.bits a &&& BitVec.ofInt k.bits b).toNat)))
      | .or => some (.d (.int k (k.wrap (BitVec.ofInt k.bits a ||| BitVec.ofInt k.bits b).toNat)))
      | .xor => some (.d (.int k (k.wrap (BitVec.ofInt k.bits a ^^^ BitVec.ofInt k.bits b).toNat)))
      | .eql => some (.d (.bool (decide (a = b))))
      | .neq => some (.d (.bool (!decide (a = b))))
      | .lss => some (.d (.bool (decide (a < b))))
      | .leq => some (.d (.bool (decide (a ≤ b))))
      | .gtr => some (.d (.bool (decide (b < a))))
      | .geq => some (.d (.bool (decide (b ≤ a))))
      | _ => none) else none
  | .d (.bool a), .d (.bool b) =>
    match op with
    | .eql => if isBoolT P t then some (.d (.bool (a == b))) else none
    | .neq => if isBoolT P t then some (.d (.bool (!(a == b)))) else none
    | _ => none
  | .agg xs, .agg ys =>
    match op with
    | .eql => (eqA P t xs ys).map fun b => .d (.bool b)
    | .neq => (eqA P t xs ys).map fun b => .d (.bool (!b))
    | _ => none
  | .d .np, .d .np =>
    match op with
    | .eql => if isPtrT P t then some (.d (.bool true)) else none
    | .neq => if isPtrT P t then some (.d (.bool false)) else none
    | _ => none
  | .dp _, .d .np =>
    match op with
    | .eql => if isPtrT P t then some (.d (.bool false)) else none
    | .neq => if isPtrT P t then some (.d (.bool true)) else none
    | _ => none
  | .d (.pt _), .d .np =>
    match op with
    | .eql => if isPtrT P t then some (.d (.bool false)) else none
    | .neq => if isPtrT P t then some (.d (.bool true)) else none
    | _ => none
  | .d (.str a), .d (.str b) =>
    match op with
    | .add => if a.size + b.size ≤ 9223372036854775807 then some (.d (.str (a ++ b))) else none
    | .eql => some (.d (.bool (a.toList == b.toList)))
    | .neq => some (.d (.bool (!(a.toList == b.toList))))
    | .lss => some (.d (.bool (Op.bytesLess a.toList b.toList)))
    | .leq => some (.d (.bool (Op.bytesLess a.toList b.toList || a.toList == b.toList)))
    | .gtr => some (.d (.bool (!(Op.bytesLess a.toList b.toList || a.toList == b.toList))))
    | .geq => some (.d (.bool (!Op.bytesLess a.toList b.toList)))
    | _ => none
  | _, _ => none

def unA (op : UnOp) : A → Option A
  | .d (.int k n) => match op with
    | .neg => some (.d (.int k (k.wrap (0 - n))))
    | _ => none
  | .d (.bool b) => match op with
    | .not => some (.d (.bool (!b)))
    | _ => none
  | _ => none

def convA (P : Program) (src dst : TypeId) : A → Option A
  | .d (.int k n) => match P.underlying src, P.underlying dst with
    | some _, some (.int k') => some (.d (.int k' (k'.wrap n)))
    | _, _ => none
  | .d (.str s) => match P.underlying src, P.underlying dst with
    | some .string, some .string => some (.d (.str s))
    | _, _ => none
  | _ => none

def lenA : A → Option A
  | .d (.sl es) => some (.d (.int .i64 es.length))
  | .d (.str s) => some (.d (.int .i64 s.size))
  | .es => some (.d (.int .i64 0))
  | .os _ n => some (.d (.int .i64 n))
  | _ => none

def idxA (P : Program) (t : TypeId) : A → A → Option A
  | .d (.sl es), .d (.int _ i) => match elT P t with
    | some e => if 0 ≤ i then (match es[i.toNat]? with
      | some cs => if cs.length = szT P e ∧ cs ≠ [] then some (.dp cs) else none
      | none => none) else none
    | none => none
  | .os id n, .d (.int _ i) => match elT P t with
    | some e => if 0 ≤ i ∧ i < n ∧ szT P e ≠ 0 then some (.pe id i.toNat (szT P e) 0) else none
    | none => none
  | _, _ => none

def fldA (P : Program) (s : TypeId) (f : Nat) : A → Option A
  | .ptr id off => match fldT P s f with
    | some (o, t) => if szT P t = 0 then none else some (.ptr id (off + o))
    | none => none
  | .pe id i sz off => match fldT P s f with
    | some (o, t) => if szT P t = 0 then none else some (.pe id i sz (off + o))
    | none => none
  | .dp cs => match fldT P s f with
    | some (o, t) => if szT P t = 0 then none else some (.dp (cs.drop o))
    | none => none
  | _ => none

def partA (P : Program) (t : TypeId) (cs : List A) (off : Nat) : Option A :=
  match P.underlying t with
  | none => none
  | some _ => if aggT P t = true then (if off + szT P t ≤ cs.length ∧ szT P t ≠ 0 then some (.agg ((cs.drop off).take (szT P t))) else none) else cs[off]?

def intA : Option A → Option (Option Int)
  | none => some none
  | some (.d (.int _ i)) => some (some i)
  | some _ => none

/-- x[l:h] without a third index. -/
def sliceA (P : Program) (t : TypeId) (x : A) (lo hi : Option A) : Option A :=
  match intA lo, intA hi with
  | some lo, some hi =>
    match x with
    | .d (.sl es) => match elT P t with
      | some e => if 0 ≤ lo.getD 0 ∧ lo.getD 0 ≤ hi.getD es.length ∧ hi.getD es.length ≤ es.length ∧ 0 < szT P e ∧ (∀ cs ∈ es, cs.length = szT P e) then
          some (.d (.sl ((es.take (hi.getD es.length).toNat).drop (lo.getD 0).toNat))) else none
      | none => none
    | .os id n => match elT P t with
      | some e => if lo.getD 0 = 0 ∧ 0 ≤ hi.getD n ∧ hi.getD n ≤ n ∧ szT P e ≠ 0 then some (.os id (hi.getD n).toNat) else none
      | none => none
    | .es => match elT P t with
      | some e => if lo.getD 0 = 0 ∧ hi.getD 0 = 0 ∧ szT P e ≠ 0 then some .es else none
      | none => none
    | .d (.str s) => match P.underlying t with
      | some .string => if 0 ≤ lo.getD 0 ∧ lo.getD 0 ≤ hi.getD s.size ∧ hi.getD s.size ≤ s.size then some (.d (.str (s.extract (lo.getD 0).toNat (hi.getD s.size).toNat))) else none
      | _ => none
    | _ => none
  | _, _ => none

def indexA (P : Program) (t : TypeId) : A → A → Option A
  | .d (.str s), .d (.int _ i) => match P.underlying t with
    | some .string => if 0 ≤ i then (match s[i.toNat]? with
      | some b => some (.d (.int .u8 b.toNat))
      | none => none) else none
    | _ => none
  | _, _ => none

def fillA (P : Program) (fs : Nat → Option (Nat × Nat)) (cells : List A) : List (Nat × A) → Option (List A)
  | [] => some cells
  | (i, v) :: rest => match fs i, leafs v with
    | some (off, size), some l => if l.length = size ∧ off + size ≤ cells.length then fillA P fs (putAt cells off l) rest else none
    | _, _ => none

def buildA (P : Program) (t : TypeId) (parts : List (Nat × A)) : Option A :=
  match zeroT P t, P.underlying t with
  | some z, some (.struct fs) => if fs.toList.all (fun f => szT P f.type != 0) = true then (fillA P (fun i => (fldT P t i).map fun x => (x.1, szT P x.2)) z parts).map .agg else none
  | some z, some (.array _ e) => if szT P e ≠ 0 then (fillA P (fun i => some (i * szT P e, szT P e)) z parts).map .agg else none
  | _, _ => none


/-- What an operation computes that neither reads nor writes memory. -/
def pureA (P : Program) (o : Op) (ρ : Operand → A) : Option A :=
  match o with
  | .move x | .assign x => some (ρ x)
  | .pick c a b => match ρ c with
    | .d (.bool true) => some (ρ a)
    | .d (.bool false) => some (ρ b)
    | _ => none
  | .build t ps => buildA P t (ps.toList.map fun x => (x.1, ρ x.2))
  | .nilCheck x => match ρ x with
    | .ptr id off => some (.ptr id off)
    | .pe id i sz off => some (.pe id i sz off)
    | .dp cs => some (.dp cs)
    | .d (.pt cs) => some (.dp cs)
    | .fn f cap => some (.fn f cap)
    | _ => none
  | .binOp op t x y _ => binA P t op (ρ x) (ρ y)
  | .unOp op _ x => unA op (ρ x)
  | .convert src dst x => convA P src dst (ρ x)
  | .slice t x lo hi none => sliceA P t (ρ x) (lo.map ρ) (hi.map ρ)
  | .fieldAddr s x f => fldA P s f (ρ x)
  | .field t x f => match ρ x, fldT P t f with
    | .agg cs, some (off, u) => partA P u cs off
    | _, _ => none
  | .indexAddr t x i => idxA P t (ρ x) (ρ i)
  | .index t x i => indexA P t (ρ x) (ρ i)
  | .makeFunc (.func f) first cap => if first.size = 0 then some (.fn f (cap.toList.map ρ)) else none
  | .extract x i => match ρ x with
    | .tup vs => vs[i]?
    | _ => none
  | .call { callee := .builtin .len, args, argTypes } => match args.toList, argTypes.toList with
    | [x], [t] => match P.underlying t with
      | some (.slice _) => (match ρ x with | .d (.str _) => none | a => lenA a)
      | some .string => (match ρ x with | .d (.str s) => lenA (.d (.str s)) | _ => none)
      | _ => none
    | _, _ => none
  | .call { callee := .builtin .max, args, .. } => match args.toList with
    | [x, y] => match ρ x, ρ y with
      | .d (.int k a), .d (.int k' b) => if k = k' then some (.d (.int k (if a < b then b else a))) else none
      | _, _ => none
    | _ => none
  | .call { callee := .builtin .min, args, .. } => match args.toList with
    | [x, y] => match ρ x, ρ y with
      | .d (.int k a), .d (.int k' b) => if k = k' then some (.d (.int k (if b < a then b else a))) else none
      | _, _ => none
    | _ => none
  | _ => none

end Go.AX

namespace Go.AX

def at2 {α : Type} (es : List (List α)) (i j : Nat) : Option α := (es[i]?).bind fun e => e[j]?

/-- A value reads as a datum; what it leads to lies in blocks of F. -/
inductive Rep (w : World) (F : Nat → Prop) : Value → D → Prop
  | int (k : IntKind) (n : Int) : Rep w F (.int k n) (.int k n)
  | bool (b : Bool) : Rep w F (.bool b) (.bool b)
  | str (s : ByteArray) : Rep w F (.string s) (.str s)
  | sl (a : Option Addr) (c sz : Nat) (es : List (List D)) (vs : Nat → Nat → Value) (hc : es.length ≤ c) (hsz : ∀ e ∈ es, e.length = sz)
      (ha : ∀ i j x, at2 es i j = some x → ∃ ad, a = some ad ∧ F ad.block ∧ w.cell? (ad.add (i * sz + j)) = some (vs i j))
      (hr : ∀ i j x, at2 es i j = some x → Rep w F (vs i j) x) : Rep w F (.slice a es.length c) (.sl es)
  | np : Rep w F (.pointer none) .np
  | pt (ad : Addr) (cs : List D) (vs : Nat → Value) (ha : ∀ j x, cs[j]? = some x → F ad.block ∧ w.cell? (ad.add j) = some (vs j)) (hr : ∀ j x, cs[j]? = some x → Rep w F (vs j) x) : Rep w F (.pointer (some ad)) (.pt cs)

/-- A value reads as a datum; what it leads to are blocks of B, each one led to once. -/
inductive RepX (P : Program) (w : World) : List Nat → Value → D → Prop
  | int (k : IntKind) (n : Int) : RepX P w [] (.int k n) (.int k n)
  | bool (b : Bool) : RepX P w [] (.bool b) (.bool b)
  | str (s : ByteArray) : RepX P w [] (.string s) (.str s)
  | np : RepX P w [] (.pointer none) .np
  | nil (a : Option Addr) (c : Nat) : RepX P w [] (.slice a 0 c) (.sl [])
  | sl (b c sz : Nat) (es : List (List D)) (cs : Array Value) (t : TypeId) (vs : Nat → Nat → Value) (Bs : Nat → Nat → List Nat)
      (hb : w.heap[b]? = some (.cells cs t (0, 0))) (hc : es.length ≤ c) (hsz : ∀ e ∈ es, e.length = sz) (hcs : szT P t = sz ∧ cs.size = c * sz ∧ c ≤ maxLen)
      (ha : ∀ i j x, at2 es i j = some x → cs[i * sz + j]? = some (vs i j))
      (hr : ∀ i j x, at2 es i j = some x → RepX P w (Bs i j) (vs i j) x)
      (B : List Nat) (hB : b ∈ B) (hsub : ∀ i j x, at2 es i j = some x → ∀ b' ∈ Bs i j, b' ∈ B ∧ b' ≠ b)
      (hdis : ∀ i j x i' j' x', at2 es i j = some x → at2 es i' j' = some x' → i ≠ i' ∨ j ≠ j' → ∀ b' ∈ Bs i j, b' ∉ Bs i' j') :
      RepX P w B (.slice (some ⟨b, 0, none⟩) es.length c) (.sl es)

/-- The objects' places: block and capacity; the blocks that each owns; the blocks that nobody writes any more. -/
structure Mu where
  m : Nat → Option (Nat × Nat)
  own : Nat → List Nat
  F : Nat → Prop

mutual
def RepA (w : World) (M : Mu) : A → Value → Prop
  | .d x, v => Rep w M.F v x
  | .es, v => v = .slice none 0 0
  | .os id n, v => match M.m id with
    | some (b, c) => n ≤ c ∧ v = .slice (some ⟨b, 0, none⟩) n c
    | none => n = 0 ∧ v = .slice none 0 0
  | .ptr id off, v => ∃ b c, M.m id = some (b, c) ∧ v = .pointer (some ⟨b, off, none⟩)
  | .pe id i sz off, v => ∃ b c, M.m id = some (b, c) ∧ v = .pointer (some ⟨b, i * sz + off, none⟩)
  | .dp cs, v => ∃ (ad : Addr) (vs : Nat → Value), v = .pointer (some ad) ∧ ∀ j x, cs[j]? = some x → M.F ad.block ∧ w.cell? (ad.add j) = some (vs j) ∧ Rep w M.F (vs j) x
  | .fn f cap, v => ∃ vs : List Value, v = .func (.func f) #[] vs.toArray ∧ RepL w M cap vs
  | .agg cs, v => ∃ vs : List Value, v = .agg vs.toArray ∧ RepL w M cs vs
  | .tup cs, v => ∃ vs : List Value, v = .tuple vs.toArray ∧ RepL w M cs vs
  | .undef, v => v = undef
  | .junk, _ => True
def RepL (w : World) (M : Mu) : List A → List Value → Prop
  | [], [] => True
  | a :: l, v :: vs => RepA w M a v ∧ RepL w M l vs
  | [], _ :: _ => False
  | _ :: _, [] => False
end

section
variable {w : World} {M : Mu}

theorem RepL.length {l : List A} {vs : List Value} (h : RepL w M l vs) : l.length = vs.length := by
  induction l generalizing vs with
  | nil => cases vs <;> simp_all [RepL]
  | cons a l ih => cases vs with
    | nil => simp [RepL] at h
    | cons v vs => simp only [RepL] at h; simp [ih h.2]
theorem RepL.get {l : List A} {vs : List Value} (h : RepL w M l vs) {i : Nat} {a : A} (hi : l[i]? = some a) : ∃ v, vs[i]? = some v ∧ RepA w M a v := by
  induction l generalizing vs i with
  | nil => simp at hi
  | cons b l ih => cases vs with
    | nil => simp [RepL] at h
    | cons v vs =>
      simp only [RepL] at h
      cases i with
      | zero => simp at hi; subst hi; exact ⟨v, by simp, h.1⟩
      | succ i => simp at hi; obtain ⟨u, hu, hr⟩ := ih h.2 hi; exact ⟨u, by simpa using hu, hr⟩
theorem RepL.append {l l' : List A} {vs vs' : List Value} (h : RepL w M l vs) (h' : RepL w M l' vs') : RepL w M (l ++ l') (vs ++ vs') := by
  induction l generalizing vs with
  | nil => cases vs with
    | nil => simpa using h'
    | cons v vs => simp [RepL] at h
  | cons b l ih => cases vs with
    | nil => simp [RepL] at h
    | cons v vs => simp only [RepL] at h; exact ⟨h.1, ih h.2⟩
theorem RepL.take {l : List A} {vs : List Value} (h : RepL w M l vs) (n : Nat) : RepL w M (l.take n) (vs.take n) := by
  induction l generalizing vs n with
  | nil => cases vs <;> simp_all [RepL]
  | cons b l ih => cases vs with
    | nil => simp [RepL] at h
    | cons v vs => cases n with
      | zero => simp [RepL]
      | succ n => simp only [RepL] at h; exact ⟨h.1, ih h.2 n⟩
theorem RepL.drop {l : List A} {vs : List Value} (h : RepL w M l vs) (n : Nat) : RepL w M (l.drop n) (vs.drop n) := by
  induction l generalizing vs n with
  | nil => cases vs <;> simp_all [RepL]
  | cons b l ih => cases vs with
    | nil => simp [RepL] at h
    | cons v vs => cases n with
      | zero => exact h
      | succ n => simp only [RepL] at h; simpa using ih h.2 n
theorem RepL.putAt {l l' : List A} {vs vs' : List Value} (h : RepL w M l vs) (h' : RepL w M l' vs') (off : Nat) : RepL w M (putAt l off l') (putAt vs off vs') := by
  unfold AX.putAt
  rw [h'.length]
  exact ((h.take off).append h').append (h.drop _)
theorem repL_map {ι : Type} {xs : List ι} {f : ι → A} {g : ι → Value} (h : ∀ x ∈ xs, RepA w M (f x) (g x)) : RepL w M (xs.map f) (xs.map g) := by
  induction xs with
  | nil => simp [RepL]
  | cons x xs ih => simp only [List.map_cons, RepL]; exact ⟨h x (by simp), ih fun y hy => h y (by simp [hy])⟩

theorem ofLeaf_rep (v : Value) : RepA w M (ofLeaf v) v := by
  unfold ofLeaf
  split <;> simp only [RepA]
  · exact .int _ _
  · exact .bool _
  · exact .str _
  · exact .np
theorem ofV_rep (v : Value) : RepA w M (ofV v) v := by
  unfold ofV
  split
  · rename_i cs
    simp only [RepA]
    refine ⟨cs.toList, rfl, ?_⟩
    have := repL_map (w := w) (M := M) (xs := cs.toList) (f := ofLeaf) (g := id) fun x _ => ofLeaf_rep x
    simpa using this
  · exact ofLeaf_rep _

theorem val_rep {t : Nat → A} {h : Nat → O} {n : Nat} {a : Act} (ht : ∀ i, RepA w M (t i) (a.tmps.getD i undef)) (x : Operand) : RepA w M (val ⟨n, t, h⟩ x) (a.eval x) := by
  cases x with
  | tmp i => exact ht i
  | const v => exact ofV_rep v
  | global g => simp [val, RepA]
  | func f => simp only [val, RepA, Act.eval]; exact ⟨[], rfl, by simp [RepL]⟩

/-! ### scalars -/
theorem rep_int {F : Nat → Prop} {v : Value} {k : IntKind} {n : Int} (h : Rep w F v (.int k n)) : v = .int k n := by cases h; rfl
theorem rep_bool {F : Nat → Prop} {v : Value} {b : Bool} (h : Rep w F v (.bool b)) : v = .bool b := by cases h; rfl
theorem rep_str {F : Nat → Prop} {v : Value} {s : ByteArray} (h : Rep w F v (.str s)) : v = .string s := by cases h; rfl
end

section
variable {P : Program} {w : World} {M : Mu}

theorem i64max : IntKind.i64.max = 9223372036854775807 := by decide
theorem part_leaf {t : TypeId} {d : TypeDesc} (hu : P.underlying t = some d) (hd : (match d with | .struct _ | .array _ _ => true | _ => false) = false) (cs : Array Value) (off : Nat) {v : Value} (h : cs[off]? = some v) :
    (part t cs off).run P w = .ok v w := by
  unfold part isAgg
  simp only [Sem.run_bind, run_underlying hu, Result.andThen_ok]
  cases d <;> simp_all
theorem eqF_sound {xs ys : List A} {vx vy : List Value} (d : Nat) (fs : List Field) {b : Bool} (h : eqF P xs ys fs = some b) (hx : RepL w M xs vx) (hy : RepL w M ys vy) :
    (Op.eqFields (d + 1) vx.toArray vy.toArray fs).run P w = .ok b w := by
  induction fs generalizing b with
  | nil => simp only [eqF, Option.some.injEq] at h; subst h; simp [Op.eqFields]
  | cons f fs ih =>
    unfold eqF at h
    split at h
    · cases h
    · rename_i hn
      split at h
      · rename_i k0 k a k' b' r hu h1 h2 hr
        split at h
        · rename_i hk
          subst hk
          injection h with h
          subst h
          obtain ⟨v1, g1, r1⟩ := hx.get h1
          obtain ⟨v2, g2, r2⟩ := hy.get h2
          simp only [RepA] at r1 r2
          rw [rep_int r1] at g1
          rw [rep_int r2] at g2
          simp only [Op.eqFields, if_pos hn, Sem.run_bind, part_leaf hu rfl vx.toArray f.offset (by simpa using g1), part_leaf hu rfl vy.toArray f.offset (by simpa using g2), Result.andThen_ok, run_equalIn_int w d f.type k k0 a b' hu]
          by_cases hab : a = b'
          · subst hab; simp [ih hr]
          · simp [hab]
        · cases h
      · rename_i a b' r hu h1 h2 hr
        injection h with h
        subst h
        obtain ⟨v1, g1, r1⟩ := hx.get h1
        obtain ⟨v2, g2, r2⟩ := hy.get h2
        simp only [RepA] at r1 r2
        rw [rep_bool r1] at g1
        rw [rep_bool r2] at g2
        simp only [Op.eqFields, if_pos hn, Sem.run_bind, part_leaf hu rfl vx.toArray f.offset (by simpa using g1), part_leaf hu rfl vy.toArray f.offset (by simpa using g2), Result.andThen_ok, run_equalIn_bool' w d f.type a b' hu]
        cases hab : a == b'
        · simp
        · simp [ih hr]
      · rename_i a b' r hu h1 h2 hr
        injection h with h
        subst h
        obtain ⟨v1, g1, r1⟩ := hx.get h1
        obtain ⟨v2, g2, r2⟩ := hy.get h2
        simp only [RepA] at r1 r2
        rw [rep_str r1] at g1
        rw [rep_str r2] at g2
        simp only [Op.eqFields, if_pos hn, Sem.run_bind, part_leaf hu rfl vx.toArray f.offset (by simpa using g1), part_leaf hu rfl vy.toArray f.offset (by simpa using g2), Result.andThen_ok, run_equalIn_string w d f.type a b' hu]
        cases hab : a.toList == b'.toList
        · simp
        · simp [ih hr]
      · cases h
theorem ptrT_und {t : TypeId} (h : isPtrT P t = true) : P.underlying t = some (.pointer (P.pointee t)) := by
  unfold isPtrT at h
  unfold Program.pointee
  split at h
  · rename_i e he
    simp only [he]
  · cases h
theorem bin_sound (op : BinOp) (xT : TypeId) (xo yo : Operand) {x y r : A} {v u : Value} (h : binA P xT op x y = some r) (hx : RepA w M x v) (hy : RepA w M y u) :
    ∃ z, (do eqGuard op xT xo yo v u; binOp op xT v u : Sem Value).run P w = .ok z w ∧ RepA w M r z := by
  unfold binA at h
  split at h
  · rename_i k a k' b
    simp only [RepA] at hx hy
    rw [rep_int hx, rep_int hy]
    have hg : ∀ op, (eqGuard op xT xo yo (.int k a) (.int k' b)).run P w = .ok () w := by
      intro op
      unfold eqGuard
      split <;> simp
    rw [Sem.run_bind, hg, Result.andThen_ok]
    split at h
    · split at h
      · injection h with h; subst h
        refine ⟨_, ?_, .int _ _⟩
        simp only [binOp, Op.shift]
        rw [if_neg (by omega)]
        simp
      · cases h
    · split at h
      · injection h with h; subst h
        refine ⟨_, ?_, .int _ _⟩
        simp only [binOp, Op.shift]
        rw [if_neg (by omega)]
        simp
      · cases h
    · split at h
      · rename_i hk
        subst hk
        split at h <;> first
          | (injection h with h; subst h; exact ⟨_, by simp [binOp, Op.intArith, Op.intBits, Op.intCmp] <;> rfl, by first | exact .int _ _ | exact .bool _⟩)
          | (split at h
             · cases h
             · rename_i hb; injection h with h; subst h; exact ⟨_, by simp [binOp, Op.intDiv, hb] <;> rfl, .int _ _⟩)
          | cases h
      · cases h
  · rename_i a b
    simp only [RepA] at hx hy
    rw [rep_bool hx, rep_bool hy]
    have hg : ∀ op, (eqGuard op xT xo yo (.bool a) (.bool b)).run P w = .ok () w := by
      intro op
      unfold eqGuard
      split <;> simp
    rw [Sem.run_bind, hg, Result.andThen_ok]
    have ht : isBoolT P xT = true → P.underlying xT = some .bool := by
      intro hq
      unfold isBoolT at hq
      split at hq
      · assumption
      · cases hq
    split at h <;> first
      | (split at h
         · rename_i hb; injection h with h; subst h; exact ⟨_, by simp [binOp, run_equal_bool w xT a b (ht hb)] <;> rfl, .bool _⟩
         · cases h)
      | cases h
  · rename_i xs ys
    simp only [RepA] at hx hy
    obtain ⟨vx, rfl, hx⟩ := hx
    obtain ⟨vy, rfl, hy⟩ := hy
    have key : ∀ b, eqA P xT xs ys = some b → (eqGuard op xT xo yo (.agg vx.toArray) (.agg vy.toArray)).run P w = .ok () w ∧ (Op.equalIn 10000 xT (.agg vx.toArray) (.agg vy.toArray)).run P w = .ok b w := by
      intro b hb
      unfold eqA at hb
      split at hb
      · rename_i fs hfs
        split at hb
        · rename_i hc
          have hu : P.underlying xT = some (.struct (P.fieldsOf xT)) := by simp [Program.fieldsOf, hfs]
          refine ⟨run_eqGuard_agg w op xT xo yo _ _ hc.2, ?_⟩
          rw [run_equalIn_struct w 9999 xT _ _ hu hc.1]
          have : (P.fieldsOf xT).toList = fs.toList := by simp [Program.fieldsOf, hfs]
          rw [this]
          exact eqF_sound 9998 fs.toList hb hx hy
        · cases hb
      · cases hb
    split at h
    · cases he : eqA P xT xs ys with
      | none => simp [he] at h
      | some b =>
        simp only [he, Option.map_some, Option.some.injEq] at h
        subst h
        obtain ⟨h1, h2⟩ := key b he
        exact ⟨.bool b, by rw [Sem.run_bind, h1, Result.andThen_ok, run_eql_struct, h2]; rfl, .bool _⟩
    · cases he : eqA P xT xs ys with
      | none => simp [he] at h
      | some b =>
        simp only [he, Option.map_some, Option.some.injEq] at h
        subst h
        obtain ⟨h1, h2⟩ := key b he
        exact ⟨.bool (!b), by rw [Sem.run_bind, h1, Result.andThen_ok, run_neq_struct, h2]; rfl, .bool _⟩
    · cases h
  · simp only [RepA] at hx hy
    cases hx
    cases hy
    have hg : ∀ op, (eqGuard op xT xo yo (.pointer none) (.pointer none)).run P w = .ok () w := by
      intro op
      unfold eqGuard
      split <;> simp
    rw [Sem.run_bind, hg, Result.andThen_ok]
    split at h <;> first
      | (split at h
         · rename_i hb; injection h with h; subst h; exact ⟨_, by first | exact run_eql_pointer_nil w xT _ (ptrT_und hb) | exact run_neq_pointer_nil w xT _ (ptrT_und hb), .bool _⟩
         · cases h)
      | cases h
  · simp only [RepA] at hx hy
    obtain ⟨ad, vs, rfl, _⟩ := hx
    cases hy
    have hg : ∀ op, (eqGuard op xT xo yo (.pointer (some ad)) (.pointer none)).run P w = .ok () w := by
      intro op
      unfold eqGuard
      split <;> simp
    rw [Sem.run_bind, hg, Result.andThen_ok]
    split at h <;> first
      | (split at h
         · rename_i hb; injection h with h; subst h; exact ⟨_, by first | exact run_eql_pointer_nil w xT _ (ptrT_und hb) | exact run_neq_pointer_nil w xT _ (ptrT_und hb), .bool _⟩
         · cases h)
      | cases h
  · simp only [RepA] at hx hy
    generalize hv : v = v0 at hx
    cases hx with
    | pt ad cs vs ha hr =>
      subst hv
      cases hy
      have hg : ∀ op, (eqGuard op xT xo yo (.pointer (some ad)) (.pointer none)).run P w = .ok () w := by
        intro op
        unfold eqGuard
        split <;> simp
      rw [Sem.run_bind, hg, Result.andThen_ok]
      split at h <;> first
        | (split at h
           · rename_i hb; injection h with h; subst h; exact ⟨_, by first | exact run_eql_pointer_nil w xT _ (ptrT_und hb) | exact run_neq_pointer_nil w xT _ (ptrT_und hb), .bool _⟩
           · cases h)
        | cases h
  · rename_i a b
    simp only [RepA] at hx hy
    rw [rep_str hx, rep_str hy]
    have hg : ∀ op, (eqGuard op xT xo yo (.string a) (.string b)).run P w = .ok () w := by
      intro op
      unfold eqGuard
      split <;> simp
    rw [Sem.run_bind, hg, Result.andThen_ok]
    split at h <;> first
      | (injection h with h; subst h; exact ⟨_, by simp [binOp, Op.stringOp] <;> rfl, .bool _⟩)
      | (split at h
         · rename_i hb; injection h with h; subst h; exact ⟨_, by simp only [binOp, Op.stringOp]; rw [if_neg (by rw [i64max]; omega)]; rfl, .str _⟩
         · cases h)
      | cases h
  · cases h
end
end Go.AX

namespace Go.AX
open Instr in
section
variable {P : Program} {w : World} {M : Mu}

theorem add_add (ad : Addr) (m n : Nat) : (ad.add m).add n = ad.add (m + n) := by
  unfold Addr.add
  by_cases hm : m = 0 <;> by_cases hn : n = 0 <;> simp [hm, hn, Nat.add_assoc]
theorem add0 (b off : Nat) : (⟨b, 0, none⟩ : Addr).add off = ⟨b, off, none⟩ := by
  unfold Addr.add; split <;> simp_all
theorem addb (b o off : Nat) : (⟨b, o, none⟩ : Addr).add off = ⟨b, o + off, none⟩ := by
  unfold Addr.add; split <;> simp_all
theorem szT_info {t : TypeId} (h : szT P t ≠ 0) : ∃ i, P.info? t = some i ∧ i.size = szT P t := by
  unfold szT Program.cellsOf at *
  cases hi : P.info? t with
  | none => simp [hi] at h
  | some i => exact ⟨i, rfl, by simp⟩
theorem run_sizeOf' {t : TypeId} {i : TypeInfo} (h : P.info? t = some i) : (sizeOf t).run P w = .ok i.size w := by
  simp [sizeOf, typeInfo, h]
theorem run_sz {t : TypeId} (h : szT P t ≠ 0) : (sizeOf t).run P w = .ok (szT P t) w := by
  obtain ⟨i, hi, he⟩ := szT_info h
  rw [run_sizeOf' hi, he]
theorem elT_und {t e : TypeId} (h : elT P t = some e) : P.underlying t = some (.slice e) := by
  unfold elT at h
  split at h
  · rename_i hu; rw [hu]; injection h with h; rw [h]
  · cases h
theorem fldT_und {t : TypeId} {f : Nat} {r : Nat × TypeId} (h : fldT P t f = some r) : ∃ fs fd, P.underlying t = some (.struct fs) ∧ fs[f]? = some fd ∧ fd.offset = r.1 ∧ fd.type = r.2 := by
  unfold fldT at h
  split at h
  · rename_i fs hu
    cases hf : fs[f]? with
    | none => simp [hf] at h
    | some fd => simp [hf] at h; subst h; exact ⟨fs, fd, hu, hf, rfl, rfl⟩
  · cases h
theorem aggT_run {t : TypeId} {d : TypeDesc} (hu : P.underlying t = some d) : (isAgg t).run P w = .ok (aggT P t) w := by
  unfold isAgg aggT
  simp only [Sem.run_bind, run_underlying hu, Result.andThen_ok, hu]
  cases d <;> simp

theorem un_sound (op : UnOp) {x r : A} {v : Value} (h : unA op x = some r) (hx : RepA w M x v) : ∃ z, (Op.unary op v).run P w = .ok z w ∧ RepA w M r z := by
  unfold unA at h
  split at h
  · simp only [RepA] at hx
    rw [rep_int hx]
    split at h
    · injection h with h; subst h; exact ⟨_, by simp [Op.unary, Op.intArith] <;> rfl, .int _ _⟩
    · cases h
  · simp only [RepA] at hx
    rw [rep_bool hx]
    split at h
    · injection h with h; subst h; exact ⟨_, by simp [Op.unary] <;> rfl, .bool _⟩
    · cases h
  · cases h

theorem conv_sound (src dst : TypeId) {x r : A} {v : Value} (h : convA P src dst x = some r) (hx : RepA w M x v) : ∃ z, (convert src dst v).run P w = .ok z w ∧ RepA w M r z := by
  unfold convA at h
  split at h
  · simp only [RepA] at hx
    rw [rep_int hx]
    split at h
    · rename_i k n _ _ d k' hs hd
      injection h with h; subst h
      exact ⟨.int k' (k'.wrap n), by unfold convert; simp only [Sem.run_bind, run_underlying hs, run_underlying hd, Result.andThen_ok]; simp [Conv.intToInt], .int _ _⟩
    · cases h
  · simp only [RepA] at hx
    rw [rep_str hx]
    split at h
    · rename_i s _ _ hs hd
      injection h with h; subst h
      exact ⟨.string s, by unfold convert; simp only [Sem.run_bind, run_underlying hs, run_underlying hd, Result.andThen_ok]; simp, .str _⟩
    · cases h
  · cases h

theorem rep_sl {F : Nat → Prop} {v : Value} {es : List (List D)} (h : Rep w F v (.sl es)) : ∃ (a : Option Addr) (c sz : Nat) (vs : Nat → Nat → Value), v = .slice a es.length c ∧ es.length ≤ c ∧ (∀ e ∈ es, e.length = sz) ∧
    (∀ i j x, at2 es i j = some x → ∃ ad, a = some ad ∧ F ad.block ∧ w.cell? (ad.add (i * sz + j)) = some (vs i j)) ∧ (∀ i j x, at2 es i j = some x → Rep w F (vs i j) x) := by
  cases h with
  | sl a c sz es vs hc hsz ha hr => exact ⟨a, c, sz, vs, rfl, hc, hsz, ha, hr⟩

theorem idx_sound (t : TypeId) {x i r : A} {v u : Value} (h : idxA P t x i = some r) (hx : RepA w M x v) (hi : RepA w M i u) : ∃ z, (indexAt t v u).run P w = .ok z w ∧ RepA w M r z := by
  unfold idxA at h
  split at h
  · rename_i es k i
    simp only [RepA] at hx hi
    rw [rep_int hi]
    obtain ⟨a, c, sz, vs, rfl, hc, hsz, ha, hr⟩ := rep_sl hx
    split at h
    · rename_i e he
      split at h
      · rename_i h0
        split at h
        · rename_i cs hcs
          split at h
          · rename_i hl
            injection h with h; subst h
            have hlt : i.toNat < es.length := by
              rcases Nat.lt_or_ge i.toNat es.length with q | q
              · exact q
              · simp [List.getElem?_eq_none q] at hcs
            have hcl : cs.length = sz := hsz cs (List.mem_of_getElem? hcs)
            have hcp : 0 < cs.length := by
              rcases cs with _ | ⟨c0, cs⟩
              · exact absurd rfl hl.2
              · simp
            have h2 : ∀ j x, cs[j]? = some x → at2 es i.toNat j = some x := by
              intro j x hx'; simp [at2, hcs, hx']
            obtain ⟨ad, rfl, _, _⟩ := ha i.toNat 0 _ (h2 0 _ (List.getElem?_eq_getElem hcp))
            refine ⟨.pointer (some (ad.add (i.toNat * szT P e))), ?_, ?_⟩
            · unfold indexAt
              simp only [asIntOf, Sem.run_bind, Sem.run_pure, Result.andThen_ok, run_underlying (elT_und he)]
              rw [if_pos ⟨h0, by omega⟩]
              simp only [Sem.run_bind, run_sz (P := P) (t := e) (by omega), Result.andThen_ok, Sem.run_pure]
            · simp only [RepA]
              refine ⟨_, fun j => vs i.toNat j, rfl, fun j y hj => ?_⟩
              obtain ⟨ad', e', hF, hc'⟩ := ha _ _ _ (h2 j y hj)
              injection e' with e'
              subst e'
              refine ⟨by unfold Addr.add; split <;> exact hF, ?_, hr _ _ _ (h2 j y hj)⟩
              rw [add_add, ← hl.1, hcl]; exact hc'
          · cases h
        · cases h
      · cases h
    · cases h
  · rename_i id n k i
    simp only [RepA] at hx hi
    rw [rep_int hi]
    split at h
    · rename_i e he
      split at h
      · rename_i h0
        injection h with h; subst h
        split at hx
        · rename_i b c hm
          obtain ⟨hnc, rfl⟩ := hx
          refine ⟨.pointer (some ⟨b, i.toNat * szT P e, none⟩), ?_, ?_⟩
          · unfold indexAt
            simp only [asIntOf, Sem.run_bind, Sem.run_pure, Result.andThen_ok, run_underlying (elT_und he)]
            rw [if_pos ⟨h0.1, by omega⟩]
            simp only [Sem.run_bind, run_sz (P := P) (t := e) h0.2.2, Result.andThen_ok, Sem.run_pure, add0]
          · simp only [RepA]
            exact ⟨b, c, hm, by simp⟩
        · omega
      · cases h
    · cases h
  · cases h

theorem fld_sound (s : TypeId) (f : Nat) {x r : A} {v : Value} (h : fldA P s f x = some r) (hx : RepA w M x v) : ∃ z, (fieldAt s v f).run P w = .ok z w ∧ RepA w M r z := by
  have key : ∀ (o : Nat) (t : TypeId) (ad : Addr), fldT P s f = some (o, t) → szT P t ≠ 0 → (fieldAt s (.pointer (some ad)) f).run P w = .ok (.pointer (some (ad.add o))) w := by
    intro o t ad hf hz
    obtain ⟨fs, fd, hu, hg, h1, h2⟩ := fldT_und hf
    simp only at h1 h2
    subst h1; subst h2
    unfold fieldAt
    simp only [Sem.run_bind, run_underlying hu, Result.andThen_ok, hg, sureAddr, Sem.run_pure]
    unfold fieldPlace
    simp only [Sem.run_bind, run_sz hz, Result.andThen_ok, if_neg hz, Sem.run_pure]
  unfold fldA at h
  split at h
  · split at h
    · rename_i o t hf
      split at h
      · cases h
      · rename_i hz
        injection h with h; subst h
        simp only [RepA] at hx
        obtain ⟨b, c, hm, rfl⟩ := hx
        exact ⟨_, key _ _ _ hf hz, by simp only [RepA]; exact ⟨b, c, hm, by rw [addb]⟩⟩
    · cases h
  · split at h
    · rename_i o t hf
      split at h
      · cases h
      · rename_i hz
        injection h with h; subst h
        simp only [RepA] at hx
        obtain ⟨b, c, hm, rfl⟩ := hx
        exact ⟨_, key _ _ _ hf hz, by simp only [RepA]; exact ⟨b, c, hm, by rw [addb, Nat.add_assoc]⟩⟩
    · cases h
  · split at h
    · rename_i o t hf
      split at h
      · cases h
      · rename_i hz
        injection h with h; subst h
        simp only [RepA] at hx
        obtain ⟨ad, vs, rfl, hr⟩ := hx
        refine ⟨_, key _ _ _ hf hz, ?_⟩
        simp only [RepA]
        refine ⟨_, fun j => vs (o + j), rfl, fun j x hj => ?_⟩
        have := hr (o + j) x (by simpa [List.getElem?_drop] using hj)
        rw [add_add]
        exact ⟨by unfold Addr.add; split <;> exact this.1, this.2.1, this.2.2⟩
    · cases h
  · cases h

theorem part_sound (t : TypeId) (off : Nat) {cs : List A} {vs : List Value} {r : A} (h : partA P t cs off = some r) (hx : RepL w M cs vs) : ∃ z, (part t vs.toArray off).run P w = .ok z w ∧ RepA w M r z := by
  unfold partA at h
  split at h
  · cases h
  · rename_i hd
    split at h
    · split at h
      · rename_i ha hl
        injection h with h; subst h
        refine ⟨.agg (vs.toArray.extract off (off + szT P t)), ?_, ?_⟩
        · unfold part
          simp only [Sem.run_bind, aggT_run hd, Result.andThen_ok, ha, if_true, run_sz (P := P) (t := t) hl.2, Sem.run_pure]
        · simp only [RepA]
          refine ⟨(vs.drop off).take (szT P t), ?_, (hx.drop off).take _⟩
          simp [List.extract_toArray]
      · cases h
    · rename_i ha
      obtain ⟨v, hv, hr⟩ := hx.get h
      refine ⟨v, ?_, hr⟩
      unfold part
      simp only [Sem.run_bind, aggT_run hd, Result.andThen_ok, ha, Bool.false_eq_true, if_false]
      simp [hv]

theorem index_sound (t : TypeId) {x i r : A} {v u : Value} (h : indexA P t x i = some r) (hx : RepA w M x v) (hi : RepA w M i u) : ∃ z, (index t v u).run P w = .ok z w ∧ RepA w M r z := by
  unfold indexA at h
  split at h
  · rename_i s k i
    simp only [RepA] at hx hi
    rw [rep_int hi, rep_str hx]
    split at h
    · rename_i hu
      split at h
      · rename_i h0
        split at h
        · rename_i b hb
          injection h with h; subst h
          refine ⟨.int .u8 b.toNat, ?_, .int _ _⟩
          unfold index
          simp only [asIntOf, Sem.run_bind, Sem.run_pure, Result.andThen_ok, run_underlying hu, if_pos h0, hb]
        · cases h
      · cases h
    · cases h
  · cases h

/-! ### x[lo:hi] -/
def RepO (w : World) (M : Mu) : Option A → Option Value → Prop
  | none, none => True
  | some a, some v => RepA w M a v
  | _, _ => False
theorem intA_sound {a : Option A} {v : Option Value} {i : Option Int} (h : intA a = some i) (hr : RepO w M a v) : (i = none ∧ v = none) ∨ ∃ k n, i = some n ∧ v = some (.int k n) := by
  unfold intA at h
  split at h
  · injection h with h; subst h
    cases v with
    | none => exact .inl ⟨rfl, rfl⟩
    | some v => simp [RepO] at hr
  · rename_i k n
    injection h with h; subst h
    cases v with
    | none => simp [RepO] at hr
    | some v => simp only [RepO, RepA] at hr; rw [rep_int hr]; exact .inr ⟨k, n, rfl, rfl⟩
  · cases h
theorem bounds_sound (b : Bool) (len cap : Nat) {lo hi : Option A} {vlo vhi : Option Value} {l h : Option Int} (hl : intA lo = some l) (hh : intA hi = some h) (rl : RepO w M lo vlo) (rh : RepO w M hi vhi)
    (h0 : 0 ≤ l.getD 0) (h1 : l.getD 0 ≤ h.getD len) (h2 : h.getD len ≤ cap) : (sliceBounds b len cap vlo vhi none).run P w = .ok ((l.getD 0).toNat, (h.getD len).toNat, cap) w := by
  have sb : ∀ k (n : Int) (y : Nat) c, 0 ≤ n → n ≤ y → (sliceBound (.int k n) y c).run P w = .ok n.toNat w := by
    intro k n y c q1 q2
    unfold sliceBound
    simp only [asIntOf, Sem.run_bind, Sem.run_pure, Result.andThen_ok]
    rw [if_pos ⟨q1, q2⟩]; simp
  unfold sliceBounds
  rcases intA_sound hh rh with ⟨rfl, rfl⟩ | ⟨k2, n2, rfl, rfl⟩
  · rcases intA_sound hl rl with ⟨rfl, rfl⟩ | ⟨k1, n1, rfl, rfl⟩
    · simp
    · simp only [Option.getD_some, Option.getD_none] at *
      simp only [Sem.run_bind, Sem.run_pure, Result.andThen_ok, sb k1 n1 len _ h0 h1]
      simp
  · rcases intA_sound hl rl with ⟨rfl, rfl⟩ | ⟨k1, n1, rfl, rfl⟩
    · simp only [Option.getD_some, Option.getD_none] at *
      simp only [Sem.run_bind, Sem.run_pure, Result.andThen_ok, sb k2 n2 cap _ h1 h2]
      simp
    · simp only [Option.getD_some] at *
      simp only [Sem.run_bind, Sem.run_pure, Result.andThen_ok, sb k2 n2 cap _ (by omega) h2, sb k1 n1 n2.toNat _ h0 (by omega)]

theorem slice_run (t e : TypeId) (he : P.underlying t = some (.slice e)) (hz : szT P e ≠ 0) (a : Option Addr) (len cap : Nat) {vlo vhi : Option Value} {l h : Nat}
    (hb : (sliceBounds true len cap vlo vhi none).run P w = .ok (l, h, cap) w) : (sliceAt t (.slice a len cap) vlo vhi none).run P w = .ok (.slice (if cap = l then a else a.map (·.add (l * szT P e))) (h - l) (cap - l)) w := by
  unfold sliceAt
  simp only [Sem.run_bind, run_underlying he, Result.andThen_ok]
  unfold slice
  simp only [Sem.run_bind, run_underlying he, Result.andThen_ok, hb, run_sz hz, Sem.run_pure]

theorem at2_drop_take {es : List (List D)} {l h i j : Nat} {x : D} (q : at2 ((es.take h).drop l) i j = some x) : l + i < h ∧ at2 es (l + i) j = some x := by
  unfold at2 at *
  rw [List.getElem?_drop] at q
  by_cases hlt : l + i < h
  · exact ⟨hlt, by rwa [List.getElem?_take_of_lt hlt] at q⟩
  · rw [List.getElem?_take_eq_none (by omega)] at q; simp at q

theorem sliceA_sound (t : TypeId) {x r : A} {v : Value} {lo hi : Option A} {vlo vhi : Option Value} (h : sliceA P t x lo hi = some r) (hx : RepA w M x v) (rl : RepO w M lo vlo) (rh : RepO w M hi vhi) :
    ∃ z, (sliceAt t v vlo vhi none).run P w = .ok z w ∧ RepA w M r z := by
  unfold sliceA at h
  split at h
  · rename_i l u hl hu
    split at h
    · rename_i es
      simp only [RepA] at hx
      obtain ⟨a, c, sz, vs, rfl, hc, hsz, ha, hr⟩ := rep_sl hx
      split at h
      · rename_i e he
        split at h
        · rename_i hq
          obtain ⟨q0, q1, q2, q3, q4⟩ := hq
          injection h with h; subst h
          have hb := bounds_sound (P := P) (w := w) (M := M) true es.length c hl hu rl rh q0 q1 (by omega)
          refine ⟨_, slice_run t e (elT_und he) (by omega) a es.length c hb, ?_⟩
          simp only [RepA]
          have hlen : ((es.take (u.getD ↑es.length).toNat).drop (l.getD 0).toNat).length = (u.getD ↑es.length).toNat - (l.getD 0).toNat := by
            simp only [List.length_drop, List.length_take]; omega
          rw [← hlen]
          refine .sl _ _ sz _ (fun i j => vs ((l.getD 0).toNat + i) j) (by omega) (fun e' he' => hsz e' (List.mem_of_mem_take (List.mem_of_mem_drop he'))) ?_ ?_
          · intro i j y hy
            obtain ⟨hlt, hy'⟩ := at2_drop_take hy
            obtain ⟨ad, rfl, hF, hcell⟩ := ha _ _ _ hy'
            rw [if_neg (by omega)]
            have hsz' : szT P e = sz := by
              unfold at2 at hy'
              cases he2 : es[(l.getD 0).toNat + i]? with
              | none => simp [he2] at hy'
              | some e' => rw [← q4 e' (List.mem_of_getElem? he2), hsz e' (List.mem_of_getElem? he2)]
            refine ⟨ad.add ((l.getD 0).toNat * szT P e), rfl, by unfold Addr.add; split <;> exact hF, ?_⟩
            rw [add_add, hsz']
            have : (l.getD 0).toNat * sz + (i * sz + j) = ((l.getD 0).toNat + i) * sz + j := by rw [Nat.add_mul]; omega
            rw [this]; exact hcell
          · intro i j y hy
            exact hr _ _ _ (at2_drop_take hy).2
        · cases h
      · cases h
    · rename_i id n
      simp only [RepA] at hx
      split at h
      · rename_i e he
        split at h
        · rename_i hq
          obtain ⟨q0, q1, q2, q3⟩ := hq
          injection h with h; subst h
          split at hx
          · rename_i b c hm
            obtain ⟨hnc, rfl⟩ := hx
            have hb := bounds_sound (P := P) (w := w) (M := M) true n c hl hu rl rh (by omega) (by omega) (by omega)
            refine ⟨_, slice_run t e (elT_und he) q3 _ n c hb, ?_⟩
            simp only [RepA, hm]
            refine ⟨by omega, ?_⟩
            have h0 : (l.getD 0).toNat = 0 := by omega
            rw [h0]
            simp [Addr.add]
          · rename_i hm
            obtain ⟨rfl, rfl⟩ := hx
            have hb := bounds_sound (P := P) (w := w) (M := M) true 0 0 hl hu rl rh (by omega) (by omega) (by omega)
            refine ⟨_, slice_run t e (elT_und he) q3 _ 0 0 hb, ?_⟩
            simp only [RepA, hm]
            have h0 : (l.getD 0).toNat = 0 := by omega
            have h1 : (u.getD ↑(0 : Nat)).toNat = 0 := by omega
            rw [h0, h1]
            exact ⟨rfl, by simp⟩
        · cases h
      · cases h
    · simp only [RepA] at hx
      subst hx
      split at h
      · rename_i e he
        split at h
        · rename_i hq
          obtain ⟨q0, q1, q3⟩ := hq
          injection h with h; subst h
          have hb := bounds_sound (P := P) (w := w) (M := M) true 0 0 hl hu rl rh (by omega) (by simpa using by omega) (by simpa using by omega)
          refine ⟨_, slice_run t e (elT_und he) q3 _ 0 0 hb, ?_⟩
          simp only [RepA]
          have h0 : (l.getD 0).toNat = 0 := by omega
          have h1 : (u.getD ↑(0 : Nat)).toNat = 0 := by simpa using by omega
          rw [h0, h1]
          simp
        · cases h
      · cases h
    · rename_i s
      simp only [RepA] at hx
      rw [rep_str hx]
      split at h
      · rename_i hu'
        split at h
        · rename_i hq
          obtain ⟨q0, q1, q2⟩ := hq
          injection h with h; subst h
          have hb := bounds_sound (P := P) (w := w) (M := M) false s.size s.size hl hu rl rh q0 q1 q2
          refine ⟨.string (s.extract (l.getD 0).toNat (u.getD ↑s.size).toNat), ?_, .str _⟩
          unfold sliceAt
          simp only [Sem.run_bind, run_underlying hu', Result.andThen_ok]
          unfold slice
          simp only [Sem.run_bind, run_underlying hu', Result.andThen_ok, Option.isSome_none, Bool.false_eq_true, if_false, hb, Sem.run_pure]
        · cases h
      · cases h
    · cases h
  · cases h

/-! ### literals of structs and arrays -/
theorem putAt_cons {α : Type} (cs : List α) (off : Nat) (x : α) (l : List α) (h : off + (l.length + 1) ≤ cs.length) : putAt (cs.set off x) (off + 1) l = putAt cs off (x :: l) := by
  unfold putAt
  have h1 : (cs.set off x).take (off + 1) = cs.take off ++ [x] := by
    rw [List.take_succ_eq_append_getElem (by simp; omega), List.take_set_of_le (Nat.le_refl _)]
    simp
  have h2 : (cs.set off x).drop (off + 1 + l.length) = cs.drop (off + (l.length + 1)) := by
    rw [List.drop_set_of_lt (by omega)]
    congr 1; omega
  rw [h1, h2]
  simp
theorem fold_put (l : List Value) (off k : Nat) (cs : Array Value) (h : off + k + l.length ≤ cs.size) :
    ((l.zipIdx k).foldl (fun (cs : Array Value) x => cs.setIfInBounds (off + x.2) x.1) cs).toList = putAt cs.toList (off + k) l := by
  induction l generalizing k cs with
  | nil => simp [putAt]
  | cons x l ih =>
    simp only [List.length_cons] at h
    rw [List.zipIdx_cons, List.foldl_cons, ih (k + 1) _ (by simp; omega)]
    simp only [Array.toList_setIfInBounds]
    rw [← putAt_cons _ (off + k) x l (by simpa using by omega)]
    rfl
theorem leafs_sound {a : A} {v : Value} {l : List A} (h : leafs a = some l) (hr : RepA w M a v) : RepL w M l v.cells.toList := by
  unfold leafs at h
  split at h
  · injection h with h; subst h
    simp only [RepA] at hr
    obtain ⟨vs, rfl, hr⟩ := hr
    simpa [Value.cells] using hr
  · cases h
  · cases h
  · rename_i h1 h2 h3
    injection h with h; subst h
    have : v.cells = #[v] := by
      cases a with
      | d x => simp only [RepA] at hr; cases hr <;> rfl
      | es => simp only [RepA] at hr; rw [hr]; rfl
      | os id n => simp only [RepA] at hr; split at hr
                   · rw [hr.2]; rfl
                   · rw [hr.2]; rfl
      | ptr id off => simp only [RepA] at hr; obtain ⟨_, _, _, rfl⟩ := hr; rfl
      | pe id i sz off => simp only [RepA] at hr; obtain ⟨_, _, _, rfl⟩ := hr; rfl
      | dp cs => simp only [RepA] at hr; obtain ⟨_, _, rfl, _⟩ := hr; rfl
      | fn f cap => simp only [RepA] at hr; obtain ⟨_, rfl, _⟩ := hr; rfl
      | agg cs => exact absurd rfl (h1 cs)
      | tup cs => exact absurd rfl (h2 cs)
      | undef => simp only [RepA] at hr; rw [hr]; rfl
      | junk => exact absurd rfl h3
    rw [this]
    simpa [RepL] using hr
def RepP (w : World) (M : Mu) : List (Nat × A) → List (Nat × Value) → Prop
  | [], [] => True
  | (i, a) :: l, (j, v) :: l' => i = j ∧ RepA w M a v ∧ RepP w M l l'
  | [], _ :: _ => False
  | _ :: _, [] => False
theorem repP_map {xs : List (Nat × Operand)} {f : Operand → A} {g : Operand → Value} (h : ∀ x, RepA w M (f x) (g x)) : RepP w M (xs.map fun x => (x.1, f x.2)) (xs.map fun x => (x.1, g x.2)) := by
  induction xs with
  | nil => simp [RepP]
  | cons x xs ih => simp only [List.map_cons, RepP]; exact ⟨trivial, h _, ih⟩
theorem fill_sound {fs : Nat → Option (Nat × Nat)} {cells : List A} {parts : List (Nat × A)} {r : List A} {cs : Array Value} {ps : List (Nat × Value)} (h : fillA P fs cells parts = some r)
    (hc : RepL w M cells cs.toList) (hp : RepP w M parts ps) : ∃ cs', fill fs cs ps = some cs' ∧ RepL w M r cs'.toList := by
  induction parts generalizing cells cs ps with
  | nil =>
    cases ps with
    | nil => simp only [fillA, Option.some.injEq] at h; subst h; exact ⟨cs, rfl, hc⟩
    | cons p ps => simp [RepP] at hp
  | cons p parts ih =>
    obtain ⟨i, a⟩ := p
    cases ps with
    | nil => simp [RepP] at hp
    | cons q ps =>
      obtain ⟨j, v⟩ := q
      simp only [RepP] at hp
      obtain ⟨rfl, ha, hp⟩ := hp
      simp only [fillA] at h
      split at h
      · rename_i off size l hf hl
        split at h
        · rename_i hq
          have hl' := leafs_sound hl ha
          have hlen := hl'.length
          have hcl := hc.length
          simp only [Array.length_toList] at hlen hcl
          simp only [fill, hf]
          rw [if_neg (by simp; omega)]
          refine ih h ?_ hp
          have := fold_put v.cells.toList off 0 cs (by simp; omega)
          rw [← Array.foldl_toList, Array.toList_zipIdx]
          rw [show (fun (cs : Array Value) (x : Value × Nat) => match x with | (c, j) => cs.setIfInBounds (off + j) c) = fun cs x => cs.setIfInBounds (off + x.2) x.1 from rfl]
          rw [this]
          exact hc.putAt hl' off
        · cases h
      · cases h

theorem mapM_sizes {fs : List Field} (h : ∀ f ∈ fs, szT P f.type ≠ 0) : (fs.mapM fun f => (do pure (f.offset, ← sizeOf f.type) : Sem (Nat × Nat))).run P w = .ok (fs.map fun f => (f.offset, szT P f.type)) w := by
  induction fs with
  | nil => simp
  | cons f fs ih =>
    rw [List.mapM_cons]
    simp only [Sem.run_bind, run_sz (h f (by simp)), Result.andThen_ok, Sem.run_pure, ih fun g hg => h g (by simp [hg]), List.map_cons]

theorem build_sound (t : TypeId) {parts : List (Nat × A)} {ps : Array (Nat × Value)} {r : A} (h : buildA P t parts = some r) (hp : RepP w M parts ps.toList) : ∃ z, (build t ps).run P w = .ok z w ∧ RepA w M r z := by
  have hz0 : ∀ {z : List A}, zeroT P t = some z → ∃ v, (zeroValue t).run P w = .ok v w ∧ RepL w M z v.cells.toList := by
    intro z hz
    unfold zeroT at hz
    cases hi : P.info? t with
    | none => simp [hi] at hz
    | some i =>
      cases hv : i.zero with
      | none => simp [hi, hv] at hz
      | some v =>
        simp [hi, hv] at hz
        refine ⟨v, by simp [zeroValue, typeInfo, hi, hv], ?_⟩
        subst hz
        have := repL_map (w := w) (M := M) (xs := v.cells.toList) (f := ofLeaf) (g := id) fun x _ => ofLeaf_rep x
        simpa using this
  unfold buildA at h
  split at h
  · rename_i z fs hz hu
    split at h
    · rename_i hall
      cases hf : fillA P (fun i => (fldT P t i).map fun x => (x.1, szT P x.2)) z parts with
      | none => simp [hf] at h
      | some r' =>
        simp [hf] at h
        subst h
        obtain ⟨v, hv, hr⟩ := hz0 hz
        obtain ⟨cs', hfill, hr'⟩ := fill_sound hf hr hp
        refine ⟨.agg cs', ?_, by simp only [RepA]; exact ⟨cs'.toList, by simp, hr'⟩⟩
        have hm : (fs.mapM fun f => (do pure (f.offset, ← sizeOf f.type) : Sem (Nat × Nat))).run P w = .ok (fs.map fun f => (f.offset, szT P f.type)) w := by
          rw [Array.mapM_eq_mapM_toList]
          have := mapM_sizes (P := P) (w := w) (fs := fs.toList) (by
            intro f hf
            have := List.all_eq_true.1 hall f hf
            simpa using this)
          rw [map_eq_pure_bind, Sem.run_bind, this, Result.andThen_ok, Sem.run_pure]
          congr 1
          exact Array.toList_inj.1 (by simp)
        unfold build
        simp only [Sem.run_bind, hv, Result.andThen_ok, run_underlying hu, hm]
        have hplace : (fun i => (fs.map fun f => (f.offset, szT P f.type))[i]?) = fun i => (fldT P t i).map fun x => (x.1, szT P x.2) := by
          funext i
          simp [fldT, hu, Option.map_map]
          rfl
        rw [hplace, hfill]
        simp
    · cases h
  · rename_i z n e hz hu
    split at h
    · rename_i hs
      cases hf : fillA P (fun i => some (i * szT P e, szT P e)) z parts with
      | none => simp [hf] at h
      | some r' =>
        simp [hf] at h
        subst h
        obtain ⟨v, hv, hr⟩ := hz0 hz
        obtain ⟨cs', hfill, hr'⟩ := fill_sound hf hr hp
        refine ⟨.agg cs', ?_, by simp only [RepA]; exact ⟨cs'.toList, by simp, hr'⟩⟩
        unfold build
        simp only [Sem.run_bind, hv, Result.andThen_ok, run_underlying hu, run_sz hs, hfill]
        simp
    · cases h
  · cases h

theorem repO_map {ρ : Operand → A} {σ : Operand → Value} (h : ∀ x, RepA w M (ρ x) (σ x)) (x : Option Operand) : RepO w M (x.map ρ) (x.map σ) := by
  cases x with
  | none => simp [RepO]
  | some x => exact h x
theorem len_sound (t : TypeId) {x r : A} {v : Value} (ty : TypeId) (h : (match P.underlying t with
      | some (.slice _) => (match x with | .d (.str _) => none | a => lenA a)
      | some .string => (match x with | .d (.str s) => lenA (.d (.str s)) | _ => none)
      | _ => none) = some r) (hx : RepA w M x v) : ∃ z, (Builtin.len_ #[t] ty #[v]).run P w = .ok z w ∧ RepA w M r z := by
  split at h
  · rename_i e hu
    have key : ∀ (a : Option Addr) (n c : Nat), (Builtin.len_ #[t] ty #[.slice a n c]).run P w = .ok (.int .i64 n) w := by
      intro a n c
      simp [Builtin.len_, run_underlying hu, goInt]
    split at h
    · cases h
    · unfold lenA at h
      split at h
      · injection h with h; subst h
        simp only [RepA] at hx
        obtain ⟨a, c, sz, vs, rfl, _⟩ := rep_sl hx
        exact ⟨_, key _ _ _, .int _ _⟩
      · rename_i hne; exact absurd rfl (hne _)
      · injection h with h; subst h
        simp only [RepA] at hx
        subst hx
        exact ⟨_, key _ _ _, .int _ _⟩
      · injection h with h; subst h
        simp only [RepA] at hx
        split at hx
        · rw [hx.2]; exact ⟨_, key _ _ _, .int _ _⟩
        · rw [hx.1, hx.2]; exact ⟨_, key _ _ _, .int _ _⟩
      · cases h
  · rename_i hu
    split at h
    · rename_i s
      simp only [lenA, Option.some.injEq] at h
      subst h
      simp only [RepA] at hx
      rw [rep_str hx]
      exact ⟨.int .i64 s.size, by simp [Builtin.len_, run_underlying hu, goInt], .int _ _⟩
    · cases h
  · cases h

theorem pure_sound {a : Act} {ρ : Operand → A} (hr : ∀ x, RepA w M (ρ x) (a.eval x)) (o : Oper) {r : A} (h : pureA P o.op ρ = some r) :
    ∃ z, (execOp a.eval o).run P w = .ok (.value z) w ∧ RepA w M r z := by
  have fin' : ∀ {m : Sem Value}, (∃ z, m.run P w = .ok z w ∧ RepA w M r z) → ∃ z, ((m.run P w).andThen fun a w' => Result.ok (Next.value a) w') = .ok (.value z) w ∧ RepA w M r z := by
    rintro m ⟨z, hz, hz'⟩
    exact ⟨z, by simp [hz], hz'⟩
  have fin : ∀ {m : Sem Value}, (∃ z, m.run P w = .ok z w ∧ RepA w M r z) → ∃ z, (do pure (.value (← m)) : Sem Next).run P w = .ok (.value z) w ∧ RepA w M r z := by
    rintro m ⟨z, hz, hz'⟩
    exact ⟨z, by simp [hz], hz'⟩
  unfold pureA at h
  unfold execOp
  split at h
  · rename_i x heq
    simp only [heq]
    injection h with h; subst h
    exact ⟨_, by simp, hr x⟩
  · rename_i x heq
    simp only [heq]
    injection h with h; subst h
    exact ⟨_, by simp, hr x⟩
  · rename_i c x y heq
    simp only [heq]
    have hc := hr c
    split at h
    · rename_i hcb; injection h with h; subst h
      rw [hcb] at hc; simp only [RepA] at hc
      exact ⟨_, by simp [rep_bool hc, asBool], hr x⟩
    · rename_i hcb; injection h with h; subst h
      rw [hcb] at hc; simp only [RepA] at hc
      exact ⟨_, by simp [rep_bool hc, asBool], hr y⟩
    · cases h
  · rename_i t ps heq
    simp only [heq]
    exact fin (build_sound t h (by
      have := repP_map (xs := ps.toList) hr
      simpa using this))
  · rename_i x heq
    simp only [heq]
    have hx := hr x
    split at h
    · rename_i hq; injection h with h; subst h
      rw [hq] at hx
      have hx' := hx
      simp only [RepA] at hx'
      obtain ⟨b, c, hm, hv⟩ := hx'
      exact ⟨a.eval x, by rw [hv]; rfl, hx⟩
    · rename_i hq; injection h with h; subst h
      rw [hq] at hx
      have hx' := hx
      simp only [RepA] at hx'
      obtain ⟨b, c, hm, hv⟩ := hx'
      exact ⟨a.eval x, by rw [hv]; rfl, hx⟩
    · rename_i hq; injection h with h; subst h
      rw [hq] at hx
      have hx' := hx
      simp only [RepA] at hx'
      obtain ⟨b, c, hv, _⟩ := hx'
      exact ⟨a.eval x, by rw [hv]; rfl, hx⟩
    · rename_i cs hq; injection h with h; subst h
      rw [hq] at hx
      simp only [RepA] at hx
      generalize hv : a.eval x = v at hx
      cases hx with
      | pt ad cs vs ha hr' =>
        refine ⟨a.eval x, by rw [hv]; rfl, ?_⟩
        rw [hv]
        simp only [RepA]
        exact ⟨ad, vs, rfl, fun j y hy => ⟨(ha j y hy).1, (ha j y hy).2, hr' j y hy⟩⟩
    · rename_i hq; injection h with h; subst h
      rw [hq] at hx
      have hx' := hx
      simp only [RepA] at hx'
      obtain ⟨vs, hv, _⟩ := hx'
      exact ⟨a.eval x, by rw [hv]; rfl, hx⟩
    · cases h
  · rename_i op t x y t2 heq
    simp only [heq]
    exact fin (bin_sound op t x y h (hr x) (hr y))
  · rename_i op t x heq
    simp only [heq]
    exact fin (un_sound op h (hr x))
  · rename_i s d x heq
    simp only [heq]
    exact fin (conv_sound s d h (hr x))
  · rename_i t x lo hi heq
    simp only [heq]
    exact fin (sliceA_sound t h (hr x) (repO_map hr lo) (repO_map hr hi))
  · rename_i s x f heq
    simp only [heq]
    exact fin (fld_sound s f h (hr x))
  · rename_i t x f heq
    simp only [heq]
    have hx := hr x
    split at h
    · rename_i cs off u hq hf
      rw [hq] at hx
      simp only [RepA] at hx
      obtain ⟨vs, hv, hl⟩ := hx
      obtain ⟨fs, fd, hu, hg, h1, h2⟩ := fldT_und hf
      simp only at h1 h2
      subst h1; subst h2
      refine fin ?_
      obtain ⟨z, hz, hz'⟩ := part_sound (P := P) _ _ h hl
      refine ⟨z, ?_, hz'⟩
      unfold field
      simp only [Sem.run_bind, run_underlying hu, Result.andThen_ok, hg, hv, asAgg, Sem.run_pure, hz]
    · cases h
  · rename_i t x i heq
    simp only [heq]
    exact fin (idx_sound t h (hr x) (hr i))
  · rename_i t x i heq
    simp only [heq]
    exact fin (index_sound t h (hr x) (hr i))
  · rename_i f first cap heq
    simp only [heq]
    split at h
    · rename_i h0
      injection h with h; subst h
      refine fin ⟨.func (.func f) #[] (cap.map a.eval), ?_, ?_⟩
      · simp [makeFunc, Array.eq_empty_of_size_eq_zero h0]
      · simp only [RepA]
        exact ⟨cap.toList.map a.eval, congrArg (Value.func _ _) (Array.toList_inj.1 (by simp)), repL_map fun x _ => hr x⟩
    · cases h
  · rename_i x i heq
    simp only [heq]
    have hx := hr x
    split at h
    · rename_i vs hq
      rw [hq] at hx
      simp only [RepA] at hx
      obtain ⟨us, hv, hl⟩ := hx
      obtain ⟨u, hu, hu'⟩ := hl.get h
      refine fin ⟨u, ?_, hu'⟩
      simp [extract, hv, hu]
    · cases h
  · rename_i xs ts heq
    simp only [heq]
    split at h
    · rename_i x t hx ht
      have e1 : xs = #[x] := by cases xs; simp_all
      have e2 : ts = #[t] := by cases ts; simp_all
      subst e1; subst e2
      simp only [resolve, List.map_toArray, List.map_cons, List.map_nil, Sem.run_bind, Sem.run_pure, Result.andThen_ok, invoke, builtin]
      exact fin' (len_sound t o.type h (hr x))
    · cases h
  · rename_i xs ts heq
    simp only [heq]
    split at h
    · rename_i x y hx
      have e1 : xs = #[x, y] := by cases xs; simp_all
      subst e1
      split at h
      · rename_i k p k' q hp hq
        split at h
        · rename_i hk
          subst hk
          injection h with h; subst h
          have r1 := hr x
          have r2 := hr y
          rw [hp] at r1; rw [hq] at r2
          simp only [RepA] at r1 r2
          simp only [resolve, List.map_toArray, List.map_cons, List.map_nil, Sem.run_bind, Sem.run_pure, Result.andThen_ok, invoke, builtin, rep_int r1, rep_int r2]
          refine fin' ⟨.int k (if p < q then q else p), ?_, .int _ _⟩
          simp [Builtin.max_, Builtin.max2]
        · cases h
      · cases h
    · cases h
  · rename_i xs ts heq
    simp only [heq]
    split at h
    · rename_i x y hx
      have e1 : xs = #[x, y] := by cases xs; simp_all
      subst e1
      split at h
      · rename_i k p k' q hp hq
        split at h
        · rename_i hk
          subst hk
          injection h with h; subst h
          have r1 := hr x
          have r2 := hr y
          rw [hp] at r1; rw [hq] at r2
          simp only [RepA] at r1 r2
          simp only [resolve, List.map_toArray, List.map_cons, List.map_nil, Sem.run_bind, Sem.run_pure, Result.andThen_ok, invoke, builtin, rep_int r1, rep_int r2]
          refine fin' ⟨.int k (if q < p then q else p), ?_, .int _ _⟩
          simp [Builtin.min_, Builtin.min2]
        · cases h
      · cases h
    · cases h
  · cases h
end
end Go.AX

namespace Go.AX

mutual
def refsA : A → List Nat
  | .os id _ => [id]
  | .ptr id _ => [id]
  | .pe id _ _ _ => [id]
  | .fn _ cap => refsL cap
  | .agg cs => refsL cs
  | .tup cs => refsL cs
  | .d _ => []
  | .es => []
  | .dp _ => []
  | .undef => []
  | .junk => []
def refsL : List A → List Nat
  | [] => []
  | a :: l => refsA a ++ refsL l
end
def refsO : O → List Nat
  | .box _ cs => refsL cs
  | _ => []
theorem refsL_mem {l : List A} {a : A} (h : a ∈ l) {i : Nat} (hi : i ∈ refsA a) : i ∈ refsL l := by
  induction l with
  | nil => cases h
  | cons b l ih =>
    simp only [refsL, List.mem_append]
    rcases List.mem_cons.1 h with rfl | h
    · exact .inl hi
    · exact .inr (ih h)
theorem refsL_sub {l l' : List A} (h : ∀ a ∈ l, a ∈ l') {i : Nat} (hi : i ∈ refsL l) : i ∈ refsL l' := by
  induction l with
  | nil => simp [refsL] at hi
  | cons b l ih =>
    simp only [refsL, List.mem_append] at hi
    rcases hi with hi | hi
    · exact refsL_mem (h b (by simp)) hi
    · exact ih (fun a ha => h a (by simp [ha])) hi
theorem refsL_append (l l' : List A) : refsL (l ++ l') = refsL l ++ refsL l' := by
  induction l with
  | nil => simp [refsL]
  | cons a l ih => simp [refsL, ih]

/-! ### more blocks, other blocks -/
theorem cell_same {w w' : World} {ad : Addr} (h : w'.heap[ad.block]? = w.heap[ad.block]?) : w'.cell? ad = w.cell? ad := by
  unfold World.cell?; rw [h]
theorem add_block (ad : Addr) (n : Nat) : (ad.add n).block = ad.block := by unfold Addr.add; split <;> rfl
theorem Rep.mono {w w' : World} {F F' : Nat → Prop} {v : Value} {x : D} (h : Rep w F v x) (hw : ∀ b, F b → F' b ∧ w'.heap[b]? = w.heap[b]?) : Rep w' F' v x := by
  induction h with
  | int k n => exact .int k n
  | bool b => exact .bool b
  | str s => exact .str s
  | sl a c sz es vs hc hsz ha hr ih =>
    refine .sl a c sz es vs hc hsz (fun i j x hx => ?_) (fun i j x hx => ih i j x hx)
    obtain ⟨ad, rfl, hF, hcell⟩ := ha i j x hx
    exact ⟨ad, rfl, (hw _ hF).1, (cell_same (by rw [add_block]; exact (hw _ hF).2)).trans hcell⟩
  | np => exact .np
  | pt ad cs vs ha hr ih =>
    refine .pt ad cs vs (fun j x hx => ?_) (fun j x hx => ih j x hx)
    obtain ⟨hF, hcell⟩ := ha j x hx
    exact ⟨(hw _ hF).1, (cell_same (by rw [add_block]; exact (hw _ hF).2)).trans hcell⟩

theorem at2_lt {es : List (List D)} {i j : Nat} {x : D} (h : at2 es i j = some x) {sz : Nat} (hsz : ∀ e ∈ es, e.length = sz) : i < es.length ∧ j < sz := by
  unfold at2 at h
  cases he : es[i]? with
  | none => simp [he] at h
  | some e =>
    simp [he] at h
    have h1 := (List.getElem?_eq_some_iff.1 he).1
    have h2 := (List.getElem?_eq_some_iff.1 h).1
    exact ⟨h1, by rw [← hsz e (List.mem_of_getElem? he)]; exact h2⟩
theorem at2_some {es : List (List D)} {i j sz : Nat} (hi : i < es.length) (hj : j < sz) (hsz : ∀ e ∈ es, e.length = sz) : ∃ x, at2 es i j = some x := by
  unfold at2
  rw [List.getElem?_eq_getElem hi]
  have := hsz es[i] (List.getElem_mem hi)
  exact ⟨_, List.getElem?_eq_getElem (by omega)⟩
theorem RepX.mono {P : Program} {w w' : World} {B : List Nat} {v : Value} {x : D} (h : RepX P w B v x) (hw : ∀ b ∈ B, w'.heap[b]? = w.heap[b]?) : RepX P w' B v x := by
  induction h with
  | int k n => exact .int k n
  | bool b => exact .bool b
  | str s => exact .str s
  | np => exact .np
  | nil a c => exact .nil a c
  | sl b c sz es cs t vs Bs hb hc hsz hcs ha hr B hB hsub hdis ih =>
    exact .sl b c sz es cs t vs Bs (by rw [hw b hB]; exact hb) hc hsz hcs ha (fun i j x hx => ih i j x hx fun b' hb' => hw b' (hsub i j x hx b' hb').1) B hB hsub hdis
theorem RepX.sup {P : Program} {w : World} {B B' : List Nat} {v : Value} {x : D} (h : RepX P w B v x) (hs : ∀ b ∈ B, b ∈ B') (hn : B = [] → B' = []) : RepX P w B' v x := by
  cases h with
  | int k n => rw [hn rfl]; exact .int k n
  | bool b => rw [hn rfl]; exact .bool b
  | str s => rw [hn rfl]; exact .str s
  | np => rw [hn rfl]; exact .np
  | nil a c => rw [hn rfl]; exact .nil a c
  | sl b c sz es cs t vs Bs hb hc hsz hcs ha hr B hB hsub hdis => exact .sl b c sz es cs t vs Bs hb hc hsz hcs ha hr B' (hs b hB) (fun i j x hx b' hb' => ⟨hs b' (hsub i j x hx b' hb').1, (hsub i j x hx b' hb').2⟩) hdis
theorem RepX.rep {P : Program} {w : World} {B : List Nat} {v : Value} {x : D} (h : RepX P w B v x) {F : Nat → Prop} (hF : ∀ b ∈ B, F b) : Rep w F v x := by
  induction h with
  | int k n => exact .int k n
  | bool b => exact .bool b
  | str s => exact .str s
  | np => exact .np
  | nil a c => exact .sl a c 0 [] (fun _ _ => undef) (by simp) (by simp) (by simp [at2]) (by simp [at2])
  | sl b c sz es cs t vs Bs hb hc hsz hcs ha hr B hB hsub hdis ih =>
    refine .sl _ c sz es vs hc hsz (fun i j x hx => ⟨_, rfl, hF b hB, ?_⟩) (fun i j x hx => ih i j x hx fun b' hb' => hF b' (hsub i j x hx b' hb').1)
    rw [add0]
    have := ha i j x hx
    simp [World.cell?, hb, this]

mutual
theorem RepA.mono {w w' : World} {M M' : Mu} (hw : ∀ b, M.F b → M'.F b ∧ w'.heap[b]? = w.heap[b]?) : ∀ {a : A} {v : Value}, RepA w M a v → (∀ id ∈ refsA a, M'.m id = M.m id) → RepA w' M' a v
  | .d x, v, h, _ => by simp only [RepA] at h ⊢; exact h.mono hw
  | .es, v, h, _ => by simpa only [RepA] using h
  | .os id n, v, h, hm => by simp only [RepA] at h ⊢; rw [hm id (by simp [refsA])]; exact h
  | .ptr id off, v, h, hm => by simp only [RepA] at h ⊢; rw [hm id (by simp [refsA])]; exact h
  | .pe id i sz off, v, h, hm => by simp only [RepA] at h ⊢; rw [hm id (by simp [refsA])]; exact h
  | .dp cs, v, h, _ => by
    simp only [RepA] at h ⊢
    obtain ⟨ad, vs, rfl, hc⟩ := h
    refine ⟨ad, vs, rfl, fun j x hx => ?_⟩
    obtain ⟨h1, h2, h3⟩ := hc j x hx
    exact ⟨(hw _ h1).1, (cell_same (by rw [add_block]; exact (hw _ h1).2)).trans h2, h3.mono hw⟩
  | .fn f cap, v, h, hm => by
    simp only [RepA] at h ⊢
    obtain ⟨vs, rfl, hl⟩ := h
    exact ⟨vs, rfl, RepL.mono hw hl (by simpa only [refsA] using hm)⟩
  | .agg cs, v, h, hm => by
    simp only [RepA] at h ⊢
    obtain ⟨vs, rfl, hl⟩ := h
    exact ⟨vs, rfl, RepL.mono hw hl (by simpa only [refsA] using hm)⟩
  | .tup cs, v, h, hm => by
    simp only [RepA] at h ⊢
    obtain ⟨vs, rfl, hl⟩ := h
    exact ⟨vs, rfl, RepL.mono hw hl (by simpa only [refsA] using hm)⟩
  | .undef, v, h, _ => by simpa only [RepA] using h
  | .junk, v, _, _ => by simp only [RepA]
theorem RepL.mono {w w' : World} {M M' : Mu} (hw : ∀ b, M.F b → M'.F b ∧ w'.heap[b]? = w.heap[b]?) : ∀ {l : List A} {vs : List Value}, RepL w M l vs → (∀ id ∈ refsL l, M'.m id = M.m id) → RepL w' M' l vs
  | [], [], _, _ => by simp [RepL]
  | a :: l, v :: vs, h, hm => by
    simp only [RepL] at h ⊢
    exact ⟨RepA.mono hw h.1 fun id hi => hm id (by simp [refsL, hi]), RepL.mono hw h.2 fun id hi => hm id (by simp [refsL, hi])⟩
  | [], _ :: _, h, _ => by simp [RepL] at h
  | _ :: _, [], h, _ => by simp [RepL] at h
end

/-! ### objects -/
def RepB (P : Program) (own : Bool) (w : World) (F : Nat → Prop) (B : List Nat) (v : Value) (x : D) : Prop :=
  match own with
  | true => RepX P w B v x
  | false => B = [] ∧ Rep w F v x

/-- The cells of a row: what each reads as; the blocks that they lead to lie in O, beside b, no two the same. -/
def Parts (P : Program) (own : Bool) (w : World) (F : Nat → Prop) (b : Nat) (O : List Nat) (es : List (List D)) (cs : Array Value) (sz : Nat) (vs : Nat → Nat → Value) (Bs : Nat → Nat → List Nat) : Prop :=
  (∀ i j x, at2 es i j = some x → cs[i * sz + j]? = some (vs i j) ∧ RepB P own w F (Bs i j) (vs i j) x ∧ ∀ b' ∈ Bs i j, b' ∈ O ∧ b' ≠ b) ∧
  ∀ i j x i' j' x', at2 es i j = some x → at2 es i' j' = some x' → i ≠ i' ∨ j ≠ j' → ∀ b' ∈ Bs i j, b' ∉ Bs i' j'

def SimArr (P : Program) (w : World) (M : Mu) (id : Nat) (t : TypeId) (own : Bool) (es : List (List D)) : Prop :=
  match M.m id with
  | none => es = [] ∧ M.own id = []
  | some (b, c) => ∃ (cs : Array Value) (vs : Nat → Nat → Value) (Bs : Nat → Nat → List Nat), es.length ≤ c ∧ c ≤ maxLen ∧ (∀ e ∈ es, e.length = szT P t) ∧ w.heap[b]? = some (.cells cs t (0, 0)) ∧ cs.size = c * szT P t ∧
      b ∈ M.own id ∧ Parts P own w M.F b (M.own id) es cs (szT P t) vs Bs

def SimO (P : Program) (w : World) (M : Mu) (id : Nat) : O → Prop
  | .gone => M.own id = []
  | .dead => M.own id = []
  | .box t cs => ∃ b c vs, M.m id = some (b, c) ∧ M.own id = [b] ∧ w.heap[b]? = some (.cells vs t (0, 0)) ∧ RepL w M cs vs.toList
  | .arr t own es => SimArr P w M id t own es
  | .frz es => M.own id = [] ∧ match M.m id with
    | none => es = []
    | some (b, c) => es.length ≤ c ∧ ∃ (sz : Nat) (vs : Nat → Nat → Value), (∀ e ∈ es, e.length = sz) ∧ ∀ i j x, at2 es i j = some x → M.F b ∧ w.cell? ⟨b, i * sz + j, none⟩ = some (vs i j) ∧ Rep w M.F (vs i j) x

/-- The table of the powers of 10 (if the program has it) reads as its text lays it, in a block that nobody writes. -/
def Tab (P : Program) (w : World) (F : Nat → Prop) : Prop :=
  ∀ g, P.globalNamed "internal/strconv.uint64pow10" = some g → F g ∧ Lib.TabIs P w "internal/strconv.uint64pow10" .u64 Lib.pow10Tab
theorem Tab.mono {P : Program} {w w' : World} {F F' : Nat → Prop} (h : Tab P w F) (hw : ∀ b, F b → F' b ∧ w'.heap[b]? = w.heap[b]?) : Tab P w' F' := by
  intro g hg
  obtain ⟨h1, h2⟩ := h g hg
  refine ⟨(hw g h1).1, ?_⟩
  unfold Lib.TabIs World.var? at h2 ⊢
  rw [hg] at h2 ⊢
  simp only [Option.bind_some] at h2 ⊢
  rw [(hw g h1).2]
  exact h2
theorem Tab.same {P : Program} {w : World} {F F' : Nat → Prop} (h : Tab P w F) (hw : ∀ b, F b → F' b) : Tab P w F' := h.mono fun b hb => ⟨hw b hb, rfl⟩

structure Sim (P : Program) (w : World) (M : Mu) (t : Nat → A) (h : Nat → O) (tm : Array Value) : Prop where
  tm : ∀ i, RepA w M (t i) (tm.getD i undef)
  ob : ∀ id, SimO P w M id (h id)
  dis : ∀ i j, i ≠ j → ∀ b, b ∈ M.own i → b ∉ M.own j
  nf : ∀ i b, b ∈ M.own i → ¬ M.F b ∧ b < w.heap.size
  fz : ∀ b, M.F b → b < w.heap.size
  tab : Tab P w M.F

/-- Another world, other places: the object at id reads as it did. -/
theorem SimO.mono {P : Program} {w w' : World} {M M' : Mu} {id : Nat} {o : O} (h : SimO P w M id o) (hF : ∀ b, M.F b → M'.F b ∧ w'.heap[b]? = w.heap[b]?) (hown : ∀ b ∈ M.own id, w'.heap[b]? = w.heap[b]?)
    (hm : M'.m id = M.m id) (ho : M'.own id = M.own id) (hr : ∀ k ∈ refsO o, M'.m k = M.m k) : SimO P w' M' id o := by
  cases o with
  | gone => simpa only [SimO, ho] using h
  | dead => simpa only [SimO, ho] using h
  | box t cs =>
    simp only [SimO] at h ⊢
    obtain ⟨b, c, vs, h1, h2, h3, h4⟩ := h
    exact ⟨b, c, vs, by rw [hm, h1], by rw [ho, h2], by rw [hown b (by rw [h2]; simp), h3], h4.mono hF (by simpa only [refsO] using hr)⟩
  | arr t own es =>
    simp only [SimO, SimArr] at h ⊢
    rw [hm]
    cases hmi : M.m id with
    | none => rw [hmi] at h; rw [ho]; exact h
    | some bc =>
      obtain ⟨b, c⟩ := bc
      rw [hmi] at h
      obtain ⟨cs, vs, Bs, h1, h2, h3, h4, h5, h6, h7, h8⟩ := h
      refine ⟨cs, vs, Bs, h1, h2, h3, by rw [hown b h6, h4], h5, by rw [ho]; exact h6, fun i j x hx => ?_, h8⟩
      obtain ⟨q1, q2, q3⟩ := h7 i j x hx
      refine ⟨q1, ?_, by rw [ho]; exact q3⟩
      cases own with
      | true => exact RepX.mono q2 fun b' hb' => hown b' (q3 b' hb').1
      | false => exact ⟨q2.1, q2.2.mono hF⟩
  | frz es =>
    simp only [SimO] at h ⊢
    rw [hm, ho]
    refine ⟨h.1, ?_⟩
    have h2 := h.2
    cases hmi : M.m id with
    | none => rw [hmi] at h2; exact h2
    | some bc =>
      obtain ⟨b, c⟩ := bc
      rw [hmi] at h2
      obtain ⟨h1, sz, vs, h3, h4⟩ := h2
      refine ⟨h1, sz, vs, h3, fun i j x hx => ?_⟩
      obtain ⟨q1, q2, q3⟩ := h4 i j x hx
      exact ⟨(hF b q1).1, (cell_same (hF b q1).2).trans q2, q3.mono hF⟩
end Go.AX

namespace Go.AX

abbrev Heap := Nat → O
abbrev Out := Option (A × Heap)

def leafOk : A → Bool
  | .agg _ | .tup _ | .undef | .junk => false
  | _ => true

/-- The cells of a literal's elements: each place once, in order. -/
def litL (sz : Nat) : Nat → List (Nat × A) → Option (List A)
  | _, [] => some []
  | k, (i, v) :: rest => match leafs v with
    | some l => if i = k ∧ l.length = sz then
      (match litL sz (k + 1) rest with
      | some l' => some (l ++ l')
      | none => none) else none
    | none => none
def chunk {α : Type} (n sz : Nat) (xs : List α) : List (List α) := (List.range n).map fun i => (xs.drop (i * sz)).take sz
def litA (h : Heap) (sz : Nat) (parts : List (Nat × A)) : Option (List (List D) × Bool × Heap) :=
  match litL sz 0 parts with
  | some l => match sink h l with
    | some (xs, o, h1) => some (chunk parts.length sz xs, o, h1)
    | none => none
  | none => none

/-- The row that append starts from. -/
def baseA (h : Heap) (e : TypeId) : A → Option (List (List D) × Bool × Heap)
  | .es => some ([], true, h)
  | .os id n => match h id with
    | .arr e' own es => if n ≤ es.length ∧ e' = e then some (es.take n, own, upd h id .dead) else none
    | _ => none
  | _ => none
/-- What append appends. -/
def moreA (h : Heap) : A → Option (List (List D) × Bool × Heap)
  | .es => some ([], true, h)
  | .d (.sl ys) => some (ys, false, h)
  | .os id n => match h id with
    | .arr _ own ys => if n ≤ ys.length then some (ys.take n, own, upd h id .dead) else none
    | .frz ys => if n ≤ ys.length then some (ys.take n, false, h) else none
    | _ => none
  | _ => none

/-- The numbers of a row of bytes. -/
def strN : List (List D) → Option (List Int)
  | [] => some []
  | [.int .u8 n] :: es => match strN es with
    | some l => some (n :: l)
    | none => none
  | _ :: _ => none
/-- A row of bytes as a string. -/
def strD (es : List (List D)) : Option ByteArray := (strN es).map fun l => l.foldl (fun r n => r.push (UInt8.ofNat n.toNat)) ByteArray.empty

def memA (P : Program) (o : Op) (s : Nat) (ρ : Operand → A) (h : Heap) : Out :=
  match o with
  | .alloc t => match zeroT P t with
    | some z => some (.ptr s 0, upd h s (.box t z))
    | none => none
  | .box t x => match leafs (ρ x) with
    | some l => some (.ptr s 0, upd h s (.box t l))
    | none => none
  | .buildSlice t n ps => match elT P t with
    | some e => match zeroT P e, litA h (szT P e) (ps.toList.map fun x => (x.1, ρ x.2)) with
      | some _, some (es, own, h1) => if es.length = n ∧ szT P e ≠ 0 ∧ n * szT P e ≤ 16777216 then some (.os s es.length, upd h1 s (.arr e own es)) else none
      | _, _ => none
    | none => none
  | .load t a => match P.underlying t with
    | some _ => match rd h (szT P t) (ρ a) with
      | some cs => if szT P t = 0 then none else if aggT P t = true then some (.agg cs, h) else (match cs with
        | [c] => some (c, h)
        | _ => none)
      | none => none
    | none => none
  | .store t a x => match leafs (ρ x) with
    | some l => if l.length = szT P t ∧ szT P t ≠ 0 ∧ l.all leafOk = true then
        (match wr h l (ρ a) with
        | some h' => some (.undef, h')
        | none => none) else none
    | none => none
  | .makeSlice t l c => match elT P t, ρ l, ρ c with
    | some e, .d (.int .i64 l), .d (.int .i64 c) => match zeroT P e with
      | some z => match sink (fun _ => .gone) z with
        | some (zs, true, _) => if l = c ∧ 0 ≤ l ∧ l ≤ 9223372036854775807 ∧ l * bytesT P e ≤ 140737488355328 ∧ zs.length = szT P e ∧ szT P e ≠ 0 then
            some (.os s l.toNat, upd h s (.arr e true (List.replicate l.toNat zs))) else none
        | _ => none
      | none => none
    | _, _, _ => none
  | .call { callee := .builtin .append, args, argTypes } => match args.toList, argTypes.toList with
    | [x, y], [t, u] => match elT P t, elT P u with
      | some e, some _ => match baseA h e (ρ x), zeroT P e with
        | some (es, own, h1), some z => match moreA h1 (ρ y) with
          | some (ys, own', h2) => if t = u ∧ z.length = szT P e ∧ (es.length + ys.length) * bytesT P e ≤ 140737488355328 ∧ es.length + ys.length ≤ 9223372036854775807 ∧ szT P e ≠ 0 ∧ (∀ cs ∈ ys, cs.length = szT P e) then
              some (.os s (es.length + ys.length), upd h2 s (.arr e (own && own') (es ++ ys))) else none
          | none => none
        | _, _ => none
      | _, _ => none
    | _, _ => none
  | .convert src dst x => match ρ x with
    | .os id n => match P.underlying dst, elT P src with
      | some .string, some e => match P.underlying e, h id with
        | some (.int .u8), .arr _ _ es => match strD es with
          | some b => if n = es.length then some (.d (.str b), h) else none
          | none => none
        | _, _ => none
      | _, _ => none
    | _ => none
  | _ => none

/-- Does it make an object? -/
def isAl : Op → Bool
  | .alloc _ | .box _ _ | .buildSlice _ _ _ | .makeSlice _ _ _ => true
  | .call { callee := .builtin .append, .. } => true
  | _ => false

end Go.AX

namespace Go.AX
section
variable {P : Program} {w w' : World} {M : Mu} {t : Nat → A} {h : Heap} {tm : Array Value}

def NoRef (s : Nat) (t : Nat → A) (h : Heap) : Prop := (∀ i, s ∉ refsA (t i)) ∧ ∀ k, s ∉ refsO (h k)
def Limbo (w : World) (M : Mu) (L : List Nat) : Prop := ∀ b ∈ L, b < w.heap.size ∧ ¬ M.F b ∧ ∀ id, b ∉ M.own id

theorem upd_same {α : Type} (f : Nat → α) (i : Nat) (v : α) : upd f i v i = v := by simp [upd]
theorem upd_ne {α : Type} (f : Nat → α) {i j : Nat} (v : α) (h : j ≠ i) : upd f i v j = f j := by simp [upd, h]

theorem Sim.world (hs : Sim P w M t h tm) (hF : ∀ b, M.F b → w'.heap[b]? = w.heap[b]?) (ho : ∀ id, ∀ b ∈ M.own id, w'.heap[b]? = w.heap[b]?) (hz : w.heap.size ≤ w'.heap.size) : Sim P w' M t h tm where
  tm i := (hs.tm i).mono (fun b hb => ⟨hb, hF b hb⟩) fun _ _ => rfl
  ob id := (hs.ob id).mono (fun b hb => ⟨hb, hF b hb⟩) (ho id) rfl rfl fun _ _ => rfl
  dis := hs.dis
  nf i b hb := ⟨(hs.nf i b hb).1, Nat.lt_of_lt_of_le (hs.nf i b hb).2 hz⟩
  fz b hb := Nat.lt_of_lt_of_le (hs.fz b hb) hz
  tab := hs.tab.mono fun b hb => ⟨hb, hF b hb⟩

theorem Sim.put (hs : Sim P w M t h tm) {d : Nat} (hd : d < tm.size) {a : A} {v : Value} (hr : RepA w M a v) : Sim P w M (upd t d a) h (tm.setIfInBounds d v) where
  tm i := by
    by_cases hi : i = d
    · subst hi
      rw [upd_same]
      simpa [Array.getD_eq_getD_getElem?, Array.getElem?_setIfInBounds, hd] using hr
    · rw [upd_ne _ _ hi]
      have := hs.tm i
      rw [Array.getD_eq_getD_getElem?] at this ⊢
      rwa [Array.getElem?_setIfInBounds_ne (fun e => hi e.symm)]
  ob := hs.ob
  dis := hs.dis
  nf := hs.nf
  fz := hs.fz
  tab := hs.tab

theorem Sim.freeze (hs : Sim P w M t h tm) {L : List Nat} (hl : Limbo w M L) : Sim P w ⟨M.m, M.own, fun b => M.F b ∨ b ∈ L⟩ t h tm where
  tm i := RepA.mono (M := M) (M' := ⟨M.m, M.own, fun b => M.F b ∨ b ∈ L⟩) (fun b hb => ⟨Or.inl hb, rfl⟩) (hs.tm i) fun _ _ => rfl
  ob id := SimO.mono (M := M) (M' := ⟨M.m, M.own, fun b => M.F b ∨ b ∈ L⟩) (hs.ob id) (fun b hb => ⟨Or.inl hb, rfl⟩) (fun _ _ => rfl) rfl rfl fun _ _ => rfl
  dis := hs.dis
  nf i b hb := ⟨fun hq => hq.elim (hs.nf i b hb).1 fun hm => (hl b hm).2.2 i hb, (hs.nf i b hb).2⟩
  fz b hb := hb.elim (hs.fz b) fun hm => (hl b hm).1
  tab := hs.tab.same fun _ hb => Or.inl hb

/-- What was object id's own goes into limbo. -/
theorem Sim.kill (hs : Sim P w M t h tm) (id : Nat) (o : O) (ho : SimO P w ⟨M.m, upd M.own id [], M.F⟩ id o) (hr : ∀ k ∈ refsO o, True) :
    Sim P w ⟨M.m, upd M.own id [], M.F⟩ t (upd h id o) tm ∧ Limbo w ⟨M.m, upd M.own id [], M.F⟩ (M.own id) := by
  have own_sub : ∀ i b, b ∈ upd M.own id [] i → b ∈ M.own i ∧ i ≠ id := by
    intro i b hb
    by_cases hi : i = id
    · subst hi; rw [upd_same] at hb; cases hb
    · rw [upd_ne _ _ hi] at hb; exact ⟨hb, hi⟩
  refine ⟨⟨fun i => RepA.mono (M := M) (M' := ⟨M.m, upd M.own id [], M.F⟩) (fun b hb => ⟨hb, rfl⟩) (hs.tm i) fun _ _ => rfl, fun i => ?_, fun i j hij b hb hb' => ?_, fun i b hb => hs.nf i b (own_sub i b hb).1, hs.fz, hs.tab⟩, fun b hb => ⟨(hs.nf id b hb).2, (hs.nf id b hb).1, fun i hi => ?_⟩⟩
  · by_cases hi : i = id
    · subst hi; rw [upd_same]; exact ho
    · rw [upd_ne _ _ hi]
      exact (hs.ob i).mono (fun b hb => ⟨hb, rfl⟩) (fun _ _ => rfl) rfl (upd_ne _ _ hi) fun _ _ => rfl
  · exact hs.dis i j hij b (own_sub i b hb).1 (own_sub j b hb').1
  · exact hs.dis id i (fun e => (own_sub i b hi).2 e.symm) b hb (own_sub i b hi).1

theorem Sim.setO (hs : Sim P w M t h tm) {s : Nat} (hown : M.own s = []) {mv : Option (Nat × Nat)} (hn : NoRef s t h ∨ mv = M.m s) {L : List Nat} (hl : Limbo w M L) {o : O}
    (ho : SimO P w ⟨upd M.m s mv, upd M.own s L, M.F⟩ s o) : Sim P w ⟨upd M.m s mv, upd M.own s L, M.F⟩ t (upd h s o) tm where
  tm i := RepA.mono (M := M) (M' := ⟨upd M.m s mv, upd M.own s L, M.F⟩) (fun b hb => ⟨hb, rfl⟩) (hs.tm i) fun k hk => by
    by_cases e : k = s
    · subst e
      rcases hn with hn | rfl
      · exact absurd hk (hn.1 i)
      · exact upd_same _ _ _
    · exact upd_ne M.m mv e
  ob id := by
    by_cases hi : id = s
    · subst hi; rw [upd_same]; exact ho
    · rw [upd_ne _ _ hi]
      exact (hs.ob id).mono (fun b hb => ⟨hb, rfl⟩) (fun _ _ => rfl) (upd_ne _ _ hi) (upd_ne _ _ hi) fun k hk => by
        by_cases e : k = s
        · subst e
          rcases hn with hn | rfl
          · exact absurd hk (hn.2 id)
          · exact upd_same _ _ _
        · exact upd_ne M.m mv e
  dis i j hij b hb hb' := by
    simp only at hb hb'
    by_cases hi : i = s
    · subst hi
      rw [upd_same] at hb
      rw [upd_ne _ _ (fun e => hij e.symm)] at hb'
      exact (hl b hb).2.2 j hb'
    · rw [upd_ne _ _ hi] at hb
      by_cases hj : j = s
      · subst hj
        rw [upd_same] at hb'
        exact (hl b hb').2.2 i hb
      · rw [upd_ne _ _ hj] at hb'
        exact hs.dis i j hij b hb hb'
  nf i b hb := by
    simp only at hb ⊢
    by_cases hi : i = s
    · subst hi; rw [upd_same] at hb; exact ⟨(hl b hb).2.1, (hl b hb).1⟩
    · rw [upd_ne _ _ hi] at hb; exact hs.nf i b hb
  fz := hs.fz
  tab := hs.tab

theorem Limbo.sub {L L' : List Nat} (hl : Limbo w M L) (h : ∀ b ∈ L', b ∈ L) : Limbo w M L' := fun b hb => hl b (h b hb)

/-- A new block: it is in limbo. -/
theorem Sim.alloc (hs : Sim P w M t h tm) (o : Obj) : Sim P (w.alloc o) M t h tm ∧ Limbo (w.alloc o) M [w.heap.size] := by
  have hsz : (w.alloc o).heap.size = w.heap.size + 1 := by show (w.heap.push o).size = _; simp
  have old : ∀ b, b < w.heap.size → (w.alloc o).heap[b]? = w.heap[b]? := by
    intro b hb
    show (w.heap.push o)[b]? = _
    rw [Array.getElem?_push, if_neg (by omega)]
  refine ⟨hs.world (fun b hb => old b (hs.fz b hb)) (fun id b hb => old b (hs.nf id b hb).2) (by rw [hsz]; omega), fun b hb => ?_⟩
  simp only [List.mem_singleton] at hb
  subst hb
  exact ⟨by rw [hsz]; omega, fun hF => absurd (hs.fz _ hF) (Nat.lt_irrefl _), fun id hid => absurd (hs.nf id _ hid).2 (Nat.lt_irrefl _)⟩

/-- What a piece of a call does to the world and to the places. -/
structure Step (w : World) (M : Mu) (w' : World) (M' : Mu) : Prop where
  os : w'.os = w.os
  tape : w'.tape = w.tape
  output : w'.output = w.output
  size : w.heap.size ≤ w'.heap.size
  keep : ∀ b, b < w.heap.size → (∀ id, b ∉ M.own id) → w'.heap[b]? = w.heap[b]?
  F1 : ∀ b, M.F b → M'.F b
  F2 : ∀ b, M'.F b → M.F b ∨ (∃ id, b ∈ M.own id) ∨ w.heap.size ≤ b
  own : ∀ id b, b ∈ M'.own id → (∃ id, b ∈ M.own id) ∨ w.heap.size ≤ b
theorem Step.refl (w : World) (M : Mu) : Step w M w M := ⟨rfl, rfl, rfl, Nat.le_refl _, fun _ _ _ => rfl, fun _ h => h, fun _ h => .inl h, fun id b h => .inl ⟨id, h⟩⟩
theorem Step.trans {w1 w2 w3 : World} {M1 M2 M3 : Mu} (h : Step w1 M1 w2 M2) (k : Step w2 M2 w3 M3) : Step w1 M1 w3 M3 where
  os := k.os.trans h.os
  tape := k.tape.trans h.tape
  output := k.output.trans h.output
  size := Nat.le_trans h.size k.size
  keep b hb hn := (k.keep b (Nat.lt_of_lt_of_le hb h.size) fun id hid => by
    rcases h.own id b hid with ⟨i, hi⟩ | hi
    · exact hn i hi
    · omega).trans (h.keep b hb hn)
  F1 b hb := k.F1 b (h.F1 b hb)
  F2 b hb := by
    rcases k.F2 b hb with q | ⟨id, q⟩ | q
    · exact h.F2 b q
    · rcases h.own id b q with q | q
      · exact .inr (.inl q)
      · exact .inr (.inr q)
    · exact .inr (.inr (Nat.le_trans h.size q))
  own id b hb := by
    rcases k.own id b hb with ⟨i, q⟩ | q
    · exact h.own i b q
    · exact .inr (Nat.le_trans h.size q)
theorem upd_upd {α : Type} (f : Nat → α) (i : Nat) (u v : α) : upd (upd f i u) i v = upd f i v := by funext j; unfold upd; split <;> rfl
theorem upd_self {α : Type} (f : Nat → α) (i : Nat) : upd f i (f i) = f := by funext j; unfold upd; split <;> simp_all
theorem repL_of_get {l : List A} {us : List Value} (hl : l.length = us.length) (h : ∀ (k : Nat) (a : A) (u : Value), l[k]? = some a → us[k]? = some u → RepA w M a u) : RepL w M l us := by
  induction l generalizing us with
  | nil => cases us <;> simp_all [RepL]
  | cons a l ih => cases us with
    | nil => simp at hl
    | cons u us => exact ⟨h 0 a u rfl rfl, ih (by simpa using hl) fun k => h (k + 1)⟩
theorem putAt_get {α : Type} {cs xs : List α} {off : Nat} (hb : off + xs.length ≤ cs.length) (j : Nat) : (putAt cs off xs)[j]? = if off ≤ j ∧ j < off + xs.length then xs[j - off]? else cs[j]? := by
  unfold putAt
  have h1 : (cs.take off).length = off := by simp; omega
  by_cases h : off ≤ j
  · by_cases h' : j < off + xs.length
    · rw [if_pos ⟨h, h'⟩, List.getElem?_append_left (by simp; omega), List.getElem?_append_right (by omega), h1]
    · rw [if_neg (by omega), List.getElem?_append_right (by simp; omega), List.getElem?_drop]
      congr 1; simp; omega
  · rw [if_neg (by omega), List.getElem?_append_left (by simp; omega), List.getElem?_append_left (by omega), List.getElem?_take_of_lt (by omega)]
end
end Go.AX

namespace Go.AX
section
variable {P : Program} {w w' : World} {M : Mu} {t : Nat → A} {h : Heap} {tm : Array Value}

theorem at2_take {es : List (List D)} {n i j : Nat} {x : D} (q : at2 (es.take n) i j = some x) : i < n ∧ at2 es i j = some x := by
  have := at2_drop_take (es := es) (l := 0) (h := n) (i := i) (j := j) (by simpa using q)
  simpa using this
theorem Rep.scalar {F : Nat → Prop} {v : Value} {x : D} (hr : Rep w F v x) (hx : notSl x = true) : RepX P w [] v x := by
  cases hr with
  | int k n => exact .int k n
  | bool b => exact .bool b
  | str s => exact .str s
  | sl a c sz es => cases hx
  | np => exact .np
  | pt => cases hx

theorem rep_dp {F : Nat → Prop} {cs : List D} {v : Value} (h : ∃ (ad : Addr) (vs : Nat → Value), v = .pointer (some ad) ∧ ∀ j x, cs[j]? = some x → F ad.block ∧ w.cell? (ad.add j) = some (vs j) ∧ Rep w F (vs j) x) : Rep w F v (.pt cs) := by
  obtain ⟨ad, vs, rfl, hc⟩ := h
  exact .pt ad cs vs (fun j x hx => ⟨(hc j x hx).1, (hc j x hx).2.1⟩) fun j x hx => (hc j x hx).2.2
/-- An array's row, or the first part of it, on its way into another row. -/
theorem arr_out (hs : Sim P w M t h tm) {id n : Nat} {u : Value} {e : TypeId} {own : Bool} {es : List (List D)} (hi : h id = .arr e own es) (hn : n ≤ es.length) (hr : RepA w M (.os id n) u) :
    ∃ B, (∀ b ∈ B, b ∈ M.own id) ∧ Rep w (fun b => M.F b ∨ b ∈ B) u (.sl (es.take n)) ∧ (own = true → RepX P w B u (.sl (es.take n))) := by
  have ho := hs.ob id
  rw [hi] at ho
  simp only [SimO, SimArr] at ho
  simp only [RepA] at hr
  cases hm : M.m id with
  | none =>
    rw [hm] at ho hr
    obtain ⟨rfl, _⟩ := ho
    obtain ⟨rfl, rfl⟩ := hr
    have : RepX P w [] (.slice none 0 0) (.sl (List.take 0 ([] : List (List D)))) := .nil none 0
    exact ⟨[], by simp, this.rep (by simp), fun _ => this⟩
  | some bc =>
    obtain ⟨b, c⟩ := bc
    rw [hm] at ho hr
    obtain ⟨hnc, rfl⟩ := hr
    obtain ⟨cs, vs, Bs, h1, h2, h3, h4, h5, h6, h7, h8⟩ := ho
    have hlen : (es.take n).length = n := by simp; omega
    have hsz' : ∀ e' ∈ es.take n, e'.length = szT P e := fun e' he' => h3 e' (List.mem_of_mem_take he')
    cases own with
    | true =>
      have hX : RepX P w (M.own id) (.slice (some ⟨b, 0, none⟩) n c) (.sl (es.take n)) := by
        have := RepX.sl (w := w) b c (szT P e) (es.take n) cs e vs Bs h4 (by omega) hsz' ⟨rfl, h5, h2⟩ (fun i j x hx => (h7 i j x (at2_take hx).2).1) (fun i j x hx => (h7 i j x (at2_take hx).2).2.1)
          (M.own id) h6 (fun i j x hx => (h7 i j x (at2_take hx).2).2.2) (fun i j x i' j' x' hx hx' => h8 i j x i' j' x' (at2_take hx).2 (at2_take hx').2)
        rwa [hlen] at this
      exact ⟨_, fun _ h => h, hX.rep fun b' hb' => .inr hb', fun _ => hX⟩
    | false =>
      refine ⟨[b], by simpa using h6, ?_, fun hq => by cases hq⟩
      have := Rep.sl (w := w) (F := fun b' => M.F b' ∨ b' ∈ [b]) (some ⟨b, 0, none⟩) c (szT P e) (es.take n) vs (by omega) hsz' (fun i j x hx => ⟨_, rfl, .inr (by simp), by
        rw [add0]; simp [World.cell?, h4, (h7 i j x (at2_take hx).2).1]⟩) (fun i j x hx => ((h7 i j x (at2_take hx).2).2.1.2).mono fun b' hb' => ⟨.inl hb', rfl⟩)
      rwa [hlen] at this
theorem frz_out (hs : Sim P w M t h tm) {id n : Nat} {u : Value} {es : List (List D)} (hi : h id = .frz es) (hn : n ≤ es.length) (hr : RepA w M (.os id n) u) : Rep w M.F u (.sl (es.take n)) := by
  have ho := hs.ob id
  rw [hi] at ho
  simp only [SimO] at ho
  simp only [RepA] at hr
  obtain ⟨_, ho⟩ := ho
  have hlen : (es.take n).length = n := by simp; omega
  cases hm : M.m id with
  | none =>
    rw [hm] at ho hr
    subst ho
    obtain ⟨rfl, rfl⟩ := hr
    exact .sl none 0 0 [] (fun _ _ => undef) (by simp) (by simp) (by simp [at2]) (by simp [at2])
  | some bc =>
    obtain ⟨b, c⟩ := bc
    rw [hm] at ho hr
    obtain ⟨hnc, rfl⟩ := hr
    obtain ⟨h1, sz, vs, h3, h4⟩ := ho
    have := Rep.sl (w := w) (F := M.F) (some ⟨b, 0, none⟩) c sz (es.take n) vs (by omega) (fun e' he' => h3 e' (List.mem_of_mem_take he')) (fun i j x hx => ⟨_, rfl, (h4 i j x (at2_take hx).2).1, by
      rw [add0]; exact (h4 i j x (at2_take hx).2).2.1⟩) (fun i j x hx => (h4 i j x (at2_take hx).2).2.2)
    rwa [hlen] at this

/-- What the sink says of one cell. -/
theorem sink_sound : ∀ (l : List A) {us : List Value} {h h1 : Heap} {xs : List D} {o : Bool} {M : Mu}, Sim P w M t h tm → RepL w M l us → sink h l = some (xs, o, h1) →
    ∃ (own1 : Nat → List Nat) (Bl : List (List Nat)), Sim P w ⟨M.m, own1, M.F⟩ t h1 tm ∧ Limbo w ⟨M.m, own1, M.F⟩ Bl.flatten ∧ Bl.length = xs.length ∧ xs.length = us.length ∧
      (∀ (k : Nat) (x : D) (u : Value) (B : List Nat), xs[k]? = some x → us[k]? = some u → Bl[k]? = some B → Rep w (fun b => M.F b ∨ b ∈ B) u x ∧ (o = true → RepX P w B u x)) ∧ (∀ (k k' : Nat) (B B' : List Nat), k ≠ k' → Bl[k]? = some B → Bl[k']? = some B' → ∀ b ∈ B, b ∉ B') ∧
      (∀ b ∈ Bl.flatten, ∃ id, b ∈ M.own id) ∧ (∀ id, (own1 id = M.own id ∧ h1 id = h id) ∨ (own1 id = [] ∧ h1 id = .dead))
  | [], us, h, h1, xs, o, M, hs, hr, hk => by
    simp only [sink, Option.some.injEq, Prod.mk.injEq] at hk
    obtain ⟨rfl, rfl, rfl⟩ := hk
    have hl := hr.length
    exact ⟨M.own, [], hs, by simp [Limbo], rfl, by simpa using hl, by simp, by simp, by simp, fun id => .inl ⟨rfl, rfl⟩⟩
  | a :: l, us, h, h1, xs, o, M, hs, hr, hk => by
    cases us with
    | nil => simp [RepL] at hr
    | cons u us =>
    simp only [RepL] at hr
    obtain ⟨ha, hr⟩ := hr
    simp only [sink] at hk
    split at hk
    · rename_i x o1 h' hx
      split at hk
      · rename_i xs' o2 h2 hk'
        simp only [Option.some.injEq, Prod.mk.injEq] at hk
        obtain ⟨rfl, rfl, rfl⟩ := hk
        have one : ∃ (own' : Nat → List Nat) (B : List Nat), Sim P w ⟨M.m, own', M.F⟩ t h' tm ∧ Limbo w ⟨M.m, own', M.F⟩ B ∧ Rep w (fun b => M.F b ∨ b ∈ B) u x ∧ (o1 = true → RepX P w B u x) ∧
            (∀ b ∈ B, ∃ id, b ∈ M.own id) ∧ (∀ id, (own' id = M.own id ∧ h' id = h id) ∨ (own' id = [] ∧ h' id = .dead)) := by
          split at hx
          · simp only [Option.some.injEq, Prod.mk.injEq] at hx
            obtain ⟨rfl, rfl, rfl⟩ := hx
            simp only [RepA] at ha
            exact ⟨M.own, [], hs, by simp [Limbo], ha.mono fun b hb => ⟨.inl hb, rfl⟩, by simp, by simp, fun id => .inl ⟨rfl, rfl⟩⟩
          · simp only [Option.some.injEq, Prod.mk.injEq] at hx
            obtain ⟨rfl, rfl, rfl⟩ := hx
            simp only [RepA] at ha
            exact ⟨M.own, [], hs, by simp [Limbo], ha.mono fun b hb => ⟨.inl hb, rfl⟩, by simp, by simp, fun id => .inl ⟨rfl, rfl⟩⟩
          · simp only [Option.some.injEq, Prod.mk.injEq] at hx
            obtain ⟨rfl, rfl, rfl⟩ := hx
            simp only [RepA] at ha
            exact ⟨M.own, [], hs, by simp [Limbo], (rep_dp ha).mono fun b hb => ⟨.inl hb, rfl⟩, by simp, by simp, fun id => .inl ⟨rfl, rfl⟩⟩
          · rename_i xx hne hne'
            simp only [Option.some.injEq, Prod.mk.injEq] at hx
            obtain ⟨rfl, rfl, rfl⟩ := hx
            simp only [RepA] at ha
            exact ⟨M.own, [], hs, by simp [Limbo], ha.mono fun b hb => ⟨.inl hb, rfl⟩, fun _ => ha.scalar (by
              cases xx with
              | sl es => exact absurd rfl (hne es)
              | pt cs => exact absurd rfl (hne' cs)
              | _ => rfl), by simp, fun id => .inl ⟨rfl, rfl⟩⟩
          · simp only [Option.some.injEq, Prod.mk.injEq] at hx
            obtain ⟨rfl, rfl, rfl⟩ := hx
            simp only [RepA] at ha
            subst ha
            have hX : RepX P w [] (.slice none 0 0) (.sl []) := .nil none 0
            exact ⟨M.own, [], hs, by simp [Limbo], hX.rep (by simp), fun _ => hX, by simp, fun id => .inl ⟨rfl, rfl⟩⟩
          · rename_i id n
            split at hx
            · rename_i e own es hi
              split at hx
              · rename_i hn
                simp only [Option.some.injEq, Prod.mk.injEq] at hx
                obtain ⟨rfl, rfl, rfl⟩ := hx
                obtain ⟨B, hB, hR, hX⟩ := arr_out hs hi hn ha
                obtain ⟨k1, k2⟩ := hs.kill id .dead (by simp [SimO, upd_same]) (by simp)
                refine ⟨_, B, k1, k2.sub hB, hR, hX, fun b hb => ⟨id, hB b hb⟩, fun i => ?_⟩
                by_cases hid : i = id
                · subst hid; exact .inr ⟨upd_same _ _ _, upd_same _ _ _⟩
                · exact .inl ⟨upd_ne _ _ hid, upd_ne _ _ hid⟩
              · cases hx
            · rename_i es hi
              split at hx
              · rename_i hn
                simp only [Option.some.injEq, Prod.mk.injEq] at hx
                obtain ⟨rfl, rfl, rfl⟩ := hx
                exact ⟨M.own, [], hs, by simp [Limbo], (frz_out hs hi hn ha).mono fun b hb => ⟨.inl hb, rfl⟩, by simp, by simp, fun id => .inl ⟨rfl, rfl⟩⟩
              · cases hx
            · cases hx
          · cases hx
        obtain ⟨own', B, s1, l1, R1, X1, O1, D1⟩ := one
        have hr' : RepL w ⟨M.m, own', M.F⟩ l us := RepL.mono (M := M) (M' := ⟨M.m, own', M.F⟩) (fun b hb => ⟨hb, rfl⟩) hr fun _ _ => rfl
        obtain ⟨own2, Bl, s2, l2, n1, n2, R2, E2, O2, D2⟩ := sink_sound l s1 hr' hk'
        have disj : ∀ b ∈ B, b ∉ Bl.flatten := by
          intro b hb hb'
          obtain ⟨id, hid⟩ := O2 b hb'
          exact (l1 b hb).2.2 id hid
        refine ⟨own2, B :: Bl, s2, fun b hb => ?_, by simp [n1], by simp [n2], fun k y v C hy hv hC => ?_, fun k k' C C' hkk hC hC' b hb hb' => ?_, fun b hb => ?_, fun id => ?_⟩
        · rw [List.flatten_cons, List.mem_append] at hb
          rcases hb with hb | hb
          · refine ⟨(l1 b hb).1, (l1 b hb).2.1, fun id hid => ?_⟩
            rcases D2 id with ⟨q, _⟩ | ⟨q, _⟩
            · exact (l1 b hb).2.2 id (by rw [← q]; exact hid)
            · simp only at hid; rw [q] at hid; cases hid
          · exact l2 b hb
        · cases k with
          | zero =>
            simp only [List.getElem?_cons_zero, Option.some.injEq] at hy hv hC
            subst hy; subst hv; subst hC
            exact ⟨R1, fun hq => X1 (by revert hq; cases o1 <;> simp)⟩
          | succ k =>
            simp only [List.getElem?_cons_succ] at hy hv hC
            obtain ⟨q1, q2⟩ := R2 k y v C hy hv hC
            exact ⟨q1, fun hq => q2 (by revert hq; cases o1 <;> simp)⟩
        · cases k with
          | zero =>
            cases k' with
            | zero => exact hkk rfl
            | succ k' =>
              simp only [List.getElem?_cons_zero, List.getElem?_cons_succ, Option.some.injEq] at hC hC'
              subst hC
              exact disj b hb (List.mem_flatten.2 ⟨C', List.mem_of_getElem? hC', hb'⟩)
          | succ k =>
            cases k' with
            | zero =>
              simp only [List.getElem?_cons_zero, List.getElem?_cons_succ, Option.some.injEq] at hC hC'
              subst hC'
              exact disj b hb' (List.mem_flatten.2 ⟨C, List.mem_of_getElem? hC, hb⟩)
            | succ k' =>
              simp only [List.getElem?_cons_succ] at hC hC'
              exact E2 k k' C C' (fun e => hkk (by rw [e])) hC hC' b hb hb'
        · rw [List.flatten_cons, List.mem_append] at hb
          rcases hb with hb | hb
          · exact O1 b hb
          · obtain ⟨id, hid⟩ := O2 b hb
            rcases D1 id with ⟨q, _⟩ | ⟨q, _⟩
            · exact ⟨id, by rw [← q]; exact hid⟩
            · simp only at hid; rw [q] at hid; cases hid
        · rcases D2 id with ⟨q, q'⟩ | q
          · rcases D1 id with ⟨r, r'⟩ | ⟨r, r'⟩
            · exact .inl ⟨q.trans r, q'.trans r'⟩
            · exact .inr ⟨q.trans r, q'.trans r'⟩
          · exact .inr q
      · cases hk
    · cases hk
end
end Go.AX

namespace Go.AX
section
variable {P : Program} {w w' : World} {M : Mu} {t : Nat → A} {h : Heap} {tm : Array Value}

theorem RepX.one {B : List Nat} {v : Value} {x : D} (h : RepX P w B v x) (hx : notSl x = true) {F : Nat → Prop} : Rep w F v x := by
  cases h with
  | int k n => exact .int k n
  | bool b => exact .bool b
  | str s => exact .str s
  | np => exact .np
  | nil => cases hx
  | sl => cases hx
theorem cell_block {b o : Nat} {cs : Array Value} {e : TypeId} {fr : Nat × Nat} (hb : w.heap[b]? = some (.cells cs e fr)) : w.cell? ⟨b, o, none⟩ = cs[o]? := by simp [World.cell?, hb]

theorem rd_sound (hs : Sim P w M t h tm) {n : Nat} {a : A} {v : Value} {cs : List A} (hr : RepA w M a v) (hk : rd h n a = some cs) :
    ∃ (ad : Addr) (us : List Value), v = .pointer (some ad) ∧ us.length = n ∧ (∀ (j : Nat) (u : Value), us[j]? = some u → w.cell? (ad.add j) = some u) ∧ RepL w M cs us := by
  unfold rd at hk
  split at hk
  · rename_i id off
    split at hk
    · rename_i e bs hi
      split at hk
      · rename_i hl
        injection hk with hk; subst hk
        have ho := hs.ob id
        rw [hi] at ho
        simp only [SimO] at ho
        simp only [RepA] at hr
        obtain ⟨b, c, vs, h1, _, h3, h4⟩ := ho
        obtain ⟨b', c', h1', rfl⟩ := hr
        rw [h1] at h1'
        simp only [Option.some.injEq, Prod.mk.injEq] at h1'
        obtain ⟨rfl, rfl⟩ := h1'
        have hlen := h4.length
        refine ⟨_, (vs.toList.drop off).take n, rfl, by simp at hlen ⊢; omega, fun j u hu => ?_, (h4.drop off).take n⟩
        have hj : j < n := by
          rcases Nat.lt_or_ge j n with q | q
          · exact q
          · rw [List.getElem?_take_eq_none q] at hu; cases hu
        rw [List.getElem?_take_of_lt hj, List.getElem?_drop] at hu
        rw [addb, cell_block h3]
        simpa using hu
      · cases hk
    · cases hk
  · rename_i id i sz off
    split at hk
    · rename_i e own es hi
      split at hk
      · rename_i ecs hecs
        split at hk
        · rename_i hl
          injection hk with hk; subst hk
          have ho := hs.ob id
          rw [hi] at ho
          simp only [SimO, SimArr] at ho
          simp only [RepA] at hr
          obtain ⟨b, c, hm, rfl⟩ := hr
          rw [hm] at ho
          obtain ⟨cur, vs, Bs, h1, h2, h3, h4, h5, h6, h7, h8⟩ := ho
          have hsz : szT P e = sz := by rw [← h3 ecs (List.mem_of_getElem? hecs)]; exact hl.1
          have hat : ∀ j x, ecs[off + j]? = some x → at2 es i (off + j) = some x := by intro j x hx; simp [at2, hecs, hx]
          refine ⟨_, (List.range n).map fun j => vs i (off + j), rfl, by simp, fun j u hu => ?_, repL_of_get (by simp; omega) fun k a u ha hu => ?_⟩
          · have hj : j < n := by
              rcases Nat.lt_or_ge j n with q | q
              · exact q
              · simp [List.getElem?_eq_none (show (List.range n).length ≤ j by simpa using q)] at hu
            simp [List.getElem?_map, List.getElem?_range hj] at hu
            subst hu
            obtain ⟨x, hx⟩ : ∃ x, ecs[off + j]? = some x := ⟨_, List.getElem?_eq_getElem (by omega)⟩
            have := (h7 _ _ _ (hat j x hx)).1
            rw [addb, cell_block h4, ← this, hsz]
            congr 1; omega
          · have hkn : k < n := by
              rcases Nat.lt_or_ge k n with q | q
              · exact q
              · simp [List.getElem?_eq_none (show (List.range n).length ≤ k by simpa using q)] at hu
            simp [List.getElem?_map, List.getElem?_range hkn] at hu
            subst hu
            rw [List.getElem?_map, List.getElem?_take_of_lt hkn, List.getElem?_drop] at ha
            cases hx : ecs[off + k]? with
            | none => simp [hx] at ha
            | some x =>
              simp [hx] at ha
              subst ha
              simp only [RepA]
              have h9 := (h7 _ _ _ (hat k x hx)).2.1
              cases own with
              | false => exact h9.2
              | true =>
                refine RepX.one h9 ?_
                have := List.all_eq_true.1 (hl.2.2 rfl) x (by
                  refine List.mem_iff_getElem?.2 ⟨k, ?_⟩
                  rw [List.getElem?_take_of_lt hkn, List.getElem?_drop]; exact hx)
                exact this
        · cases hk
      · cases hk
    · rename_i es hi
      split at hk
      · rename_i ecs hecs
        split at hk
        · rename_i hl
          injection hk with hk; subst hk
          have ho := hs.ob id
          rw [hi] at ho
          simp only [SimO] at ho
          simp only [RepA] at hr
          obtain ⟨b, c, hm, rfl⟩ := hr
          rw [hm] at ho
          obtain ⟨_, h1, sz', vs, h3, h4⟩ := ho
          have hsz : sz' = sz := by rw [← h3 ecs (List.mem_of_getElem? hecs)]; exact hl.1
          subst hsz
          have hat : ∀ j x, ecs[off + j]? = some x → at2 es i (off + j) = some x := by intro j x hx; simp [at2, hecs, hx]
          refine ⟨_, (List.range n).map fun j => vs i (off + j), rfl, by simp, fun j u hu => ?_, repL_of_get (by simp; omega) fun k a u ha hu => ?_⟩
          · have hj : j < n := by
              rcases Nat.lt_or_ge j n with q | q
              · exact q
              · simp [List.getElem?_eq_none (show (List.range n).length ≤ j by simpa using q)] at hu
            simp [List.getElem?_map, List.getElem?_range hj] at hu
            subst hu
            obtain ⟨x, hx⟩ : ∃ x, ecs[off + j]? = some x := ⟨_, List.getElem?_eq_getElem (by omega)⟩
            have := (h4 _ _ _ (hat j x hx)).2.1
            rw [addb, ← this]
            congr 2; omega
          · have hkn : k < n := by
              rcases Nat.lt_or_ge k n with q | q
              · exact q
              · simp [List.getElem?_eq_none (show (List.range n).length ≤ k by simpa using q)] at hu
            simp [List.getElem?_map, List.getElem?_range hkn] at hu
            subst hu
            rw [List.getElem?_map, List.getElem?_take_of_lt hkn, List.getElem?_drop] at ha
            cases hx : ecs[off + k]? with
            | none => simp [hx] at ha
            | some x =>
              simp [hx] at ha
              subst ha
              simp only [RepA]
              exact (h4 _ _ _ (hat k x hx)).2.2
        · cases hk
      · cases hk
    · cases hk
  · rename_i ds
    split at hk
    · rename_i hl
      injection hk with hk; subst hk
      simp only [RepA] at hr
      obtain ⟨ad, vs, rfl, hc⟩ := hr
      refine ⟨ad, (List.range n).map vs, rfl, by simp, fun j u hu => ?_, repL_of_get (by simp; omega) fun k a u ha hu => ?_⟩
      · have hj : j < n := by
          rcases Nat.lt_or_ge j n with q | q
          · exact q
          · simp [List.getElem?_eq_none (show (List.range n).length ≤ j by simpa using q)] at hu
        simp [List.getElem?_map, List.getElem?_range hj] at hu
        subst hu
        exact (hc j _ (List.getElem?_eq_getElem (by omega))).2.1
      · have hkn : k < n := by
          rcases Nat.lt_or_ge k n with q | q
          · exact q
          · simp [List.getElem?_eq_none (show (List.range n).length ≤ k by simpa using q)] at hu
        simp [List.getElem?_map, List.getElem?_range hkn] at hu
        subst hu
        rw [List.getElem?_map, List.getElem?_take_of_lt hkn] at ha
        cases hx : ds[k]? with
        | none => simp [hx] at ha
        | some x =>
          simp [hx] at ha
          subst ha
          simp only [RepA]
          exact (hc k _ hx).2.2
    · cases hk
  · cases hk

theorem add_zero' (ad : Addr) : ad.add 0 = ad := by simp [Addr.add]

theorem load_sound (hs : Sim P w M t h tm) {ty : TypeId} {a r : A} {v : Value} {hp : Heap} (hr : RepA w M a v) (hk : (match P.underlying ty with
    | some _ => match rd h (szT P ty) a with
      | some cs => if szT P ty = 0 then none else if aggT P ty = true then some (.agg cs, h) else (match cs with
        | [c] => some (c, h)
        | _ => none)
      | none => none
    | none => none : Out) = some (r, hp)) : hp = h ∧ ∃ z, (Instr.loadAt ty v).run P w = .ok z w ∧ RepA w M r z := by
  split at hk
  · rename_i d hu
    split at hk
    · rename_i cs hrd
      obtain ⟨ad, us, rfl, hl, hc, hL⟩ := rd_sound hs hr hrd
      split at hk
      · cases hk
      · rename_i hz
        split at hk
        · rename_i hag
          simp only [Option.some.injEq, Prod.mk.injEq] at hk
          obtain ⟨rfl, rfl⟩ := hk
          refine ⟨rfl, .agg us.toArray, ?_, by simp only [RepA]; exact ⟨us, rfl, hL⟩⟩
          unfold Instr.loadAt
          simp only [Instr.sureAddr, Sem.run_bind, Sem.run_pure, Result.andThen_ok]
          unfold loadVar
          simp only [Sem.run_bind, aggT_run hu, Result.andThen_ok, hag, if_true, run_sz hz, ← hl, run_loadCells_list w ad us hc, Sem.run_pure]
        · rename_i hag
          split at hk
          · rename_i c
            simp only [Option.some.injEq, Prod.mk.injEq] at hk
            obtain ⟨rfl, rfl⟩ := hk
            have h1 := hL.length
            match us, h1, hL, hc with
            | [u], _, hL, hc =>
              simp only [RepL] at hL
              refine ⟨rfl, u, ?_, hL.1⟩
              have := hc 0 u rfl
              rw [add_zero'] at this
              unfold Instr.loadAt
              simp only [Instr.sureAddr, Sem.run_bind, Sem.run_pure, Result.andThen_ok]
              unfold loadVar
              simp only [Sem.run_bind, aggT_run hu, Result.andThen_ok, hag, Bool.false_eq_true, if_false]
              simp [this]
          · cases hk
    · cases hk
  · cases hk

theorem leaf_one {a : A} {v : Value} (ha : leafOk a = true) (hr : RepA w M a v) : v.oneCell' = true := by
  cases a with
  | d x => simp only [RepA] at hr; cases hr <;> rfl
  | es => simp only [RepA] at hr; rw [hr]; rfl
  | os id n => simp only [RepA] at hr; split at hr
               · rw [hr.2]; rfl
               · rw [hr.2]; rfl
  | ptr id off => simp only [RepA] at hr; obtain ⟨_, _, _, rfl⟩ := hr; rfl
  | pe id i sz off => simp only [RepA] at hr; obtain ⟨_, _, _, rfl⟩ := hr; rfl
  | dp cs => simp only [RepA] at hr; obtain ⟨_, _, rfl, _⟩ := hr; rfl
  | fn f cap => simp only [RepA] at hr; obtain ⟨_, rfl, _⟩ := hr; rfl
  | agg cs => cases ha
  | tup cs => cases ha
  | undef => cases ha
  | junk => cases ha
theorem leafs_one {l : List A} {us : List Value} (ha : l.all leafOk = true) (hr : RepL w M l us) : ∀ u ∈ us, u.oneCell' = true := by
  intro u hu
  obtain ⟨k, hk⟩ := List.mem_iff_getElem?.1 hu
  have hlt := (List.getElem?_eq_some_iff.1 hk).1
  obtain ⟨u', hu', hru⟩ := hr.get (List.getElem?_eq_getElem (show k < l.length by rw [hr.length]; exact hlt))
  rw [hk] at hu'
  injection hu' with hu'
  subst hu'
  exact leaf_one (List.all_eq_true.1 ha _ (List.getElem_mem _)) hru

theorem setRow_other {g b : Nat} {cs : Array Value} (h : b ≠ g) : (w.setRow g cs).heap[b]? = w.heap[b]? := by
  simp only [World.setRow, Array.getElem?_modify]
  split
  · rename_i e; exact absurd e.symm h
  · rfl
theorem setRow_size {g : Nat} {cs : Array Value} : (w.setRow g cs).heap.size = w.heap.size := by simp [World.setRow]

/-- A box is written. -/
theorem store_box (hs : Sim P w M t h tm) {id off : Nat} {e : TypeId} {bs l : List A} {us : List Value} (hi : h id = .box e bs) (hl : off + l.length ≤ bs.length) (hr : RepL w M l us) {v : Value} (hv : RepA w M (.ptr id off) v) :
    ∃ g cur, v = .pointer (some ⟨g, off, none⟩) ∧ w.heap[g]? = some (.cells cur e (0, 0)) ∧ off + us.length ≤ cur.size ∧ g ∈ M.own id ∧
      Sim P (w.setRow g (putAt cur.toList off us).toArray) M t (upd h id (.box e (putAt bs off l))) tm := by
  have ho := hs.ob id
  rw [hi] at ho
  simp only [SimO] at ho
  simp only [RepA] at hv
  obtain ⟨b, c, vs, h1, h2, h3, h4⟩ := ho
  obtain ⟨b', c', h1', rfl⟩ := hv
  rw [h1] at h1'
  simp only [Option.some.injEq, Prod.mk.injEq] at h1'
  obtain ⟨rfl, rfl⟩ := h1'
  have hlen := h4.length
  have hlu := hr.length
  simp at hlen
  refine ⟨b, vs, rfl, h3, by omega, by rw [h2]; simp, ?_⟩
  obtain ⟨k1, k2⟩ := hs.kill id .dead (by simp [SimO, upd_same]) (by simp)
  have k3 : Sim P (w.setRow b (putAt vs.toList off us).toArray) ⟨M.m, upd M.own id [], M.F⟩ t (upd h id .dead) tm :=
    k1.world (fun b' hb' => setRow_other fun e => (k2 b (by rw [h2]; simp)).2.1 (by rw [← e]; exact hb')) (fun i b' hb' => setRow_other fun e => (k2 b (by rw [h2]; simp)).2.2 i (by rw [← e]; exact hb')) (by rw [setRow_size]; exact Nat.le_refl _)
  have k4 : Limbo (w.setRow b (putAt vs.toList off us).toArray) ⟨M.m, upd M.own id [], M.F⟩ (M.own id) := fun b' hb' => ⟨by rw [setRow_size]; exact (k2 b' hb').1, (k2 b' hb').2⟩
  have k5 := k3.setO (s := id) (mv := M.m id) (o := .box e (putAt bs off l)) (upd_same _ _ _) (.inr rfl) k4 (by
    simp only [SimO, upd_upd, upd_self, upd_same]
    refine ⟨b, c, (putAt vs.toList off us).toArray, h1, h2, setRow_heap w b vs _ e (0, 0) h3, ?_⟩
    refine RepL.mono (M := M) (M' := ⟨M.m, M.own, M.F⟩) (fun b' hb' => ⟨hb', setRow_other fun e => ?_⟩) (by simpa using h4.putAt hr off) fun _ _ => rfl
    exact (hs.nf id b (by rw [h2]; simp)).1 (by rw [← e]; exact hb'))
  simpa only [upd_upd, upd_self] using k5
end
end Go.AX

namespace Go.AX
section
variable {P : Program} {w w' : World} {M : Mu} {t : Nat → A} {h : Heap} {tm : Array Value}

def arrMu (M : Mu) (s g c : Nat) (own : Bool) (Z : List Nat) : Mu :=
  match own with
  | true => ⟨upd M.m s (some (g, c)), upd M.own s (g :: Z), M.F⟩
  | false => ⟨upd M.m s (some (g, c)), upd M.own s [g], fun b => M.F b ∨ b ∈ Z⟩
theorem arrMu_m (s g c : Nat) (own : Bool) (Z : List Nat) : (arrMu M s g c own Z).m = upd M.m s (some (g, c)) := by cases own <;> rfl
theorem arrMu_F1 (s g c : Nat) (own : Bool) (Z : List Nat) (b : Nat) (hb : M.F b) : (arrMu M s g c own Z).F b := by
  cases own
  · exact .inl hb
  · exact hb
theorem arrMu_F2 (s g c : Nat) (own : Bool) (Z : List Nat) (b : Nat) (hb : (arrMu M s g c own Z).F b) : M.F b ∨ b ∈ Z := by
  cases own
  · exact hb
  · exact .inl hb
theorem arrMu_own (s g c : Nat) (own : Bool) (Z : List Nat) (id b : Nat) (hb : b ∈ (arrMu M s g c own Z).own id) : b ∈ M.own id ∨ b = g ∨ b ∈ Z := by
  cases own
  · simp only [arrMu] at hb
    by_cases hi : id = s
    · subst hi; rw [upd_same] at hb; simp at hb; exact .inr (.inl hb)
    · rw [upd_ne _ _ hi] at hb; exact .inl hb
  · simp only [arrMu] at hb
    by_cases hi : id = s
    · subst hi; rw [upd_same] at hb; simp at hb; exact .inr hb
    · rw [upd_ne _ _ hi] at hb; exact .inl hb

/-- A row of limbo becomes object s. -/
theorem Sim.setArr (hs : Sim P w M t h tm) {s g c : Nat} (hown : M.own s = []) (hn : NoRef s t h ∨ some (g, c) = M.m s) {Z : List Nat} (hl : Limbo w M (g :: Z)) (hg : g ∉ Z)
    {e : TypeId} {own : Bool} {es : List (List D)} {cur : Array Value} {vs : Nat → Nat → Value} {Bs : Nat → Nat → List Nat} (h1 : es.length ≤ c) (h2 : c ≤ maxLen) (h3 : ∀ e' ∈ es, e'.length = szT P e)
    (h4 : w.heap[g]? = some (.cells cur e (0, 0))) (h5 : cur.size = c * szT P e)
    (h6 : ∀ i j x, at2 es i j = some x → cur[i * szT P e + j]? = some (vs i j) ∧ Rep w (fun b => M.F b ∨ b ∈ Z) (vs i j) x ∧ (own = true → RepX P w (Bs i j) (vs i j) x ∧ ∀ b ∈ Bs i j, b ∈ Z))
    (h7 : own = true → ∀ i j x i' j' x', at2 es i j = some x → at2 es i' j' = some x' → i ≠ i' ∨ j ≠ j' → ∀ b' ∈ Bs i j, b' ∉ Bs i' j') :
    Sim P w (arrMu M s g c own Z) t (upd h s (.arr e own es)) tm := by
  cases own with
  | true =>
    refine hs.setO hown hn hl ?_
    simp only [SimO, SimArr, upd_same]
    refine ⟨cur, vs, Bs, h1, h2, h3, h4, h5, by simp, fun i j x hx => ?_, h7 rfl⟩
    obtain ⟨q1, q2, q3⟩ := h6 i j x hx
    exact ⟨q1, (q3 rfl).1, fun b hb => ⟨by simp [(q3 rfl).2 b hb], fun e => hg (by rw [← e]; exact (q3 rfl).2 b hb)⟩⟩
  | false =>
    have hf := hs.freeze (L := Z) (fun b hb => hl b (by simp [hb]))
    refine hf.setO (L := [g]) hown hn (fun b hb => ?_) ?_
    · simp only [List.mem_singleton] at hb
      subst hb
      have := hl b (by simp)
      exact ⟨this.1, fun hq => hq.elim this.2.1 hg, this.2.2⟩
    · simp only [SimO, SimArr, upd_same]
      refine ⟨cur, vs, fun _ _ => [], h1, h2, h3, h4, h5, by simp, fun i j x hx => ?_, fun _ _ _ _ _ _ _ _ _ b hb => by simp at hb⟩
      obtain ⟨q1, q2, _⟩ := h6 i j x hx
      exact ⟨q1, ⟨rfl, q2⟩, by simp⟩

theorem own_of_D {own1 : Nat → List Nat} {h1 : Heap} (D : ∀ id, (own1 id = M.own id ∧ h1 id = h id) ∨ (own1 id = [] ∧ h1 id = .dead)) {id b : Nat} (hb : b ∈ own1 id) : b ∈ M.own id := by
  rcases D id with ⟨q, _⟩ | ⟨q, _⟩
  · rw [← q]; exact hb
  · rw [q] at hb; cases hb

/-- A row is written. -/
theorem store_arr (hs : Sim P w M t h tm) {id i sz off : Nat} {e : TypeId} {own o : Bool} {es : List (List D)} {cs xs : List D} {l : List A} {us : List Value} {h1 : Heap} (hr : RepL w M l us) (hk : sink h l = some (xs, o, h1))
    (hi : h1 id = .arr e own es) (hc : es[i]? = some cs) (hl : cs.length = sz) (hb : off + xs.length ≤ sz) {v : Value} (hv : RepA w M (.pe id i sz off) v) :
    ∃ g cur M', v = .pointer (some ⟨g, i * sz + off, none⟩) ∧ w.heap[g]? = some (.cells cur e (0, 0)) ∧ i * sz + off + us.length ≤ cur.size ∧ g ∈ M.own id ∧
      Sim P (w.setRow g (putAt cur.toList (i * sz + off) us).toArray) M' t (upd h1 id (.arr e (own && o) (es.set i (putAt cs off xs)))) tm ∧
      Step w M (w.setRow g (putAt cur.toList (i * sz + off) us).toArray) M' ∧ M'.m = M.m := by
  obtain ⟨own1, Bl, s1, l1, n1, n2, R1, E1, O1, D1⟩ := sink_sound l hs hr hk
  have ho := s1.ob id
  rw [hi] at ho
  simp only [SimO, SimArr] at ho
  simp only [RepA] at hv
  obtain ⟨g, c, hm, rfl⟩ := hv
  rw [hm] at ho
  obtain ⟨cur, vs, Bs, h1', h2', h3', h4', h5', h6', h7', h8'⟩ := ho
  have hsz : szT P e = sz := by rw [← h3' cs (List.mem_of_getElem? hc)]; exact hl
  have hil : i < es.length := (List.getElem?_eq_some_iff.1 hc).1
  have hbig : i * sz + sz ≤ cur.size := by
    rw [h5', hsz, ← Nat.succ_mul]
    exact Nat.mul_le_mul_right _ (by omega)
  have hcur : i * sz + off + us.length ≤ cur.size := by omega
  have hgid : g ∈ M.own id := own_of_D D1 h6'
  -- the object goes into limbo, its row is written
  obtain ⟨k1, k2⟩ := s1.kill id .dead (by simp [SimO, upd_same]) (by simp)
  let w2 := w.setRow g (putAt cur.toList (i * sz + off) us).toArray
  have hw2 : ∀ b, b ≠ g → w2.heap[b]? = w.heap[b]? := fun b hb => setRow_other hb
  have gl := k2 g h6'
  have k3 : Sim P w2 ⟨M.m, upd own1 id [], M.F⟩ t (upd h1 id .dead) tm :=
    k1.world (fun b hb => hw2 b fun e => gl.2.1 (by rw [← e]; exact hb)) (fun k b hb => hw2 b fun e => gl.2.2 k (by rw [← e]; exact hb)) (by show _ ≤ (w.setRow g _).heap.size; rw [setRow_size]; exact Nat.le_refl _)
  let Z := (own1 id).filter (fun b => b != g) ++ Bl.flatten
  have blg : ∀ b ∈ Bl.flatten, b ∉ own1 id := fun b hb => (l1 b hb).2.2 id
  have hgZ : g ∉ Z := by
    intro hq
    rcases List.mem_append.1 hq with hq | hq
    · simp at hq
    · exact blg g hq h6'
  have ownsub : ∀ k b, b ∈ upd own1 id [] k → b ∈ own1 k ∧ k ≠ id := by
    intro k b hb
    by_cases hkid : k = id
    · subst hkid; rw [upd_same] at hb; cases hb
    · rw [upd_ne _ _ hkid] at hb; exact ⟨hb, hkid⟩
  have hlim : Limbo w2 ⟨M.m, upd own1 id [], M.F⟩ (g :: Z) := by
    intro b hb
    have hsz2 : w2.heap.size = w.heap.size := setRow_size
    rcases List.mem_cons.1 hb with rfl | hb
    · exact ⟨by rw [hsz2]; exact gl.1, gl.2⟩
    · rcases List.mem_append.1 hb with hb | hb
      · have := k2 b ((List.mem_filter.1 hb).1)
        exact ⟨by rw [hsz2]; exact this.1, this.2⟩
      · have := l1 b hb
        exact ⟨by rw [hsz2]; exact this.1, this.2.1, fun k hk => this.2.2 k (ownsub k b hk).1⟩
  have memZ1 : ∀ b ∈ own1 id, b ≠ g → b ∈ Z := fun b hb hne => List.mem_append.2 (.inl (by simp [hb, hne]))
  have memZ2 : ∀ b ∈ Bl.flatten, b ∈ Z := fun b hb => List.mem_append.2 (.inr hb)
  let inn : Nat → Nat → Bool := fun i' j' => decide (i' = i ∧ off ≤ j' ∧ j' < off + xs.length)
  let vs2 : Nat → Nat → Value := fun i' j' => if inn i' j' then us.getD (j' - off) undef else vs i' j'
  let Bs2 : Nat → Nat → List Nat := fun i' j' => if inn i' j' then Bl.getD (j' - off) [] else Bs i' j'
  have hat : ∀ i' j' x, at2 (es.set i (putAt cs off xs)) i' j' = some x → (inn i' j' = true ∧ xs[j' - off]? = some x) ∨ (inn i' j' = false ∧ at2 es i' j' = some x) := by
    intro i' j' x hx
    unfold at2 at hx ⊢
    by_cases hii : i' = i
    · subst hii
      rw [List.getElem?_set_self hil] at hx
      simp only [Option.bind_some] at hx
      rw [putAt_get (by omega)] at hx
      by_cases hq : off ≤ j' ∧ j' < off + xs.length
      · rw [if_pos hq] at hx
        exact .inl ⟨by simp [inn, hq], hx⟩
      · rw [if_neg hq] at hx
        exact .inr ⟨by simp only [inn, true_and, decide_eq_false_iff_not]; exact hq, by rw [hc]; exact hx⟩
    · rw [List.getElem?_set_ne (fun e => hii e.symm)] at hx
      exact .inr ⟨by simp [inn, hii], hx⟩
  have cellsAt : ∀ i' j', j' < sz → (putAt cur.toList (i * sz + off) us).toArray[i' * sz + j']? = if inn i' j' then us[j' - off]? else cur[i' * sz + j']? := by
    intro i' j' hj
    rw [List.getElem?_toArray, putAt_get (by simpa using hcur), ← n2]
    by_cases hii : i' = i
    · subst hii
      by_cases hq : off ≤ j' ∧ j' < off + xs.length
      · rw [if_pos (by omega), if_pos (by simp [inn, hq])]
        congr 1; omega
      · rw [if_neg (by omega), if_neg (by simp only [inn, true_and, decide_eq_true_eq]; exact hq)]
        simp
    · have hn : ¬ (i * sz + off ≤ i' * sz + j' ∧ i' * sz + j' < i * sz + off + xs.length) := by
        intro hq
        rcases Nat.lt_or_gt_of_ne hii with q | q
        · have : (i' + 1) * sz ≤ i * sz := Nat.mul_le_mul_right _ q
          rw [Nat.succ_mul] at this; omega
        · have : (i + 1) * sz ≤ i' * sz := Nat.mul_le_mul_right _ q
          rw [Nat.succ_mul] at this; omega
      rw [if_neg hn, if_neg (by simp [inn, hii])]
      simp
  have k5 := k3.setArr (s := id) (g := g) (c := c) (upd_same _ _ _) (.inr hm.symm) hlim hgZ (e := e) (own := own && o) (es := es.set i (putAt cs off xs)) (cur := (putAt cur.toList (i * sz + off) us).toArray) (vs := vs2) (Bs := Bs2)
    (by simpa using h1') h2' (by
      intro e' he'
      rcases List.mem_or_eq_of_mem_set he' with q | rfl
      · exact h3' e' q
      · unfold putAt; simp; omega)
    (setRow_heap w g cur _ e (0, 0) h4') (by
      rw [List.size_toArray]; unfold putAt; simp; rw [← h5']; omega)
    (by
      intro i' j' x hx
      have hj : j' < sz := by
        rcases hat i' j' x hx with ⟨q, _⟩ | ⟨_, q⟩
        · simp [inn] at q; omega
        · have := at2_lt q h3'; omega
      rw [hsz, cellsAt i' j' hj]
      rcases hat i' j' x hx with ⟨q, qx⟩ | ⟨q, qx⟩
      · have hlt : j' - off < xs.length := (List.getElem?_eq_some_iff.1 qx).1
        have hu : us[j' - off]? = some (us.getD (j' - off) undef) := by
          rw [List.getElem?_eq_getElem (by omega), List.getD_eq_getElem?_getD, List.getElem?_eq_getElem (by omega)]; rfl
        have hB : Bl[j' - off]? = some (Bl.getD (j' - off) []) := by
          rw [List.getElem?_eq_getElem (by omega), List.getD_eq_getElem?_getD, List.getElem?_eq_getElem (by omega)]; rfl
        obtain ⟨r1, r2⟩ := R1 _ _ _ _ qx hu hB
        have hBm : ∀ b ∈ Bl.getD (j' - off) [], b ∈ Bl.flatten := fun b hb => List.mem_flatten.2 ⟨_, List.mem_of_getElem? hB, hb⟩
        have hne : ∀ b ∈ Bl.flatten, b ≠ g := fun b hb e => blg b hb (by rw [e]; exact h6')
        simp only [q, if_true, vs2, Bs2]
        refine ⟨hu, r1.mono fun b hb => ⟨hb.imp (fun q => q) fun hb => memZ2 b (hBm b hb), ?_⟩, fun hq => ⟨(r2 (by revert hq; cases own <;> simp)).mono fun b hb => hw2 b (hne b (hBm b hb)), fun b hb => memZ2 b (hBm b hb)⟩⟩
        rcases hb with hb | hb
        · exact hw2 b fun e => gl.2.1 (by rw [← e]; exact hb)
        · exact hw2 b (hne b (hBm b hb))
      · obtain ⟨q1, q2, q3⟩ := h7' i' j' x qx
        simp only [q, if_false, Bool.false_eq_true, vs2, Bs2]
        rw [hsz] at q1
        refine ⟨q1, ?_, fun hq => ?_⟩
        · cases own with
          | true => exact (RepX.rep q2 (F := fun b => b ∈ Bs i' j') (fun b hb => hb)).mono fun b hb => ⟨.inr (memZ1 b (q3 b hb).1 (q3 b hb).2), hw2 b (q3 b hb).2⟩
          | false => exact q2.2.mono fun b hb => ⟨.inl hb, hw2 b fun e => gl.2.1 (by rw [← e]; exact hb)⟩
        · cases own with
          | true => exact ⟨RepX.mono q2 fun b hb => hw2 b (q3 b hb).2, fun b hb => memZ1 b (q3 b hb).1 (q3 b hb).2⟩
          | false => cases hq)
    (by
      intro hq i1 j1 x1 i2 j2 x2 hx1 hx2 hne b hb1 hb2
      have hown : own = true := by revert hq; cases own <;> simp
      subst hown
      rcases hat i1 j1 x1 hx1 with ⟨q1, qx1⟩ | ⟨q1, qx1⟩ <;> rcases hat i2 j2 x2 hx2 with ⟨q2, qx2⟩ | ⟨q2, qx2⟩
      · simp only [Bs2, q1, q2, if_true] at hb1 hb2
        have e1 : i1 = i ∧ off ≤ j1 := by simp [inn] at q1; omega
        have e2 : i2 = i ∧ off ≤ j2 := by simp [inn] at q2; omega
        have hl1 : j1 - off < Bl.length := by rw [n1]; exact (List.getElem?_eq_some_iff.1 qx1).1
        have hl2 : j2 - off < Bl.length := by rw [n1]; exact (List.getElem?_eq_some_iff.1 qx2).1
        rw [List.getD_eq_getElem?_getD, List.getElem?_eq_getElem hl1] at hb1
        rw [List.getD_eq_getElem?_getD, List.getElem?_eq_getElem hl2] at hb2
        exact E1 (j1 - off) (j2 - off) _ _ (by omega) (List.getElem?_eq_getElem hl1) (List.getElem?_eq_getElem hl2) b hb1 hb2
      · simp only [Bs2, q1, q2, if_true, if_false, Bool.false_eq_true] at hb1 hb2
        have hl1 : j1 - off < Bl.length := by rw [n1]; exact (List.getElem?_eq_some_iff.1 qx1).1
        rw [List.getD_eq_getElem?_getD, List.getElem?_eq_getElem hl1] at hb1
        exact blg b (List.mem_flatten.2 ⟨_, List.getElem_mem hl1, hb1⟩) ((h7' i2 j2 x2 qx2).2.2 b hb2).1
      · simp only [Bs2, q1, q2, if_true, if_false, Bool.false_eq_true] at hb1 hb2
        have hl2 : j2 - off < Bl.length := by rw [n1]; exact (List.getElem?_eq_some_iff.1 qx2).1
        rw [List.getD_eq_getElem?_getD, List.getElem?_eq_getElem hl2] at hb2
        exact blg b (List.mem_flatten.2 ⟨_, List.getElem_mem hl2, hb2⟩) ((h7' i1 j1 x1 qx1).2.2 b hb1).1
      · simp only [Bs2, q1, q2, if_false, Bool.false_eq_true] at hb1 hb2
        exact h8' i1 j1 x1 i2 j2 x2 qx1 qx2 hne b hb1 hb2)
  rw [upd_upd] at k5
  have Zown : ∀ b, b = g ∨ b ∈ Z → ∃ k, b ∈ M.own k := by
    intro b hb
    rcases hb with rfl | hb
    · exact ⟨id, hgid⟩
    · rcases List.mem_append.1 hb with hb | hb
      · exact ⟨id, own_of_D D1 ((List.mem_filter.1 hb).1)⟩
      · exact O1 b hb
  refine ⟨g, cur, _, rfl, h4', hcur, hgid, k5, ⟨rfl, rfl, rfl, by rw [setRow_size]; exact Nat.le_refl _, fun b hb hn => setRow_other fun e => hn id (by rw [e]; exact hgid), fun b hb => arrMu_F1 (M := ⟨M.m, upd own1 id [], M.F⟩) _ _ _ _ _ b hb, fun b hb => ?_, fun k b hb => ?_⟩, ?_⟩
  · rcases arrMu_F2 _ _ _ _ _ b hb with q | q
    · exact .inl q
    · exact .inr (.inl (Zown b (.inr q)))
  · rcases arrMu_own _ _ _ _ _ k b hb with q | q
    · exact .inl ⟨k, own_of_D D1 (ownsub k b q).1⟩
    · exact .inl (Zown b q)
  · rw [arrMu_m]
    simp only
    rw [← hm, upd_self]
end
end Go.AX

namespace Go.AX
section
variable {P : Program} {w w' : World} {M : Mu} {t : Nat → A} {h : Heap} {tm : Array Value}

theorem storeAt_run {ty : TypeId} {g off : Nat} {cur : Array Value} {e : TypeId} {v : Value} (hg : w.heap[g]? = some (.cells cur e (0, 0))) (hz : szT P ty ≠ 0) (hl : v.cells.toList.length = szT P ty) (hb : off + v.cells.toList.length ≤ cur.size) (h1 : ∀ u ∈ v.cells.toList, u.oneCell' = true) :
    (Instr.storeAt ty (.pointer (some ⟨g, off, none⟩)) v).run P w = .ok () (w.setRow g (putAt cur.toList off v.cells.toList).toArray) := by
  unfold Instr.storeAt
  simp only [Instr.sureAddr, Sem.run_bind, Sem.run_pure, Result.andThen_ok]
  unfold storeVar
  simp only [Sem.run_bind, run_sz hz, Result.andThen_ok]
  rw [if_neg (by simpa using hl)]
  have := run_storeCells_at (P := P) g off e v.cells.toList 0 cur w hg (by omega) h1
  simpa [putAt] using this

theorem store_sound (hs : Sim P w M t h tm) {ty : TypeId} {x a r : A} {v u : Value} {h' : Heap} (hx : RepA w M x u) (ha : RepA w M a v)
    (hk : (match leafs x with
    | some l => if l.length = szT P ty ∧ szT P ty ≠ 0 ∧ l.all leafOk = true then
        (match wr h l a with
        | some h' => some (A.undef, h')
        | none => none) else none
    | none => none : Out) = some (r, h')) :
    r = .undef ∧ ∃ w' M', (Instr.storeAt ty v u).run P w = .ok () w' ∧ Sim P w' M' t h' tm ∧ Step w M w' M' ∧ M'.m = M.m := by
  split at hk
  · rename_i l hl
    split at hk
    · rename_i hq
      obtain ⟨q1, q2, q3⟩ := hq
      have hL := leafs_sound hl hx
      have hlen := hL.length
      have h1 := leafs_one q3 hL
      split at hk
      · rename_i h'' hw
        simp only [Option.some.injEq, Prod.mk.injEq] at hk
        obtain ⟨rfl, rfl⟩ := hk
        refine ⟨rfl, ?_⟩
        unfold wr at hw
        split at hw
        · rename_i id off
          split at hw
          · rename_i e bs hi
            split at hw
            · rename_i hb
              injection hw with hw; subst hw
              obtain ⟨g, cur, rfl, hg, hb', hm, k⟩ := store_box hs hi hb hL ha
              exact ⟨_, M, storeAt_run hg q2 (by omega) hb' h1, k, ⟨rfl, rfl, rfl, by rw [setRow_size]; exact Nat.le_refl _, fun b _ hn => setRow_other fun e => hn id (by rw [e]; exact hm), fun b hb => hb, fun b hb => .inl hb, fun i b hb => .inl ⟨i, hb⟩⟩, rfl⟩
            · cases hw
          · cases hw
        · rename_i id i sz off
          split at hw
          · rename_i xs o h1' hk'
            split at hw
            · rename_i e own es hi
              split at hw
              · rename_i cs hc
                split at hw
                · rename_i hb
                  injection hw with hw; subst hw
                  obtain ⟨g, cur, M', rfl, hg, hb', hm, k, st, mm⟩ := store_arr hs hL hk' hi hc hb.1 hb.2 ha
                  exact ⟨_, M', storeAt_run hg q2 (by omega) hb' h1, k, st, mm⟩
                · cases hw
              · cases hw
            · cases hw
          · cases hw
        · cases hw
      · cases hk
    · cases hk
  · cases hk

theorem alloc_heap (o : Obj) : (w.alloc o).heap = w.heap.push o := rfl
theorem alloc_old {o : Obj} {b : Nat} (hb : b < w.heap.size) : (w.alloc o).heap[b]? = w.heap[b]? := by
  rw [alloc_heap, Array.getElem?_push, if_neg (by omega)]
theorem alloc_new {o : Obj} : (w.alloc o).heap[w.heap.size]? = some o := by
  rw [alloc_heap, Array.getElem?_push, if_pos rfl]
theorem alloc_size {o : Obj} : (w.alloc o).heap.size = w.heap.size + 1 := by rw [alloc_heap]; simp

/-- A new box. -/
theorem new_box (hs : Sim P w M t h tm) {s : Nat} (hown : M.own s = []) (hn : NoRef s t h) {l : List A} {us : List Value} (hr : RepL w M l us) (hl : s ∉ refsL l) (e : TypeId) :
    ∃ M', Sim P (w.alloc (.cells us.toArray e)) M' t (upd h s (.box e l)) tm ∧ RepA (w.alloc (.cells us.toArray e)) M' (.ptr s 0) (.pointer (some ⟨w.heap.size, 0, none⟩)) ∧ Step w M (w.alloc (.cells us.toArray e)) M' ∧ M'.m = upd M.m s (some (w.heap.size, 0)) := by
  obtain ⟨k1, k2⟩ := hs.alloc (.cells us.toArray e)
  refine ⟨⟨upd M.m s (some (w.heap.size, 0)), upd M.own s [w.heap.size], M.F⟩, k1.setO (L := [w.heap.size]) hown (.inl hn) k2 ?_, ?_, ?_, rfl⟩
  · simp only [SimO, upd_same]
    refine ⟨_, 0, us.toArray, rfl, rfl, alloc_new, ?_⟩
    exact RepL.mono (M := M) (M' := ⟨upd M.m s (some (w.heap.size, 0)), upd M.own s [w.heap.size], M.F⟩) (fun b hb => ⟨hb, alloc_old (hs.fz b hb)⟩) hr fun k hk => upd_ne _ _ fun e => hl (by rw [← e]; exact hk)
  · simp only [RepA, upd_same]
    exact ⟨_, _, rfl, rfl⟩
  · refine ⟨rfl, rfl, rfl, by rw [alloc_size]; omega, fun b hb _ => alloc_old hb, fun b hb => hb, fun b hb => .inl hb, fun i b hb => ?_⟩
    simp only at hb
    by_cases hi : i = s
    · subst hi; rw [upd_same] at hb; simp at hb; exact .inr (by omega)
    · rw [upd_ne _ _ hi] at hb; exact .inl ⟨i, hb⟩
theorem box_run (e : TypeId) (v : Value) : (Instr.box e v).run P w = .ok (.pointer (some ⟨w.heap.size, 0, none⟩)) (w.alloc (.cells v.cells e)) := rfl
theorem zeroT_run {ty : TypeId} {z : List A} (hz : zeroT P ty = some z) : ∃ v, (zeroValue ty).run P w = .ok v w ∧ RepL w M z v.cells.toList := by
  unfold zeroT at hz
  cases hi : P.info? ty with
  | none => simp [hi] at hz
  | some i =>
    cases hv : i.zero with
    | none => simp [hi, hv] at hz
    | some v =>
      simp [hi, hv] at hz
      refine ⟨v, by simp [zeroValue, typeInfo, hi, hv], ?_⟩
      subst hz
      have := repL_map (w := w) (M := M) (xs := v.cells.toList) (f := ofLeaf) (g := id) fun x _ => ofLeaf_rep x
      simpa using this
theorem refs_ofLeaf (v : Value) : refsA (ofLeaf v) = [] := by unfold ofLeaf; split <;> simp [refsA]
theorem refs_map_ofLeaf (l : List Value) : refsL (l.map ofLeaf) = [] := by
  induction l with
  | nil => rfl
  | cons v l ih => simp [refsL, refs_ofLeaf, ih]
theorem refs_zeroT {ty : TypeId} {z : List A} (hz : zeroT P ty = some z) : refsL z = [] := by
  unfold zeroT at hz
  cases hi : (P.info? ty).bind (·.zero) with
  | none => simp [hi] at hz
  | some v => simp [hi] at hz; rw [← hz]; simpa using refs_map_ofLeaf v.cells.toList
theorem alloc_run {ty : TypeId} {v : Value} (hz : (zeroValue ty).run P w = .ok v w) : (Instr.alloc ty true (.tuple #[])).run P w = .ok (.pointer (some ⟨w.heap.size, 0, none⟩)) (w.alloc (.cells v.cells ty)) := by
  unfold Instr.alloc
  simp only [Sem.run_bind, hz, Result.andThen_ok]
  rfl

/-! ### literals of slices -/
theorem at2_chunk {n sz : Nat} {xs : List D} {i j : Nat} {x : D} (hq : at2 (chunk n sz xs) i j = some x) : i < n ∧ j < sz ∧ xs[i * sz + j]? = some x := by
  unfold at2 chunk at hq
  rw [List.getElem?_map] at hq
  by_cases hi : i < n
  · rw [List.getElem?_range hi] at hq
    simp only [Option.map_some, Option.bind_some] at hq
    by_cases hj : j < sz
    · rw [List.getElem?_take_of_lt hj, List.getElem?_drop] at hq
      exact ⟨hi, hj, hq⟩
    · rw [List.getElem?_take_eq_none (by omega)] at hq; cases hq
  · rw [List.getElem?_eq_none (by simpa using hi)] at hq; simp at hq
theorem chunk_len {n sz : Nat} {xs : List D} (hl : xs.length = n * sz) : (chunk n sz xs).length = n ∧ ∀ e ∈ chunk n sz xs, e.length = sz := by
  refine ⟨by simp [chunk], fun e he => ?_⟩
  simp only [chunk, List.mem_map, List.mem_range] at he
  obtain ⟨i, hi, rfl⟩ := he
  simp only [List.length_take, List.length_drop, hl]
  have : (i + 1) * sz ≤ n * sz := Nat.mul_le_mul_right _ hi
  rw [Nat.succ_mul] at this
  omega
open Instr in
theorem fill_lit {sz : Nat} : ∀ (parts : List (Nat × A)) {ps : List (Nat × Value)} {k : Nat} {l : List A} {cs : Array Value}, litL sz k parts = some l → RepP w M parts ps → cs.size = (k + parts.length) * sz →
    ∃ (cs' : Array Value) (us : List Value), fill (fun i => some (i * sz, sz)) cs ps = some cs' ∧ cs'.toList = cs.toList.take (k * sz) ++ us ∧ RepL w M l us ∧ us.length = parts.length * sz
  | [], ps, k, l, cs, hl, hp, hc => by
    cases ps with
    | cons p ps => simp [RepP] at hp
    | nil =>
      simp only [litL, Option.some.injEq] at hl
      subst hl
      refine ⟨cs, [], rfl, ?_, by simp [RepL], by simp⟩
      rw [List.take_of_length_le (by simp at hc ⊢; omega)]; simp
  | (i, a) :: parts, ps, k, l, cs, hl, hp, hc => by
    cases ps with
    | nil => simp [RepP] at hp
    | cons p ps =>
      obtain ⟨i', v⟩ := p
      simp only [RepP] at hp
      obtain ⟨rfl, ha, hp⟩ := hp
      simp only [litL] at hl
      split at hl
      · rename_i l0 hl0
        split at hl
        · rename_i hq
          obtain ⟨rfl, hsz⟩ := hq
          split at hl
          · rename_i l' hl'
            injection hl with hl
            subst hl
            have hL := leafs_sound hl0 ha
            have hlen := hL.length
            simp only [List.length_cons] at hc
            have hsz2 : v.cells.size = sz := by simp at hlen; omega
            have hbig : i * sz + sz ≤ cs.size := by
              rw [hc, ← Nat.succ_mul]
              exact Nat.mul_le_mul_right _ (by omega)
            have hf := fold_put v.cells.toList (i * sz) 0 cs (by simp; omega)
            let cs1 := v.cells.zipIdx.foldl (fun cs (c, j) => cs.setIfInBounds (i * sz + j) c) cs
            have hcs1 : cs1.toList = putAt cs.toList (i * sz) v.cells.toList := by
              rw [show cs1 = v.cells.zipIdx.foldl (fun cs (c, j) => cs.setIfInBounds (i * sz + j) c) cs from rfl, ← Array.foldl_toList, Array.toList_zipIdx]
              exact hf
            have hcz : cs1.size = cs.size := by
              have := congrArg List.length hcs1
              simp [putAt] at this
              omega
            obtain ⟨cs', us, h1, h2, h3, h4⟩ := fill_lit parts (k := i + 1) (cs := cs1) hl' hp (by rw [hcz, hc]; congr 1; omega)
            refine ⟨cs', v.cells.toList ++ us, ?_, ?_, hL.append h3, by simp [h4, hsz2, Nat.add_mul]; omega⟩
            · simp only [fill]
              rw [if_neg (by simp; omega)]
              exact h1
            · rw [h2, hcs1]
              have : (putAt cs.toList (i * sz) v.cells.toList).take ((i + 1) * sz) = cs.toList.take (i * sz) ++ v.cells.toList := by
                unfold putAt
                rw [List.take_append_of_le_length (by simp; rw [Nat.succ_mul]; omega)]
                exact List.take_of_length_le (by simp; rw [Nat.succ_mul]; omega)
              rw [this, List.append_assoc]
          · cases hl
        · cases hl
      · cases hl
end
end Go.AX

namespace Go.AX
section
variable {P : Program} {w w' : World} {M : Mu} {t : Nat → A} {h : Heap} {tm : Array Value}

theorem NoRef.of_D {own1 : Nat → List Nat} {h1 : Heap} {s : Nat} (hn : NoRef s t h) (D : ∀ id, (own1 id = M.own id ∧ h1 id = h id) ∨ (own1 id = [] ∧ h1 id = .dead)) : NoRef s t h1 :=
  ⟨hn.1, fun k => by
    rcases D k with ⟨_, q⟩ | ⟨_, q⟩
    · rw [q]; exact hn.2 k
    · rw [q]; simp [refsO]⟩
theorem own_nil_of_D {own1 : Nat → List Nat} {h1 : Heap} {s : Nat} (hs : M.own s = []) (D : ∀ id, (own1 id = M.own id ∧ h1 id = h id) ∨ (own1 id = [] ∧ h1 id = .dead)) : own1 s = [] := by
  rcases D s with ⟨q, _⟩ | ⟨q, _⟩
  · rw [q, hs]
  · exact q

theorem slice_lit (hs : Sim P w M t h tm) {s : Nat} (hown : M.own s = []) (hn : NoRef s t h) {e : TypeId} {parts : List (Nat × A)} {ps : Array (Nat × Value)} (hp : RepP w M parts ps.toList) {es : List (List D)} {own : Bool} {h1 : Heap}
    (hk : litA h (szT P e) parts = some (es, own, h1)) (hz : ∃ z, zeroT P e = some z) {ty : TypeId} (he : elT P ty = some e) (hsz : szT P e ≠ 0) (hbig : parts.length * szT P e ≤ 16777216) {n : Nat} (hlen : es.length = n) :
    ∃ z w' M', (Instr.buildSlice ty n ps).run P w = .ok z w' ∧ Sim P w' M' t (upd h1 s (.arr e own es)) tm ∧ RepA w' M' (.os s es.length) z ∧ Step w M w' M' ∧ ∀ k, k ≠ s → M'.m k = M.m k := by
  unfold litA at hk
  split at hk
  · rename_i l hl
    split at hk
    · rename_i xs o h1' hsk
      simp only [Option.some.injEq, Prod.mk.injEq] at hk
      obtain ⟨rfl, rfl, rfl⟩ := hk
      have hpl : parts.length = n := by rw [← hlen]; simp [chunk]
      obtain ⟨v, hv, hr⟩ := zeroT_run (P := P) (w := w) (M := M) hz.choose_spec
      let cs0 : Array Value := (Array.range (n * szT P e)).map (fun i => (if n * szT P e = 0 then #[] else v.cells)[i % (if n * szT P e = 0 then #[] else v.cells).size]!)
      obtain ⟨cs', us, hf, hc', hL, hul⟩ := fill_lit (w := w) (M := M) parts (k := 0) (cs := cs0) hl hp (by simp [cs0, hpl])
      obtain ⟨own1, Bl, s1, l1, n1, n2, R1, E1, O1, D1⟩ := sink_sound l hs hL hsk
      have hxl : xs.length = parts.length * szT P e := by rw [n2, hul]
      have hcs' : cs' = us.toArray := by
        apply Array.toList_inj.1
        rw [hc']; simp
      subst hcs'
      obtain ⟨k1, k2⟩ := s1.alloc (.cells us.toArray e)
      have hch := chunk_len hxl
      have l2 : Limbo (w.alloc (.cells us.toArray e)) ⟨M.m, own1, M.F⟩ (w.heap.size :: Bl.flatten) := by
        intro b hb
        rcases List.mem_cons.1 hb with rfl | hb
        · exact k2 _ (by simp)
        · exact ⟨by rw [alloc_size]; have := (l1 b hb).1; omega, (l1 b hb).2⟩
      have k3 := k1.setArr (s := s) (g := w.heap.size) (c := n) (own_nil_of_D hown D1) (.inl (hn.of_D D1)) l2 (fun hb => absurd (l1 _ hb).1 (Nat.lt_irrefl _)) (e := e) (own := o) (es := chunk parts.length (szT P e) xs) (cur := us.toArray)
        (vs := fun i j => us.getD (i * szT P e + j) undef) (Bs := fun i j => Bl.getD (i * szT P e + j) [])
        (by rw [hch.1]; omega) (by
          have : parts.length ≤ parts.length * szT P e := Nat.le_mul_of_pos_right _ (by omega)
          simp only [maxLen]; omega) hch.2 alloc_new (by simp [hul, hpl])
        (by
          intro i j x hx
          obtain ⟨hi, hj, hx'⟩ := at2_chunk hx
          have hlt : i * szT P e + j < xs.length := (List.getElem?_eq_some_iff.1 hx').1
          have hu : us[i * szT P e + j]? = some (us.getD (i * szT P e + j) undef) := by
            rw [List.getElem?_eq_getElem (by omega), List.getD_eq_getElem?_getD, List.getElem?_eq_getElem (by omega)]; rfl
          have hB : Bl[i * szT P e + j]? = some (Bl.getD (i * szT P e + j) []) := by
            rw [List.getElem?_eq_getElem (by omega), List.getD_eq_getElem?_getD, List.getElem?_eq_getElem (by omega)]; rfl
          obtain ⟨r1, r2⟩ := R1 _ _ _ _ hx' hu hB
          have hBm : ∀ b ∈ Bl.getD (i * szT P e + j) [], b ∈ Bl.flatten := fun b hb => List.mem_flatten.2 ⟨_, List.mem_of_getElem? hB, hb⟩
          refine ⟨by rw [List.getElem?_toArray]; exact hu, r1.mono fun b hb => ⟨hb.imp (fun q => q) (hBm b), alloc_old ?_⟩, fun hq => ⟨(r2 hq).mono fun b hb => alloc_old (l1 b (hBm b hb)).1, hBm⟩⟩
          rcases hb with hb | hb
          · exact hs.fz b hb
          · exact (l1 b (hBm b hb)).1)
        (by
          intro _ i j x i' j' x' hx hx' hne b hb hb'
          obtain ⟨hi, hj, hx⟩ := at2_chunk hx
          obtain ⟨hi', hj', hx'⟩ := at2_chunk hx'
          have hlt : i * szT P e + j < Bl.length := by rw [n1]; exact (List.getElem?_eq_some_iff.1 hx).1
          have hlt' : i' * szT P e + j' < Bl.length := by rw [n1]; exact (List.getElem?_eq_some_iff.1 hx').1
          rw [List.getD_eq_getElem?_getD, List.getElem?_eq_getElem hlt] at hb
          rw [List.getD_eq_getElem?_getD, List.getElem?_eq_getElem hlt'] at hb'
          refine E1 _ _ _ _ ?_ (List.getElem?_eq_getElem hlt) (List.getElem?_eq_getElem hlt') b hb hb'
          intro heq
          rcases Nat.lt_trichotomy i i' with q | q | q
          · have : (i + 1) * szT P e ≤ i' * szT P e := Nat.mul_le_mul_right _ q
            rw [Nat.succ_mul] at this; omega
          · subst q; omega
          · have : (i' + 1) * szT P e ≤ i * szT P e := Nat.mul_le_mul_right _ q
            rw [Nat.succ_mul] at this; omega)
      refine ⟨.slice (some ⟨w.heap.size, 0, none⟩) n n, _, _, ?_, k3, ?_, ?_, fun k hk => ?_⟩
      · unfold Instr.buildSlice
        simp only [Sem.run_bind, run_underlying (elT_und he), Result.andThen_ok, run_sz hsz]
        rw [hpl] at hbig
        rw [if_neg (by omega)]
        by_cases h0 : n * szT P e = 0
        · simp only [cs0, h0, if_true] at hf
          simp only [h0, if_true, Sem.run_bind, Sem.run_pure, Result.andThen_ok, hf]
          rfl
        · simp only [cs0, h0, if_false] at hf
          simp only [h0, if_false, Sem.run_bind, hv, Result.andThen_ok, Sem.run_pure, hf]
          rfl
      · simp only [RepA, arrMu_m, upd_same]
        rw [hlen]
        exact ⟨Nat.le_refl _, rfl⟩
      · refine ⟨rfl, rfl, rfl, by rw [alloc_size]; omega, fun b hb _ => alloc_old hb, fun b hb => arrMu_F1 (M := ⟨M.m, own1, M.F⟩) _ _ _ _ _ b hb, fun b hb => ?_, fun k b hb => ?_⟩
        · rcases arrMu_F2 _ _ _ _ _ b hb with q | q
          · exact .inl q
          · exact .inr (.inl (O1 b q))
        · rcases arrMu_own _ _ _ _ _ k b hb with q | rfl | q
          · exact .inl ⟨k, own_of_D D1 q⟩
          · exact .inr (Nat.le_refl _)
          · exact .inl (O1 b q)
      · rw [arrMu_m]; exact upd_ne _ _ hk
    · cases hk
  · cases hk

theorem make_lit (hs : Sim P w M t h tm) {s : Nat} (hown : M.own s = []) (hn : NoRef s t h) {e ty : TypeId} {z : List A} {zs : List D} {h0 : Heap} (hz : zeroT P e = some z) (hk : sink (fun _ => .gone) z = some (zs, true, h0)) (he : elT P ty = some e)
    (hsz : szT P e ≠ 0) (hzl : zs.length = szT P e) {l : Int} (hl0 : 0 ≤ l) (hl63 : l ≤ 9223372036854775807) (hb : l * bytesT P e ≤ 140737488355328) :
    ∃ v w' M', (Instr.makeSlice ty (.int .i64 l) (.int .i64 l)).run P w = .ok v w' ∧ Sim P w' M' t (upd h s (.arr e true (List.replicate l.toNat zs))) tm ∧ RepA w' M' (.os s l.toNat) v ∧ Step w M w' M' ∧ ∀ k, k ≠ s → M'.m k = M.m k := by
  obtain ⟨v, hv, hr⟩ := zeroT_run (P := P) (w := w) (M := ⟨fun _ => none, fun _ => [], M.F⟩) hz
  have s0 : Sim P w ⟨fun _ => none, fun _ => [], M.F⟩ (fun _ => .junk) (fun _ => .gone) #[] :=
    ⟨fun i => by simp [RepA], fun id => by simp [SimO], fun i j _ b hb => by simp at hb, fun i b hb => by simp at hb, hs.fz, hs.tab⟩
  obtain ⟨own1, Bl, s1, l1, n1, n2, R1, E1, O1, D1⟩ := sink_sound z s0 hr hk
  have hB0 : ∀ (k : Nat) (B : List Nat), Bl[k]? = some B → B = [] := by
    intro k B hB
    rcases B with _ | ⟨b, B⟩
    · rfl
    · obtain ⟨id, hid⟩ := O1 b (List.mem_flatten.2 ⟨_, List.mem_of_getElem? hB, by simp⟩)
      simp at hid
  obtain ⟨i, hi, hie⟩ := szT_info hsz
  have hiz : i.zero = some v := by
    simp only [zeroValue, typeInfo, Sem.run_bind, run_program, Result.andThen_ok, hi, Sem.run_pure] at hv
    cases hq : i.zero with
    | none => rw [hq] at hv; simp [unsupported] at hv
    | some v' => rw [hq] at hv; simp at hv; rw [hv]
  have hvs : v.cells.size = szT P e := by rw [← hzl, n2]; simp
  have hbi : i.bytes = bytesT P e := by simp [bytesT, Program.bytesOf, hi]
  have hlt : l.toNat * szT P e = (madeCells v.cells (l.toNat * szT P e)).size := by rw [size_madeCells]
  have hcell : ∀ i' j, i' < l.toNat → j < szT P e → (madeCells v.cells (l.toNat * szT P e))[i' * szT P e + j]? = v.cells[j]? := by
    intro i' j hi' hj
    have hlt' : i' * szT P e + j < l.toNat * szT P e := by
      have : (i' + 1) * szT P e ≤ l.toNat * szT P e := Nat.mul_le_mul_right _ hi'
      rw [Nat.succ_mul] at this; omega
    have hmod : (i' * szT P e + j) % v.cells.size = j := by
      rw [hvs, Nat.add_comm, Nat.add_mul_mod_self_right, Nat.mod_eq_of_lt hj]
    unfold madeCells
    rw [Array.getElem?_map, Array.getElem?_range, if_pos hlt']
    simp only [Option.map_some, hmod]
    rw [getElem!_pos _ _ (by omega), Array.getElem?_eq_getElem (by omega)]
  have hrep : ∀ i' j x, at2 (List.replicate l.toNat zs) i' j = some x → i' < l.toNat ∧ j < szT P e ∧ zs[j]? = some x := by
    intro i' j x hx
    unfold at2 at hx
    rw [List.getElem?_replicate] at hx
    by_cases hq : i' < l.toNat
    · rw [if_pos hq] at hx
      simp only [Option.bind_some] at hx
      exact ⟨hq, by rw [← hzl]; exact (List.getElem?_eq_some_iff.1 hx).1, hx⟩
    · rw [if_neg hq] at hx; simp at hx
  obtain ⟨k1, k2⟩ := hs.alloc (.cells (madeCells v.cells (l.toNat * szT P e)) e)
  have hln : l.toNat ≤ 9223372036854775807 := by omega
  have k3 := k1.setArr (s := s) (g := w.heap.size) (c := l.toNat) hown (.inl hn) (Z := []) k2 (by simp) (e := e) (own := true) (es := List.replicate l.toNat zs) (cur := madeCells v.cells (l.toNat * szT P e))
    (vs := fun _ j => v.cells.toList.getD j undef) (Bs := fun _ _ => [])
    (by simp) (by simp only [maxLen]; omega) (fun e' he' => by rw [(List.mem_replicate.1 he').2]; exact hzl) alloc_new hlt.symm
    (by
      intro i' j x hx
      obtain ⟨q1, q2, q3⟩ := hrep i' j x hx
      have hj : j < v.cells.toList.length := by simp; omega
      have hu : v.cells.toList[j]? = some (v.cells.toList.getD j undef) := by
        rw [List.getElem?_eq_getElem hj, List.getD_eq_getElem?_getD, List.getElem?_eq_getElem hj]; rfl
      have hB : Bl[j]? = some (Bl.getD j []) := by
        rw [List.getElem?_eq_getElem (by omega), List.getD_eq_getElem?_getD, List.getElem?_eq_getElem (by omega)]; rfl
      obtain ⟨r1, r2⟩ := R1 _ _ _ _ q3 hu hB
      rw [hB0 _ _ hB] at r2
      have hX : RepX P (w.alloc (.cells (madeCells v.cells (l.toNat * szT P e)) e)) [] (v.cells.toList.getD j undef) x := (r2 rfl).mono (by simp)
      exact ⟨by rw [hcell i' j q1 q2, ← hu]; simp, hX.rep (by simp), fun _ => ⟨hX, by simp⟩⟩)
    (by intro _ _ _ _ _ _ _ _ _ _ b hb; simp at hb)
  refine ⟨.slice (some ⟨w.heap.size, 0, none⟩) l.toNat l.toNat, _, _, ?_, k3, ?_, ?_, fun k hk => ?_⟩
  · rw [run_make (P := P) w ty e i v (elT_und he) hi hiz .i64 .i64 l l hl0 (Int.le_refl _) (by rw [hbi, Int.mul_comm]; omega) hl63, hie]
  · simp only [RepA, arrMu_m, upd_same]
    exact ⟨Nat.le_refl _, trivial⟩
  · refine ⟨rfl, rfl, rfl, by rw [alloc_size]; omega, fun b hb _ => alloc_old hb, fun b hb => hb, fun b hb => .inl hb, fun k b hb => ?_⟩
    rcases arrMu_own _ _ _ _ _ k b hb with q | rfl | q
    · exact .inl ⟨k, q⟩
    · exact .inr (Nat.le_refl _)
    · simp at q
  · rw [arrMu_m]; exact upd_ne _ _ hk

/-! ### append -/
theorem rep_one {F : Nat → Prop} {v : Value} {x : D} (h : Rep w F v x) : v.oneCell' = true := by cases h <;> rfl

/-- A slice taken apart: its cells, what each reads as and leads to. -/
theorem row_of {F : Nat → Prop} {B : List Nat} {u : Value} {ys : List (List D)} {own : Bool} {sz : Nat} (h1 : Rep w (fun b => F b ∨ b ∈ B) u (.sl ys)) (h2 : own = true → RepX P w B u (.sl ys)) (hsz : ∀ e ∈ ys, e.length = sz) :
    ∃ (a : Option Addr) (c : Nat) (vs : Nat → Nat → Value) (Bs : Nat → Nat → List Nat), u = .slice a ys.length c ∧
      (∀ i j x, at2 ys i j = some x → ∃ ad, a = some ad ∧ w.cell? (ad.add (i * sz + j)) = some (vs i j) ∧ Rep w (fun b => F b ∨ b ∈ B) (vs i j) x ∧ (own = true → RepX P w (Bs i j) (vs i j) x ∧ ∀ b ∈ Bs i j, b ∈ B)) ∧
      (own = true → ∀ i j x i' j' x', at2 ys i j = some x → at2 ys i' j' = some x' → i ≠ i' ∨ j ≠ j' → ∀ b' ∈ Bs i j, b' ∉ Bs i' j') := by
  cases own with
  | false =>
    obtain ⟨a, c, sz', vs, rfl, hc, hsz', ha, hr⟩ := rep_sl h1
    refine ⟨a, c, vs, fun _ _ => [], rfl, fun i j x hx => ?_, by simp⟩
    obtain ⟨ad, e, _, hcell⟩ := ha i j x hx
    have hq : sz' = sz := by
      have h3 := at2_lt hx hsz
      rw [← hsz' _ (List.getElem_mem h3.1), hsz _ (List.getElem_mem h3.1)]
    exact ⟨ad, e, by rw [← hq]; exact hcell, hr i j x hx, by simp⟩
  | true =>
    have hX := h2 rfl
    generalize hd : D.sl ys = d at hX
    cases hX with
    | int => cases hd
    | bool => cases hd
    | str => cases hd
    | np => cases hd
    | nil a c =>
      injection hd with hd
      subst hd
      exact ⟨a, c, fun _ _ => undef, fun _ _ => [], rfl, by simp [at2], by simp⟩
    | sl b c sz' es cs t vs Bs hb hc hsz' hcs ha hr _ hB hsub hdis =>
      injection hd with hd
      subst hd
      refine ⟨some ⟨b, 0, none⟩, c, vs, Bs, rfl, fun i j x hx => ⟨_, rfl, ?_, (hr i j x hx).rep fun b' hb' => .inr (hsub i j x hx b' hb').1, fun _ => ⟨hr i j x hx, fun b' hb' => (hsub i j x hx b' hb').1⟩⟩, fun _ => hdis⟩
      have hq : sz' = sz := by
        have h3 := at2_lt hx hsz
        rw [← hsz' _ (List.getElem_mem h3.1), hsz _ (List.getElem_mem h3.1)]
      rw [add0, cell_block hb, ← hq]
      exact ha i j x hx

/-- Where append begins. -/
theorem base_sound (hs : Sim P w M t h tm) {e : TypeId} {x : A} {v : Value} {es : List (List D)} {own : Bool} {h1 : Heap} (hk : baseA h e x = some (es, own, h1)) (hx : RepA w M x v) :
    ∃ (own1 : Nat → List Nat) (O : List Nat), Sim P w ⟨M.m, own1, M.F⟩ t h1 tm ∧ Limbo w ⟨M.m, own1, M.F⟩ O ∧ (∀ b ∈ O, ∃ id, b ∈ M.own id) ∧ (∀ id, (own1 id = M.own id ∧ h1 id = h id) ∨ (own1 id = [] ∧ h1 id = .dead)) ∧
      ((es = [] ∧ v = .slice none 0 0) ∨ ∃ (g c : Nat) (cur : Array Value) (vs : Nat → Nat → Value) (Bs : Nat → Nat → List Nat), v = .slice (some ⟨g, 0, none⟩) es.length c ∧ g ∈ O ∧ es.length ≤ c ∧ c ≤ maxLen ∧ (∀ e' ∈ es, e'.length = szT P e) ∧ w.heap[g]? = some (.cells cur e (0, 0)) ∧ cur.size = c * szT P e ∧
        Parts P own w M.F g O es cur (szT P e) vs Bs) := by
  unfold baseA at hk
  split at hk
  · simp only [Option.some.injEq, Prod.mk.injEq] at hk
    obtain ⟨rfl, rfl, rfl⟩ := hk
    simp only [RepA] at hx
    exact ⟨M.own, [], hs, by simp [Limbo], by simp, fun id => .inl ⟨rfl, rfl⟩, .inl ⟨rfl, hx⟩⟩
  · rename_i id n
    split at hk
    · rename_i e' own' es' hi
      split at hk
      · rename_i hn
        obtain ⟨hn, rfl⟩ := hn
        simp only [Option.some.injEq, Prod.mk.injEq] at hk
        obtain ⟨rfl, rfl, rfl⟩ := hk
        obtain ⟨k1, k2⟩ := hs.kill id .dead (by simp [SimO, upd_same]) (by simp)
        have D1 : ∀ i, (upd M.own id [] i = M.own i ∧ upd h id .dead i = h i) ∨ (upd M.own id [] i = [] ∧ upd h id .dead i = .dead) := by
          intro i
          by_cases hid : i = id
          · subst hid; exact .inr ⟨upd_same _ _ _, upd_same _ _ _⟩
          · exact .inl ⟨upd_ne _ _ hid, upd_ne _ _ hid⟩
        refine ⟨_, M.own id, k1, k2, fun b hb => ⟨id, hb⟩, D1, ?_⟩
        have ho := hs.ob id
        rw [hi] at ho
        simp only [SimO, SimArr] at ho
        simp only [RepA] at hx
        cases hm : M.m id with
        | none =>
          rw [hm] at ho hx
          obtain ⟨rfl, _⟩ := ho
          exact .inl ⟨by simp, hx.2⟩
        | some bc =>
          obtain ⟨g, c⟩ := bc
          rw [hm] at ho hx
          obtain ⟨hnc, rfl⟩ := hx
          obtain ⟨cur, vs, Bs, q1, q2, q3, q4, q5, q6, q7, q8⟩ := ho
          have hlen : (es'.take n).length = n := by simp; omega
          refine .inr ⟨g, c, cur, vs, Bs, by rw [hlen], q6, by omega, q2, fun e'' he'' => q3 e'' (List.mem_of_mem_take he''), q4, q5, fun i j x hx => q7 i j x (at2_take hx).2, fun i j x i' j' x' hx hx' => q8 i j x i' j' x' (at2_take hx).2 (at2_take hx').2⟩
      · cases hk
    · cases hk
  · cases hk

/-- What append takes. -/
theorem more_sound (hs : Sim P w M t h tm) {y : A} {u : Value} {ys : List (List D)} {own : Bool} {h1 : Heap} (hk : moreA h y = some (ys, own, h1)) (hy : RepA w M y u) :
    ∃ (own1 : Nat → List Nat) (B : List Nat), Sim P w ⟨M.m, own1, M.F⟩ t h1 tm ∧ Limbo w ⟨M.m, own1, M.F⟩ B ∧ (∀ b ∈ B, ∃ id, b ∈ M.own id) ∧ (∀ id, (own1 id = M.own id ∧ h1 id = h id) ∨ (own1 id = [] ∧ h1 id = .dead)) ∧
      Rep w (fun b => M.F b ∨ b ∈ B) u (.sl ys) ∧ (own = true → RepX P w B u (.sl ys)) := by
  unfold moreA at hk
  split at hk
  · simp only [Option.some.injEq, Prod.mk.injEq] at hk
    obtain ⟨rfl, rfl, rfl⟩ := hk
    simp only [RepA] at hy
    subst hy
    have hX : RepX P w [] (.slice none 0 0) (.sl []) := .nil none 0
    exact ⟨M.own, [], hs, by simp [Limbo], by simp, fun id => .inl ⟨rfl, rfl⟩, hX.rep (by simp), fun _ => hX⟩
  · simp only [Option.some.injEq, Prod.mk.injEq] at hk
    obtain ⟨rfl, rfl, rfl⟩ := hk
    simp only [RepA] at hy
    exact ⟨M.own, [], hs, by simp [Limbo], by simp, fun id => .inl ⟨rfl, rfl⟩, hy.mono fun b hb => ⟨.inl hb, rfl⟩, by simp⟩
  · rename_i id n
    split at hk
    · rename_i e' own' es' hi
      split at hk
      · rename_i hn
        simp only [Option.some.injEq, Prod.mk.injEq] at hk
        obtain ⟨rfl, rfl, rfl⟩ := hk
        obtain ⟨B, hB, hR, hX⟩ := arr_out hs hi hn hy
        obtain ⟨k1, k2⟩ := hs.kill id .dead (by simp [SimO, upd_same]) (by simp)
        refine ⟨_, B, k1, k2.sub hB, fun b hb => ⟨id, hB b hb⟩, fun i => ?_, hR, hX⟩
        by_cases hid : i = id
        · subst hid; exact .inr ⟨upd_same _ _ _, upd_same _ _ _⟩
        · exact .inl ⟨upd_ne _ _ hid, upd_ne _ _ hid⟩
      · cases hk
    · rename_i es' hi
      split at hk
      · rename_i hn
        simp only [Option.some.injEq, Prod.mk.injEq] at hk
        obtain ⟨rfl, rfl, rfl⟩ := hk
        exact ⟨M.own, [], hs, by simp [Limbo], by simp, fun id => .inl ⟨rfl, rfl⟩, (frz_out hs hi hn hy).mono fun b hb => ⟨.inl hb, rfl⟩, by simp⟩
      · cases hk
    · cases hk
  · cases hk

theorem append_none (base : Nat) (ty u e : TypeId) (i : TypeInfo) (size : Nat) (he : P.underlying ty = some (.slice e)) (hi : P.info? e = some i) (v : Value) (n : Nat) (xs : List Value) (hown : w.ownsRow base e size v n xs) (c : Nat) :
    (Builtin.append_ #[ty, ty] u #[v, .slice none 0 c]).run P w = .ok v w := by
  rcases hown.2 with ⟨rfl, rfl⟩ | ⟨g, cap, cur, rfl, _, _, hnc, _⟩
  · simp [Builtin.append_, run_underlying he, sizeOf, typeInfo, hi, Builtin.lenOf, Builtin.firstCells]
  · simp [Builtin.append_, run_underlying he, sizeOf, typeInfo, hi, Builtin.lenOf, Builtin.firstCells, hnc, storeCells]
end
end Go.AX

namespace Go.AX
section
variable {P : Program} {w w' : World} {M : Mu} {t : Nat → A} {h : Heap} {tm : Array Value}

theorem at2_append {xs ys : List (List D)} {i j : Nat} {x : D} (hq : at2 (xs ++ ys) i j = some x) : (i < xs.length ∧ at2 xs i j = some x) ∨ (xs.length ≤ i ∧ at2 ys (i - xs.length) j = some x) := by
  unfold at2 at *
  rw [List.getElem?_append] at hq
  split at hq
  · rename_i hlt; exact .inl ⟨hlt, hq⟩
  · rename_i hge; exact .inr ⟨by omega, hq⟩

theorem append_sound (hs : Sim P w M t h tm) {s : Nat} (hown : M.own s = []) (hn : NoRef s t h) {e ty ut : TypeId} {x y : A} {v u : Value} {es ys : List (List D)} {o1 o2 : Bool} {h1 h2 : Heap} {z : List A}
    (hx : RepA w M x v) (hy : RepA w M y u) (hb : baseA h e x = some (es, o1, h1)) (hm : moreA h1 y = some (ys, o2, h2)) (he : elT P ty = some e) (hz : zeroT P e = some z) (hzl : z.length = szT P e) (hsz : szT P e ≠ 0)
    (hbytes : (es.length + ys.length) * bytesT P e ≤ 140737488355328) (h63 : es.length + ys.length ≤ 9223372036854775807) (hyl : ∀ cs ∈ ys, cs.length = szT P e) :
    ∃ v' w' M', (Builtin.append_ #[ty, ty] ut #[v, u]).run P w = .ok v' w' ∧ Sim P w' M' t (upd h2 s (.arr e (o1 && o2) (es ++ ys))) tm ∧ RepA w' M' (.os s (es.length + ys.length)) v' ∧ Step w M w' M' ∧ ∀ k, k ≠ s → M'.m k = M.m k := by
  obtain ⟨own1, O, s1, l1, OO, D1, hbase⟩ := base_sound hs hb hx
  have hy1 : RepA w ⟨M.m, own1, M.F⟩ y u := RepA.mono (M := M) (M' := ⟨M.m, own1, M.F⟩) (fun b hb => ⟨hb, rfl⟩) hy fun _ _ => rfl
  obtain ⟨own2, B, s2, l2, OB, D2, hR, hX⟩ := more_sound s1 hm hy1
  obtain ⟨a, c, vsy, Bsy, rfl, ry, dy⟩ := row_of hR hX hyl
  obtain ⟨i, hi, hie⟩ := szT_info hsz
  obtain ⟨zv, hzv, hzr⟩ := zeroT_run (P := P) (w := w) (M := M) hz
  have hiz : i.zero = some zv := by
    simp only [zeroValue, typeInfo, Sem.run_bind, run_program, Result.andThen_ok, hi, Sem.run_pure] at hzv
    cases hq : i.zero with
    | none => rw [hq] at hzv; simp [unsupported] at hzv
    | some v' => rw [hq] at hzv; simp at hzv; rw [hzv]
  have hzs : zv.cells.size = szT P e := by have := hzr.length; simp at this; omega
  have hbi : i.bytes = bytesT P e := by simp [bytesT, Program.bytesOf, hi]
  have hpos : 0 < szT P e := by omega
  -- the row that append starts from
  have hB : ∃ (xs : List Value) (vs : Nat → Nat → Value) (Bs : Nat → Nat → List Nat), w.ownsRow 0 e (szT P e) v es.length xs ∧ (∀ g, v.ownBlock = some g → g ∈ O) ∧ (∀ e' ∈ es, e'.length = szT P e) ∧
      (∀ i j x, at2 es i j = some x → xs[i * szT P e + j]? = some (vs i j) ∧ RepB P o1 w M.F (Bs i j) (vs i j) x ∧ ∀ b' ∈ Bs i j, b' ∈ O ∧ some b' ≠ v.ownBlock) ∧
      (∀ i j x i' j' x', at2 es i j = some x → at2 es i' j' = some x' → i ≠ i' ∨ j ≠ j' → ∀ b' ∈ Bs i j, b' ∉ Bs i' j') := by
    rcases hbase with ⟨rfl, rfl⟩ | ⟨g, cp, cur, vs, Bs, rfl, q0, q1, q2, q3, q4, q5, q6, q7⟩
    · exact ⟨[], fun _ _ => undef, fun _ _ => [], World.ownsRow_nil w 0 e _, by simp [Value.ownBlock], by simp, by simp [at2], by simp⟩
    · refine ⟨cur.toList.take (es.length * szT P e), vs, Bs, ⟨?_, .inr ⟨g, cp, cur, rfl, Nat.zero_le _, q4, q1, q2, q5, rfl⟩⟩, ?_, q3, fun i j x hx => ?_, q7⟩
      · rw [List.length_take]
        have := Nat.mul_le_mul_right (szT P e) q1
        simp; omega
      · intro g' hg'
        simp [Value.ownBlock] at hg'
        rw [← hg']; exact q0
      · obtain ⟨r1, r2, r3⟩ := q6 i j x hx
        have hlt := at2_lt hx q3
        have : i * szT P e + j < es.length * szT P e := by
          have : (i + 1) * szT P e ≤ es.length * szT P e := Nat.mul_le_mul_right _ hlt.1
          rw [Nat.succ_mul] at this; omega
        refine ⟨by rw [List.getElem?_take_of_lt this]; simpa using r1, r2, fun b' hb' => ⟨(r3 b' hb').1, ?_⟩⟩
        simp only [Value.ownBlock]
        intro hq
        injection hq with hq
        exact (r3 b' hb').2 hq
  obtain ⟨xs, vs, Bs, hrow, hOg, hel, rb, db⟩ := hB
  -- what is appended
  let news : List Value := (List.range (ys.length * szT P e)).map fun k => vsy (k / szT P e) (k % szT P e)
  have newsAt : ∀ (i' j' : Nat), i' < ys.length → j' < szT P e → news[i' * szT P e + j']? = some (vsy i' j') := by
    intro i' j' hi' hj'
    have hlt : i' * szT P e + j' < ys.length * szT P e := by
      have : (i' + 1) * szT P e ≤ ys.length * szT P e := Nat.mul_le_mul_right _ hi'
      rw [Nat.succ_mul] at this; omega
    simp only [news, List.getElem?_map, List.getElem?_range hlt, Option.map_some]
    have e1 : (i' * szT P e + j') / szT P e = i' := by
      rw [Nat.mul_comm, Nat.mul_add_div hpos, Nat.div_eq_of_lt hj']; omega
    have e2 : (i' * szT P e + j') % szT P e = j' := by
      rw [Nat.mul_comm, Nat.mul_add_mod, Nat.mod_eq_of_lt hj']
    rw [e1, e2]
  have newsIdx : ∀ (k : Nat) (u : Value), news[k]? = some u → ∃ i' j' x, at2 ys i' j' = some x ∧ u = vsy i' j' ∧ k = i' * szT P e + j' := by
    intro k u hu
    have hk : k < ys.length * szT P e := by
      have := (List.getElem?_eq_some_iff.1 hu).1
      simpa [news] using this
    simp only [news, List.getElem?_map, List.getElem?_range hk, Option.map_some, Option.some.injEq] at hu
    have h1 : k / szT P e < ys.length := by rw [Nat.div_lt_iff_lt_mul hpos]; exact hk
    obtain ⟨x, hx⟩ := at2_some h1 (Nat.mod_lt k hpos) hyl
    exact ⟨_, _, x, hx, hu.symm, by rw [Nat.mul_comm]; exact (Nat.div_add_mod k _).symm⟩
  have happ : ∃ v' w', (Builtin.append_ #[ty, ty] ut #[v, .slice a ys.length c]).run P w = .ok v' w' ∧ w'.ownsRow 0 e (szT P e) v' (es.length + ys.length) (xs ++ news) ∧ w.grownBy w' v.ownBlock ∧ (v'.ownBlock = v.ownBlock ∨ v'.ownBlock = some w.heap.size) := by
    cases a with
    | none =>
      have hy0 : ys = [] := by
        rcases ys with _ | ⟨y0, ys⟩
        · rfl
        · obtain ⟨x, hx⟩ := at2_some (es := y0 :: ys) (i := 0) (j := 0) (by simp) hpos hyl
          obtain ⟨_, q, _⟩ := ry 0 0 x hx
          cases q
      subst hy0
      refine ⟨v, w, append_none 0 ty ut e i (szT P e) (elT_und he) hi v _ xs hrow c, by simpa [news] using hrow, ⟨rfl, rfl, rfl, Nat.le_refl _, fun _ _ _ => rfl⟩, .inl rfl⟩
    | some ad =>
      obtain ⟨v', w', q1, q2, q3, _, q5⟩ := run_append_own_at (P := P) w 0 ty ut e i zv (szT P e) (bytesT P e) (elT_und he) hi hiz hie hbi hzs hpos v es.length xs hrow ad ys.length c news (by simp [news])
        (fun k u hu => by
          obtain ⟨i', j', x, hx, rfl, rfl⟩ := newsIdx k u hu
          obtain ⟨ad', q, hc, _⟩ := ry i' j' x hx
          injection q with q; subst q
          exact hc)
        (fun u hu => by
          obtain ⟨k, hk⟩ := List.mem_iff_getElem?.1 hu
          obtain ⟨i', j', x, hx, rfl, rfl⟩ := newsIdx k u hk
          obtain ⟨_, _, _, q, _⟩ := ry i' j' x hx
          exact rep_one q)
        (by simp only [maxLen]; omega) hbytes (Nat.zero_le _)
      exact ⟨v', w', q1, q2, q3, q5⟩
  obtain ⟨v', w', hrun, hrow', hg, hblk⟩ := happ
  -- blocks
  have own2sub : ∀ id b, b ∈ own2 id → b ∈ own1 id := fun id b hb => own_of_D (M := ⟨M.m, own1, M.F⟩) D2 hb
  have O_lt : ∀ b ∈ O, b < w.heap.size ∧ ¬ M.F b ∧ ∀ id, b ∉ own1 id := l1
  have B_lt : ∀ b ∈ B, b < w.heap.size ∧ ¬ M.F b ∧ ∀ id, b ∉ own2 id := l2
  have BO : ∀ b ∈ B, b ∉ O := by
    intro b hb hbO
    obtain ⟨id, hid⟩ := OB b hb
    exact (O_lt b hbO).2.2 id hid
  have same : ∀ b, b < w.heap.size → some b ≠ v.ownBlock → w'.heap[b]? = w.heap[b]? := fun b hb hne => hg.block b hb hne
  have notO : ∀ b, b ∉ O → some b ≠ v.ownBlock := fun b hb e => hb (hOg b e.symm)
  have sameF : ∀ b, M.F b → w'.heap[b]? = w.heap[b]? := fun b hb => same b (hs.fz b hb) (notO b fun hO => (O_lt b hO).2.1 hb)
  have sameB : ∀ b ∈ B, w'.heap[b]? = w.heap[b]? := fun b hb => same b (B_lt b hb).1 (notO b (BO b hb))
  have s3 : Sim P w' ⟨M.m, own2, M.F⟩ t h2 tm := s2.world sameF (fun id b hb => same b (s2.nf id b hb).2 (notO b fun hO => (O_lt b hO).2.2 id (own2sub id b hb))) hg.size
  have hown2 : own2 s = [] := own_nil_of_D (M := ⟨M.m, own1, M.F⟩) (own_nil_of_D hown D1) D2
  have hn2 : NoRef s t h2 := NoRef.of_D (M := ⟨M.m, own1, M.F⟩) (hn.of_D D1) D2
  have inM : ∀ b, b ∈ O ∨ b ∈ B → ∃ id, b ∈ M.own id := by
    intro b hb
    rcases hb with hb | hb
    · exact OO b hb
    · obtain ⟨id, hid⟩ := OB b hb
      exact ⟨id, own_of_D D1 hid⟩
  rcases hrow'.2 with ⟨rfl, hnm⟩ | ⟨g', cap', cur', rfl, _, hg', hnc, hcm, hcs, htake⟩
  · have hes : es = [] := List.eq_nil_of_length_eq_zero (by omega)
    have hys : ys = [] := List.eq_nil_of_length_eq_zero (by omega)
    subst hes; subst hys
    refine ⟨_, w', ⟨upd M.m s none, upd own2 s [], M.F⟩, hrun, s3.setO (L := []) hown2 (.inl hn2) (by simp [Limbo]) ?_, ?_, ⟨hg.os, hg.tape, hg.output, hg.size, fun b hb hne => same b hb (notO b fun hO => ?_), fun b hb => hb, fun b hb => .inl hb, fun id b hb => .inl ?_⟩, fun k hk => upd_ne _ _ hk⟩
    · simp [SimO, SimArr, upd_same]
    · simp [RepA, upd_same]
    · obtain ⟨id, hid⟩ := OO b hO
      exact hne id hid
    · simp only at hb
      by_cases hi : id = s
      · subst hi; rw [upd_same] at hb; cases hb
      · rw [upd_ne _ _ hi] at hb; exact ⟨id, own_of_D D1 (own2sub id b hb)⟩
  · have hgblk : v.ownBlock = some g' ∨ g' = w.heap.size := by
      rcases hblk with q | q
      · left; rw [← q]; rfl
      · right; simpa [Value.ownBlock] using q
    let Z := O.filter (fun b => b != g') ++ B
    have hgB : g' ∉ B := by
      intro hq
      rcases hgblk with q | q
      · exact BO g' hq (hOg g' q)
      · have := (B_lt g' hq).1; omega
    have hgZ : g' ∉ Z := by
      intro hq
      rcases List.mem_append.1 hq with hq | hq
      · simp at hq
      · exact hgB hq
    have hlim : Limbo w' ⟨M.m, own2, M.F⟩ (g' :: Z) := by
      intro b hb
      rcases List.mem_cons.1 hb with rfl | hb
      · rcases hgblk with q | q
        · have := O_lt b (hOg b q)
          exact ⟨Nat.lt_of_lt_of_le this.1 hg.size, this.2.1, fun id hid => this.2.2 id (own2sub id b hid)⟩
        · exact ⟨(Array.getElem?_eq_some_iff.1 hg').1, fun hF => by have := hs.fz b hF; omega, fun id hid => by have := (s2.nf id b hid).2; omega⟩
      · rcases List.mem_append.1 hb with hb | hb
        · have := O_lt b (List.mem_filter.1 hb).1
          exact ⟨Nat.lt_of_lt_of_le this.1 hg.size, this.2.1, fun id hid => this.2.2 id (own2sub id b hid)⟩
        · have := B_lt b hb
          exact ⟨Nat.lt_of_lt_of_le this.1 hg.size, this.2⟩
    have memO : ∀ b ∈ O, some b ≠ v.ownBlock → b ∈ Z := by
      intro b hb hne
      refine List.mem_append.2 (.inl ?_)
      have : b ≠ g' := by
        intro e
        rcases hgblk with q | q
        · exact hne (by rw [q, e])
        · have := (O_lt b hb).1; omega
      simp [hb, this]
    have memB : ∀ b ∈ B, b ∈ Z := fun b hb => List.mem_append.2 (.inr hb)
    have hxl : xs.length = es.length * szT P e := hrow.1
    have curAt : ∀ (k : Nat) (u : Value), (xs ++ news)[k]? = some u → cur'[k]? = some u := by
      intro k u hu
      rw [← htake] at hu
      have hk : k < (es.length + ys.length) * szT P e := by
        rcases Nat.lt_or_ge k ((es.length + ys.length) * szT P e) with q | q
        · exact q
        · rw [List.getElem?_take_eq_none q] at hu; cases hu
      rw [List.getElem?_take_of_lt hk] at hu
      simpa using hu
    have k5 := s3.setArr (s := s) (g := g') (c := cap') hown2 (.inl hn2) hlim hgZ (e := e) (own := o1 && o2) (es := es ++ ys) (cur := cur')
      (vs := fun i j => if i < es.length then vs i j else vsy (i - es.length) j) (Bs := fun i j => if i < es.length then Bs i j else Bsy (i - es.length) j)
      (by simpa using hnc) hcm (fun e' he' => by
        rcases List.mem_append.1 he' with q | q
        · exact hel e' q
        · exact hyl e' q) hg' hcs
      (by
        intro i' j' x hx
        rcases at2_append hx with ⟨hlt, hx⟩ | ⟨hge, hx⟩
        · obtain ⟨q1, q2, q3⟩ := rb i' j' x hx
          simp only [hlt, if_true]
          refine ⟨curAt _ _ (by rw [List.getElem?_append_left (List.getElem?_eq_some_iff.1 q1).1]; exact q1), ?_, fun hq => ?_⟩
          · cases o1 with
            | true => exact (RepX.rep q2 (F := fun b => b ∈ Bs i' j') fun b hb => hb).mono fun b hb => ⟨.inr (memO b (q3 b hb).1 (q3 b hb).2), same b (O_lt b (q3 b hb).1).1 (q3 b hb).2⟩
            | false => exact q2.2.mono fun b hb => ⟨.inl hb, sameF b hb⟩
          · cases o1 with
            | true => exact ⟨RepX.mono q2 fun b hb => same b (O_lt b (q3 b hb).1).1 (q3 b hb).2, fun b hb => memO b (q3 b hb).1 (q3 b hb).2⟩
            | false => cases hq
        · have hnl : ¬ i' < es.length := by omega
          obtain ⟨ad, _, _, q2, q3⟩ := ry _ j' x hx
          have hyb := at2_lt hx hyl
          simp only [hnl, if_false]
          refine ⟨curAt _ _ ?_, q2.mono fun b hb => ?_, fun hq => ?_⟩
          · have e1 : i' * szT P e = es.length * szT P e + (i' - es.length) * szT P e := by rw [← Nat.add_mul]; congr 1; omega
            rw [List.getElem?_append_right (by rw [hxl, e1]; omega), hxl]
            have e2 : i' * szT P e + j' - es.length * szT P e = (i' - es.length) * szT P e + j' := by omega
            rw [e2]
            exact newsAt _ _ hyb.1 hyb.2
          · rcases hb with hb | hb
            · exact ⟨.inl hb, sameF b hb⟩
            · exact ⟨.inr (memB b hb), sameB b hb⟩
          · have ho2 : o2 = true := by revert hq; cases o1 <;> simp
            obtain ⟨r1, r2⟩ := q3 ho2
            exact ⟨RepX.mono r1 fun b hb => sameB b (r2 b hb), fun b hb => memB b (r2 b hb)⟩)
      (by
        intro hq i1 j1 x1 i2 j2 x2 hx1 hx2 hne b hb1 hb2
        have ho2 : o2 = true := by revert hq; cases o1 <;> simp
        rcases at2_append hx1 with ⟨p1, hx1⟩ | ⟨p1, hx1⟩ <;> rcases at2_append hx2 with ⟨p2, hx2⟩ | ⟨p2, hx2⟩
        · simp only [p1, p2, if_true] at hb1 hb2
          exact db i1 j1 x1 i2 j2 x2 hx1 hx2 hne b hb1 hb2
        · simp only [p1, if_true, if_neg (show ¬ i2 < es.length by omega)] at hb1 hb2
          exact BO b ((ry _ _ _ hx2).choose_spec.2.2.2 ho2 |>.2 b hb2) ((rb _ _ _ hx1).2.2 b hb1).1
        · simp only [p2, if_true, if_neg (show ¬ i1 < es.length by omega)] at hb1 hb2
          exact BO b ((ry _ _ _ hx1).choose_spec.2.2.2 ho2 |>.2 b hb1) ((rb _ _ _ hx2).2.2 b hb2).1
        · simp only [if_neg (show ¬ i1 < es.length by omega), if_neg (show ¬ i2 < es.length by omega)] at hb1 hb2
          exact dy ho2 _ _ _ _ _ _ hx1 hx2 (by omega) b hb1 hb2)
    have Zin : ∀ b ∈ Z, b ∈ O ∨ b ∈ B := by
      intro b hb
      rcases List.mem_append.1 hb with hb | hb
      · exact .inl (List.mem_filter.1 hb).1
      · exact .inr hb
    refine ⟨_, w', _, hrun, k5, ?_, ⟨hg.os, hg.tape, hg.output, hg.size, fun b hb hne => same b hb (notO b fun hO => ?_), fun b hb => arrMu_F1 (M := ⟨M.m, own2, M.F⟩) _ _ _ _ _ b hb, fun b hb => ?_, fun k b hb => ?_⟩, fun k hk => ?_⟩
    · simp only [RepA, arrMu_m, upd_same]
      exact ⟨hnc, trivial⟩
    · obtain ⟨id, hid⟩ := OO b hO
      exact hne id hid
    · rcases arrMu_F2 _ _ _ _ _ b hb with q | q
      · exact .inl q
      · exact .inr (.inl (inM b (Zin b q)))
    · rcases arrMu_own _ _ _ _ _ k b hb with q | rfl | q
      · exact .inl ⟨k, own_of_D D1 (own2sub k b q)⟩
      · rcases hgblk with q | q
        · exact .inl (inM b (.inl (hOg b q)))
        · exact .inr (by omega)
      · exact .inl (inM b (Zin b q))
    · rw [arrMu_m]; exact upd_ne _ _ hk

theorem strN_eq : ∀ {es : List (List D)} {l : List Int}, strN es = some l → es = l.map fun n => [D.int .u8 n]
  | [], l, h => by simp only [strN, Option.some.injEq] at h; subst h; rfl
  | [.int .u8 n] :: es, l, h => by
    simp only [strN] at h
    split at h
    · rename_i l' hl
      injection h with h
      subst h
      rw [strN_eq hl]; rfl
    · cases h
  | [] :: _, _, h => by simp [strN] at h
  | (_ :: _ :: _) :: _, _, h => by simp [strN] at h
  | [.bool _] :: _, _, h => by simp [strN] at h
  | [.str _] :: _, _, h => by simp [strN] at h
  | [.sl _] :: _, _, h => by simp [strN] at h
  | [.int .i8 _] :: _, _, h => by simp [strN] at h
  | [.int .i16 _] :: _, _, h => by simp [strN] at h
  | [.int .i32 _] :: _, _, h => by simp [strN] at h
  | [.int .i64 _] :: _, _, h => by simp [strN] at h
  | [.int .u16 _] :: _, _, h => by simp [strN] at h
  | [.int .u32 _] :: _, _, h => by simp [strN] at h
  | [.int .u64 _] :: _, _, h => by simp [strN] at h
theorem convS_sound (hs : Sim P w M t h tm) {id : Nat} {ty src dst e : TypeId} {own : Bool} {es : List (List D)} {b : ByteArray} {v : Value} (hi : h id = .arr ty own es) (hb : strD es = some b) (hd : P.underlying dst = some .string)
    (he : elT P src = some e) (hu : P.underlying e = some (.int .u8)) (hr : RepA w M (.os id es.length) v) : (convert src dst v).run P w = .ok (.string b) w := by
  have hsrc : P.underlying src = some (.slice e) := by
    unfold elT at he
    split at he
    · rename_i q; injection he with he; subst he; exact q
    · cases he
  unfold strD at hb
  cases hg : strN es with
  | none => rw [hg] at hb; cases hb
  | some l =>
    rw [hg] at hb
    simp only [Option.map_some, Option.some.injEq] at hb
    have hes := strN_eq hg
    have ho := hs.ob id
    rw [hi] at ho
    simp only [SimO, SimArr] at ho
    simp only [RepA] at hr
    cases hm : M.m id with
    | none =>
      rw [hm] at ho hr
      obtain ⟨rfl, _⟩ := ho
      obtain ⟨_, rfl⟩ := hr
      simp only [strN, Option.some.injEq] at hg
      subst hg
      rw [run_convert_bytes_string w src dst e none 0 0 hsrc hu hd, ← hb]
      simp [Conv.bytesToString, Sem.run_pure]
    | some bc =>
      obtain ⟨g, c⟩ := bc
      rw [hm] at ho hr
      obtain ⟨cs, vs, Bs, h1, h2, h3, h4, h5, h6, h7, h8⟩ := ho
      obtain ⟨_, rfl⟩ := hr
      rw [run_convert_bytes_string w src dst e _ _ _ hsrc hu hd, run_bytesToString w _ _ _ l ?_, hb]
      have hlen : es.length = (l.map (Value.int .u8)).length := by rw [hes]; simp
      rw [hlen]
      refine run_loadCells_list w _ _ fun j x hx => ?_
      simp only [List.getElem?_map, Option.map_eq_some_iff] at hx
      obtain ⟨n, hn, rfl⟩ := hx
      have hrow : es[j]? = some [D.int .u8 n] := by rw [hes]; simp [hn]
      have hsz : szT P ty = 1 := (h3 _ (List.mem_of_getElem? hrow)).symm
      obtain ⟨q1, q2, _⟩ := h7 j 0 (.int .u8 n) (by simp [at2, hrow])
      rw [hsz] at q1
      have hv : vs j 0 = .int .u8 n := by
        cases own with
        | true =>
          have q2 : RepX P w (Bs j 0) (vs j 0) (.int .u8 n) := q2
          exact rep_int (q2.rep (F := fun _ => True) fun _ _ => trivial)
        | false => exact rep_int q2.2
      rw [hv] at q1
      have hadd : (⟨g, 0, none⟩ : Addr).add j = ⟨g, j, none⟩ := by unfold Addr.add; split <;> simp_all
      rw [hadd]
      simp only [World.cell?, h4]
      simpa using q1

theorem mem_sound {a : Act} (hs : Sim P w M t h a.tmps) {ρ : Operand → A} (hr : ∀ x, RepA w M (ρ x) (a.eval x)) (o : Oper) {s : Nat} (hal : isAl o.op = true → M.own s = [] ∧ NoRef s t h ∧ ∀ x, s ∉ refsA (ρ x)) {r : A} {h' : Heap}
    (hk : memA P o.op s ρ h = some (r, h')) :
    ∃ nx z w' M', (execOp a.eval o).run P w = .ok nx w' ∧ (nx = .value z ∨ (nx = .skip ∧ z = undef)) ∧ Sim P w' M' t h' a.tmps ∧ RepA w' M' r z ∧ Step w M w' M' ∧ ∀ k, k ≠ s ∨ isAl o.op = false → M'.m k = M.m k := by
  unfold memA at hk
  unfold execOp
  split at hk
  · rename_i ty heq
    rw [heq] at hal
    obtain ⟨a1, a2, a3⟩ := hal rfl
    simp only [heq]
    split at hk
    · rename_i z hz
      simp only [Option.some.injEq, Prod.mk.injEq] at hk
      obtain ⟨rfl, rfl⟩ := hk
      obtain ⟨v, hv, hrv⟩ := zeroT_run (P := P) (w := w) (M := M) hz
      obtain ⟨M', q1, q2, q3, q4⟩ := new_box hs a1 a2 hrv (by rw [refs_zeroT hz]; simp) ty
      refine ⟨_, _, _, M', ?_, .inl rfl, by simpa using q1, by simpa using q2, by simpa using q3, fun k hk => by rw [q4]; exact upd_ne _ _ (hk.resolve_right (by simp [isAl]))⟩
      simp only [Sem.run_bind, alloc_run hv, Result.andThen_ok, Sem.run_pure]
    · cases hk
  · rename_i ty x heq
    rw [heq] at hal
    obtain ⟨a1, a2, a3⟩ := hal rfl
    simp only [heq]
    split at hk
    · rename_i l hl
      simp only [Option.some.injEq, Prod.mk.injEq] at hk
      obtain ⟨rfl, rfl⟩ := hk
      have hL := leafs_sound hl (hr x)
      have href : s ∉ refsL l := by
        have h3 := a3 x
        cases hρ : ρ x with
        | agg cs => rw [hρ] at hl h3; simp [leafs] at hl; subst hl; simpa [refsA] using h3
        | tup cs => rw [hρ] at hl; simp [leafs] at hl
        | junk => rw [hρ] at hl; simp [leafs] at hl
        | _ => rw [hρ] at hl h3; simp [leafs] at hl; subst hl; simpa [refsL] using h3
      obtain ⟨M', q1, q2, q3, q4⟩ := new_box hs a1 a2 hL href ty
      refine ⟨_, _, _, M', ?_, .inl rfl, by simpa using q1, by simpa using q2, by simpa using q3, fun k hk => by rw [q4]; exact upd_ne _ _ (hk.resolve_right (by simp [isAl]))⟩
      simp only [Sem.run_bind, box_run, Result.andThen_ok, Sem.run_pure]
    · cases hk
  · rename_i ty n ps heq
    rw [heq] at hal
    obtain ⟨a1, a2, a3⟩ := hal rfl
    simp only [heq]
    split at hk
    · rename_i e he
      split at hk
      · rename_i z es own h1 hz hlit
        split at hk
        · rename_i hq
          simp only [Option.some.injEq, Prod.mk.injEq] at hk
          obtain ⟨rfl, rfl⟩ := hk
          have hpl : (ps.toList.map fun x => (x.1, ρ x.2)).length = n := by
            unfold litA at hlit
            split at hlit
            · split at hlit
              · simp only [Option.some.injEq, Prod.mk.injEq] at hlit
                obtain ⟨rfl, _, _⟩ := hlit
                have := hq.1
                simpa [chunk] using this
              · cases hlit
            · cases hlit
          obtain ⟨v, w', M', q1, q2, q3, q4, q5⟩ := slice_lit hs a1 a2 (ps := ps.map fun (i, x) => (i, a.eval x)) (by
            have := repP_map (w := w) (M := M) (xs := ps.toList) hr
            simpa using this) hlit ⟨_, hz⟩ he hq.2.1 (by rw [hpl]; exact hq.2.2) hq.1
          refine ⟨_, v, w', M', ?_, .inl rfl, q2, q3, q4, fun k hk => q5 k (hk.resolve_right (by simp [isAl]))⟩
          simp only [Sem.run_bind, q1, Result.andThen_ok, Sem.run_pure]
        · cases hk
      · cases hk
    · cases hk
  · rename_i ty x heq
    simp only [heq]
    obtain ⟨rfl, z, q1, q2⟩ := load_sound hs (hr x) hk
    exact ⟨_, z, w, M, by simp only [Sem.run_bind, q1, Result.andThen_ok, Sem.run_pure], .inl rfl, hs, q2, Step.refl w M, fun _ _ => rfl⟩
  · rename_i ty x y heq
    simp only [heq]
    obtain ⟨rfl, w', M', q1, q2, q3, q4⟩ := store_sound hs (hr y) (hr x) hk
    refine ⟨.skip, undef, w', M', by simp only [Sem.run_bind, q1, Result.andThen_ok, Sem.run_pure], .inr ⟨rfl, rfl⟩, q2, by simp [RepA], q3, fun k _ => by rw [q4]⟩
  · rename_i ty l c heq
    rw [heq] at hal
    obtain ⟨a1, a2, a3⟩ := hal rfl
    simp only [heq]
    split at hk
    · rename_i e x y he hl hc
      split at hk
      · rename_i z hz
        split at hk
        · rename_i zs h0 hsk
          split at hk
          · rename_i hq
            obtain ⟨rfl, g1, g2, g3, g4, g5⟩ := hq
            simp only [Option.some.injEq, Prod.mk.injEq] at hk
            obtain ⟨rfl, rfl⟩ := hk
            have r1 := hr l
            have r2 := hr c
            rw [hl] at r1; rw [hc] at r2
            simp only [RepA] at r1 r2
            obtain ⟨v, w', M', q1, q2, q3, q4, q5⟩ := make_lit hs a1 a2 hz hsk he g5 g4 g1 g2 g3
            refine ⟨_, v, w', M', ?_, .inl rfl, q2, q3, q4, fun k hk => q5 k (hk.resolve_right (by simp [isAl]))⟩
            simp only [rep_int r1, rep_int r2, Sem.run_bind, q1, Result.andThen_ok, Sem.run_pure]
          · cases hk
        · cases hk
      · cases hk
    · cases hk
  · rename_i xs ts heq
    rw [heq] at hal
    obtain ⟨a1, a2, a3⟩ := hal rfl
    simp only [heq]
    split at hk
    · rename_i x y ty u hx ht
      have e1 : xs = #[x, y] := by cases xs; simp_all
      have e2 : ts = #[ty, u] := by cases ts; simp_all
      subst e1; subst e2
      split at hk
      · rename_i e e' he he'
        split at hk
        · rename_i es own h1 z hb hz
          split at hk
          · rename_i ys own' h2 hm
            split at hk
            · rename_i hq
              obtain ⟨rfl, g0, g1, g2, g3, g4⟩ := hq
              simp only [Option.some.injEq, Prod.mk.injEq] at hk
              obtain ⟨rfl, rfl⟩ := hk
              obtain ⟨v, w', M', q1, q2, q3, q4, q5⟩ := append_sound (ut := o.type) hs a1 a2 (hr x) (hr y) hb hm he hz g0 g3 g1 g2 g4
              refine ⟨_, v, w', M', ?_, .inl rfl, q2, q3, q4, fun k hk => q5 k (hk.resolve_right (by simp [isAl]))⟩
              simp only [resolve, List.map_toArray, List.map_cons, List.map_nil, Sem.run_bind, Sem.run_pure, Result.andThen_ok, invoke, builtin, q1]
            · cases hk
          · cases hk
        · cases hk
      · cases hk
    · cases hk
  · rename_i src dst x heq
    simp only [heq]
    split at hk
    · rename_i id n hx
      split at hk
      · rename_i e hd he
        split at hk
        · rename_i ty own es hu hi
          split at hk
          · rename_i b hb
            split at hk
            · rename_i hn
              simp only [Option.some.injEq, Prod.mk.injEq] at hk
              obtain ⟨rfl, rfl⟩ := hk
              have r1 := hr x
              rw [hx, hn] at r1
              have q1 := convS_sound hs hi hb hd he hu r1
              exact ⟨_, .string b, w, M, by simp only [Sem.run_bind, q1, Result.andThen_ok, Sem.run_pure], .inl rfl, hs, by simp only [RepA]; exact .str _, Step.refl w M, fun _ _ => rfl⟩
            · cases hk
          · cases hk
        · cases hk
      · cases hk
    · cases hk
  · cases hk
end
end Go.AX
