/- A region's operations on abstract states: in order, or in any order that the program may draw. -/
import Derived.Test.YtfbphnkfddgihaaAxStep
namespace Go.AX

/-! ### places made free ahead of a region -/
def memN (i : Nat) : List Nat → Bool
  | [] => false
  | j :: l => match Nat.beq i j with
    | true => true
    | false => memN i l
def distN : List Nat → Bool
  | [] => true
  | i :: l => match memN i l with
    | true => false
    | false => distN l
def allGe (nb : Nat) : List Nat → Bool
  | [] => true
  | i :: l => match Nat.ble nb i with
    | true => allGe nb l
    | false => false
/-- The operations that need a place. -/
def needs : List Oper → List Nat
  | [] => []
  | o :: l => match isAl o.op with
    | true => o.dst.getD 0 :: needs l
    | false => match isCall o.op with
      | some _ => o.dst.getD 0 :: needs l
      | none => needs l
mutual
def scA (D : List Nat) : A → A
  | .os id n => match memN (id / 64) D with
    | true => .junk
    | false => .os id n
  | .ptr id off => match memN (id / 64) D with
    | true => .junk
    | false => .ptr id off
  | .pe id i sz off => match memN (id / 64) D with
    | true => .junk
    | false => .pe id i sz off
  | .fn f cap => .fn f (scL D cap)
  | .agg cs => .agg (scL D cs)
  | .tup cs => .tup (scL D cs)
  | .d x => .d x
  | .es => .es
  | .dp cs => .dp cs
  | .undef => .undef
  | .junk => .junk
def scL (D : List Nat) : List A → List A
  | [] => []
  | a :: l => scA D a :: scL D l
end
def scO (D : List Nat) : O → O
  | .box t cs => .box t (scL D cs)
  | .arr t own es => .arr t own es
  | .frz es => .frz es
  | .gone => .gone
  | .dead => .dead
def scrub (D : List Nat) (st : St) : St :=
  match D with
  | [] => st
  | d :: l => match st with
    | ⟨n, t, h⟩ => ⟨n, fun i => scA (d :: l) (t i), fun id => match memN (id / 64) (d :: l) with
      | true => .gone
      | false => scO (d :: l) (h id)⟩

/-! ### in order -/
/-- Is a slice nil? What a datum says of it: one with elements is not; of one without nothing is known. -/
inductive NilCmp (es : List (List D)) (k : Bool → Prop) : Prop
  | mk (h : ((∀ r ∈ es, r = []) → k true) ∧ k false) : NilCmp es k
def nilOp (P : Program) (o : Op) (ρ : Operand → A) : Option (Bool × List (List D)) :=
  match o with
  | .binOp op t x y _ => (match op with
    | .eql => (match P.underlying t with
      | some (.slice _) => (match ρ x, ρ y with
        | .d (.sl es), .es => some (false, es)
        | _, _ => none)
      | _ => none)
    | .neq => (match P.underlying t with
      | some (.slice _) => (match ρ x, ρ y with
        | .d (.sl es), .es => some (true, es)
        | _, _ => none)
      | _ => none)
    | _ => none)
  | _ => none
noncomputable def stepsL (P : Program) (ops : Array Oper) (l : List Oper) (st : St) (K : St → Prop) : Prop :=
  List.rec (motive := fun _ => St → Prop) (fun st => K st) (fun o _ ih st => match nilOp P o.op (val st) with
    | none => stepOp P ops o st ih
    | some (ng, es) => (match dstOk st o, o.guard with
      | true, none => NilCmp es fun b => (match st with
        | ⟨n, t, h⟩ => fcS (put ⟨n, t, h⟩ o.dst (.d (.bool (b != ng))) h) ih)
      | _, _ => False)) l st

/-! ### in any order -/
def forceN {α : Type} (n : Nat) (k : Nat → α) : α :=
  match n with
  | 0 => k 0
  | m + 1 => k (m + 1)
theorem forceN_eq {α : Type} (n : Nat) (k : Nat → α) : forceN n k = k n := by cases n <;> rfl
noncomputable def forceL {α : Type} (l : List Nat) (k : List Nat → α) : α :=
  List.rec (motive := fun _ => (List Nat → α) → α) (fun k => k []) (fun a _ ih k => forceN a fun a => ih fun l => k (a :: l)) l k
theorem forceL_eq {α : Type} : ∀ (l : List Nat) (k : List Nat → α), forceL l k = k l
  | [], _ => rfl
  | a :: l, k => (forceN_eq a fun a => forceL l fun l => k (a :: l)).trans (forceL_eq l fun l => k (a :: l))

/-- Which operations an operation must come behind, as a mask. -/
def maskE (ms : List Nat) : List Edge → Nat → Nat
  | [], m => m
  | e :: l, m => match Region.binds .any e with
    | true => maskE ms l (m ||| (1 <<< e.on) ||| ms.getD e.on 0)
    | false => maskE ms l m
def edgesOk (j : Nat) : List Edge → Bool
  | [] => true
  | e :: l => match Region.binds .any e with
    | true => (match Nat.blt e.on j with
      | true => edgesOk j l
      | false => false)
    | false => edgesOk j l
/-- Is i among them? -/
def bit (m i : Nat) : Bool := Nat.testBit m i
def apartAll (ops : Array Oper) (o : Oper) (m : Nat) : Nat → List Oper → Bool
  | _, [] => true
  | i, p :: l => match bit m i with
    | true => apartAll ops o m (i + 1) l
    | false => match p.apart ops o with
      | true => apartAll ops o m (i + 1) l
      | false => false
/-- The masks of a region; each operation lies apart from those ahead of it that it need not follow. -/
noncomputable def masksK {α : Type} (ops : Array Oper) (bad : α) (k : List Nat → α) (done : List Oper) (ms : List Nat) (l : List Oper) : α :=
  List.rec (motive := fun _ => List Oper → List Nat → α) (fun _ ms => k ms) (fun o _ ih done ms => forceN (maskE ms o.after.toList 0) fun m =>
    match edgesOk ms.length o.after.toList with
    | true => (match apartAll ops o m 0 done with
      | true => ih (done ++ [o]) (ms ++ [m])
      | false => bad)
    | false => bad) l done ms

/-- An effect: blocks of places, single ones, and whether they are written. -/
structure Ef where
  b : List Nat
  i : List Nat
  w : Bool
def efX (o : Oper) (st : St) : Ef :=
  match isCall o.op with
  | some (f, args) => match val st f with
    | .fn _ cap => ⟨[o.dst.getD 0], reach st.h (args.map (val st) ++ cap), true⟩
    | _ => ⟨[], [], false⟩
  | none => match o.op with
    | .load _ a => ⟨[], refsA (val st a), false⟩
    | op => ⟨[], (effM op (site o.dst) (val st)).1, true⟩
def offB : List Nat → List Nat → Bool
  | [], _ => true
  | k :: l, b => match memN k b with
    | true => false
    | false => offB l b
def offI : List Nat → List Nat → List Nat → Bool
  | [], _, _ => true
  | k :: l, b, i => match memN k i with
    | true => false
    | false => match memN (k / 64) b with
      | true => false
      | false => offI l b i
def offBI : List Nat → List Nat → Bool
  | [], _ => true
  | k :: l, b => match memN (k / 64) b with
    | true => false
    | false => offBI l b
def disj (e f : Ef) : Bool :=
  match e.w || f.w with
  | false => true
  | true => offB e.b f.b && offI e.i f.b f.i && offBI f.i e.b
def okE (m : Nat) (e : Ef) : List (Nat × Ef) → Bool
  | [] => true
  | (i, f) :: l => match disj f e with
    | true => okE m e l
    | false => match bit m i with
      | true => okE m e l
      | false => false
def addE (j : Nat) (e : Ef) (acc : List (Nat × Ef)) : List (Nat × Ef) :=
  match e with
  | ⟨[], [], _⟩ => acc
  | ⟨b, i, w⟩ => (j, ⟨b, i, w⟩) :: acc
noncomputable def stepsD (P : Program) (ops : Array Oper) (l : List (Nat × Nat × Oper)) (acc : List (Nat × Ef)) (st : St) (K : St → Prop) : Prop :=
  List.rec (motive := fun _ => List (Nat × Ef) → St → Prop) (fun _ st => K st) (fun x _ ih acc st => match x with
    | (j, m, o) => match efX o st with
      | ⟨b, i, w⟩ => forceL i fun i => match okE m ⟨b, i, w⟩ acc with
        | true => stepOp P ops o st (ih (addE j ⟨b, i, w⟩ acc))
        | false => False) l acc st
def zip3 : Nat → List Nat → List Oper → List (Nat × Nat × Oper)
  | j, m :: ms, o :: l => (j, m, o) :: zip3 (j + 1) ms l
  | _, _, _ => []

noncomputable def regX (P : Program) (nb : Nat) (ops : Array Oper) (draw : Bool) (st : St) (K : St → Prop) : Prop :=
  forceL (needs ops.toList) fun D => match distN D && allGe nb D with
    | false => False
    | true => fcS (scrub D st) fun st => match draw with
      | false => stepsL P ops ops.toList st K
      | true => masksK ops False (fun ms => stepsD P ops (zip3 0 ms ops.toList) [] st K) [] [] ops.toList
end Go.AX
