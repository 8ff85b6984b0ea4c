/- The operations that read or write memory, on abstract states. Definitions alone. -/
import Derived.Test.YtfbphnkfddgihaaAxDef
namespace Go.AX

abbrev Heap := Nat → O
abbrev Out := Option (A × Heap)

def leafOk : A → Bool
  | .agg _ | .tup _ | .undef | .junk => false
  | _ => true

/-- The cells of a literal's elements: each place once, in order. -/
def litL (sz : Nat) : Nat → List (Nat × A) → Option (List A)
  | _, [] => some []
  | k, (i, v) :: rest => match leafs v with
    | some l => if i = k ∧ l.length = sz then
      (match litL sz (k + 1) rest with
      | some l' => some (l ++ l')
      | none => none) else none
    | none => none
def chunk {α : Type} (n sz : Nat) (xs : List α) : List (List α) := (List.range n).map fun i => (xs.drop (i * sz)).take sz
def litA (h : Heap) (sz : Nat) (parts : List (Nat × A)) : Option (List (List D) × Bool × Heap) :=
  match litL sz 0 parts with
  | some l => match sink h l with
    | some (xs, o, h1) => some (chunk parts.length sz xs, o, h1)
    | none => none
  | none => none

/-- The row that append starts from. -/
def baseA (h : Heap) (e : TypeId) : A → Option (List (List D) × Bool × Heap)
  | .es => some ([], true, h)
  | .os id n => match h id with
    | .arr e' own es => if n ≤ es.length ∧ e' = e then some (es.take n, own, upd h id .dead) else none
    | _ => none
  | _ => none
/-- What append appends. -/
def moreA (h : Heap) : A → Option (List (List D) × Bool × Heap)
  | .es => some ([], true, h)
  | .d (.sl ys) => some (ys, false, h)
  | .os id n => match h id with
    | .arr _ own ys => if n ≤ ys.length then some (ys.take n, own, upd h id .dead) else none
    | .frz ys => if n ≤ ys.length then some (ys.take n, false, h) else none
    | _ => none
  | _ => none

def memA (P : Program) (o : Op) (s : Nat) (ρ : Operand → A) (h : Heap) : Out :=
  match o with
  | .alloc t => match zeroT P t with
    | some z => some (.ptr s 0, upd h s (.box t z))
    | none => none
  | .box t x => match leafs (ρ x) with
    | some l => some (.ptr s 0, upd h s (.box t l))
    | none => none
  | .buildSlice t n ps => match elT P t with
    | some e => match zeroT P e, litA h (szT P e) (ps.toList.map fun x => (x.1, ρ x.2)) with
      | some _, some (es, own, h1) => if es.length = n ∧ szT P e ≠ 0 ∧ n * szT P e ≤ 16777216 then some (.os s es.length, upd h1 s (.arr e own es)) else none
      | _, _ => none
    | none => none
  | .load t a => match P.underlying t with
    | some _ => match rd h (szT P t) (ρ a) with
      | some cs => if szT P t = 0 then none else if aggT P t = true then some (.agg cs, h) else (match cs with
        | [c] => some (c, h)
        | _ => none)
      | none => none
    | none => none
  | .store t a x => match leafs (ρ x) with
    | some l => if l.length = szT P t ∧ szT P t ≠ 0 ∧ l.all leafOk = true then
        (match wr h l (ρ a) with
        | some h' => some (.undef, h')
        | none => none) else none
    | none => none
  | .makeSlice t l c => match elT P t, ρ l, ρ c with
    | some e, .d (.int .i64 l), .d (.int .i64 c) => match zeroT P e with
      | some z => match sink (fun _ => .gone) z with
        | some (zs, true, _) => if l = c ∧ 0 ≤ l ∧ l ≤ 9223372036854775807 ∧ l * bytesT P e ≤ 140737488355328 ∧ zs.length = szT P e ∧ szT P e ≠ 0 then
            some (.os s l.toNat, upd h s (.arr e true (List.replicate l.toNat zs))) else none
        | _ => none
      | none => none
    | _, _, _ => none
  | .call { callee := .builtin .append, args, argTypes } => match args.toList, argTypes.toList with
    | [x, y], [t, u] => match elT P t, elT P u with
      | some e, some _ => match baseA h e (ρ x), zeroT P e with
        | some (es, own, h1), some z => match moreA h1 (ρ y) with
          | some (ys, own', h2) => if t = u ∧ z.length = szT P e ∧ (es.length + ys.length) * bytesT P e ≤ 140737488355328 ∧ es.length + ys.length ≤ 9223372036854775807 ∧ szT P e ≠ 0 ∧ (∀ cs ∈ ys, cs.length = szT P e) then
              some (.os s (es.length + ys.length), upd h2 s (.arr e (own && own') (es ++ ys))) else none
          | none => none
        | _, _ => none
      | _, _ => none
    | _, _ => none
  | _ => none

/-- Does it make an object? -/
def isAl : Op → Bool
  | .alloc _ | .box _ _ | .buildSlice _ _ _ | .makeSlice _ _ _ => true
  | .call { callee := .builtin .append, .. } => true
  | _ => false

end Go.AX
