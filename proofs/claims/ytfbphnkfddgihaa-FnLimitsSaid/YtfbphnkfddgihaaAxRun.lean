/- Calls, operations, regions and code on abstract states. Definitions. -/
import Derived.Test.YtfbphnkfddgihaaAxMem6
namespace Go.AX

def site (dst : Option Tmp) : Nat := dst.getD 0 * 64
def put (st : St) (dst : Option Tmp) (a : A) (h : Heap) : St :=
  match st with
  | ⟨n, t, _⟩ => match dst with
    | some d => ⟨n, upd t d a, h⟩
    | none => ⟨n, t, h⟩
def dstOk (st : St) (o : Oper) : Bool := match o.dst with | some d => decide (d < st.n) | none => true
def wantedA (ops : Array Oper) (st : St) (o : Oper) : Option Bool :=
  match o.guard with
  | none => some true
  | some (g, want) => match (ops[g]?).bind (·.dst) with
    | some d => match st.t d with
      | .d (.bool b) => some (b == want)
      | .undef => some false
      | _ => none
    | none => none

/-! ### calls -/
/-- Boxes and rows that go over to a callee, or come back: box b is its object 64 b, row j its object 8 + j. -/
structure Hp where
  bs : List (TypeId × List A)
  os : List (TypeId × Bool × List (List D))
def hpH (H : Hp) : Heap := fun id =>
  if id % 64 = 0 then (match H.bs[id / 64]? with
    | some (t, cs) => .box t cs
    | none => .gone)
  else if 8 ≤ id ∧ id < 64 then (match H.os[id - 8]? with
    | some (t, own, es) => .arr t own es
    | none => .gone)
  else .gone

structure Pass where
  bs : List (Nat × TypeId × List A)
  os : List (Nat × TypeId × Bool × List (List D))
  br : List Nat
def Pass.hp (p : Pass) : Hp := ⟨p.bs.map (·.2), p.os.map (·.2)⟩

/-- A cell as data to be read alone. -/
def deepA (h : Heap) : A → Option (A × List Nat)
  | .d x => some (.d x, [])
  | .es => some (.d (.sl []), [])
  | .os id n => match h id with
    | .arr _ _ es => if n ≤ es.length then some (.d (.sl (es.take n)), [id]) else none
    | .frz es => if n ≤ es.length then some (.d (.sl (es.take n)), []) else none
    | _ => none
  | .dp cs => some (.dp cs, [])
  | .undef => some (.undef, [])
  | .junk => some (.junk, [])
  | .fn f [] => some (.fn f [], [])
  | _ => none
def deepL (h : Heap) : List A → Option (List A × List Nat)
  | [] => some ([], [])
  | a :: l => match deepA h a with
    | some (x, b) => match deepL h l with
      | some (xs, b') => some (x :: xs, b ++ b')
      | none => none
    | none => none
/-- A box's cells: rows of the call's own go over to the callee. -/
def moveL (h : Heap) : Nat → List A → Option (List A × List (Nat × TypeId × Bool × List (List D)))
  | _, [] => some ([], [])
  | k, .os id n :: l => match h id with
    | .arr t own es => match moveL h (k + 1) l with
      | some (xs, m) => if n ≤ es.length then some (.os (8 + k) n :: xs, (id, t, own, es) :: m) else none
      | none => none
    | .frz es => match moveL h k l with
      | some (xs, m) => if n ≤ es.length then some (.d (.sl (es.take n)) :: xs, m) else none
      | none => none
    | _ => none
  | k, .d x :: l => match moveL h k l with
    | some (xs, m) => some (.d x :: xs, m)
    | none => none
  | k, .es :: l => match moveL h k l with
    | some (xs, m) => some (.es :: xs, m)
    | none => none
  | k, .undef :: l => match moveL h k l with
    | some (xs, m) => some (.undef :: xs, m)
    | none => none
  | k, .junk :: l => match moveL h k l with
    | some (xs, m) => some (.junk :: xs, m)
    | none => none
  | _, _ :: _ => none

def passA (h : Heap) (p : Pass) : A → Option (A × Pass)
  | .ptr id 0 => match h id with
    | .box t cs => match moveL h p.os.length cs with
      | some (cs', m) => some (.ptr (64 * p.bs.length) 0, ⟨p.bs ++ [(id, t, cs')], p.os ++ m, p.br⟩)
      | none => none
    | _ => none
  | .agg cs => match deepL h cs with
    | some (xs, l) => some (.agg xs, ⟨p.bs, p.os, p.br ++ l⟩)
    | none => none
  | .ptr _ (_ + 1) => none
  | a => match deepA h a with
    | some (x, l) => some (x, ⟨p.bs, p.os, p.br ++ l⟩)
    | none => none
def passL (h : Heap) : Pass → List A → Option (List A × Pass)
  | p, [] => some ([], p)
  | p, a :: l => match passA h p a with
    | some (x, p1) => match passL h p1 l with
      | some (xs, p2) => some (x :: xs, p2)
      | none => none
    | none => none

mutual
/-- Nothing in it reads memory that might be shared. -/
def noSl : A → Bool
  | .d x => notSl x
  | .es => true
  | .os _ _ => true
  | .ptr _ _ => true
  | .pe _ _ _ _ => true
  | .undef => true
  | .junk => true
  | .dp _ => false
  | .fn _ cap => noSlL cap
  | .agg cs => noSlL cs
  | .tup cs => noSlL cs
def noSlL : List A → Bool
  | [] => true
  | a :: l => noSl a && noSlL l
end
mutual
/-- What a callee hands back, under the caller's names: its row 8 + j is the caller's object s + j, its box 64 b the caller's object bs[b]. -/
def ren (s : Nat) (bs : List Nat) : A → A
  | .os id n => .os (s + (id - 8)) n
  | .ptr id off => match bs[id / 64]? with
    | some i => .ptr i off
    | none => .junk
  | .pe _ _ _ _ => .junk
  | .fn f cap => .fn f (renL s bs cap)
  | .agg cs => .agg (renL s bs cs)
  | .tup cs => .tup (renL s bs cs)
  | .d x => .d x
  | .es => .es
  | .dp cs => .dp cs
  | .undef => .undef
  | .junk => .junk
def renL (s : Nat) (bs : List Nat) : List A → List A
  | [] => []
  | a :: l => ren s bs a :: renL s bs l
end
def frzO : O → O
  | .arr _ _ es => .frz es
  | o => o
def idx : List Nat → Nat → Option Nat
  | [], _ => none
  | j :: l, i => if i = j then some 0 else (match idx l i with
    | some k => some (k + 1)
    | none => none)
/-- Can what was lent be written again? -/
def lentBack (r : A) (H : Hp) : Bool := noSl r && H.os.all (fun x => x.2.1) && H.bs.all (fun x => noSlL x.2)
def backH (h : Heap) (s : Nat) (p : Pass) (r : A) (H : Hp) : Heap := fun id =>
  if s ≤ id ∧ id < s + H.os.length then (match H.os[id - s]? with
    | some x => .arr x.1 x.2.1 x.2.2
    | none => .gone)
  else match idx (p.bs.map (·.1)) id with
    | some b => (match H.bs[b]? with
      | some x => .box x.1 (renL s (p.bs.map (·.1)) x.2)
      | none => .gone)
    | none => if (p.os.map (·.1)).contains id = true then .dead else if p.br.contains id = true then (if lentBack r H = true then h id else frzO (h id)) else h id

mutual
/-- It names none but a callee's rows 8 .. 8 + no - 1, and boxes. -/
def okA (no : Nat) : A → Bool
  | .os id _ => decide (8 ≤ id) && decide (id < 8 + no)
  | .ptr id _ => id % 64 == 0
  | .fn _ cap => okL no cap
  | .agg cs => okL no cs
  | .tup cs => okL no cs
  | .d _ => true
  | .es => true
  | .dp _ => true
  | .pe _ _ _ _ => true
  | .undef => true
  | .junk => true
def okL (no : Nat) : List A → Bool
  | [] => true
  | a :: l => okA no a && okL no l
end
/-- The function can be entered. -/
def enterOk (P : Program) (f : FuncId) : Prop := ∃ fn, P.funcs[f]? = some fn ∧ fn.body.isSome = true ∧ (fn.name == "runtime.NumGoroutine") = false

/-- What a call comes to. -/
def Ct (P : Program) (f : FuncId) (xs : List A) (H : Hp) (r : A) (H' : Hp) : Prop :=
  enterOk P f ∧ (H'.bs.length = H.bs.length ∧ H'.os.length ≤ 56 ∧ okA H'.os.length r = true ∧ ∀ x ∈ H'.bs, okL H'.os.length x.2 = true) ∧ ∀ w M vs, Sim P w M (fun _ => .junk) (hpH H) #[] → RepL w M xs vs →
    Calls P f vs.toArray w fun e w' => ∃ v M', e = .returned v ∧ Sim P w' M' (fun _ => .junk) (hpH H') #[] ∧ RepA w' M' r v ∧ Step w M w' M' ∧ ∀ b, b < H.bs.length → M'.m (64 * b) = M.m (64 * b)

/-- A call as a condition on what follows. -/
inductive CallOk (P : Program) (f : FuncId) (xs : List A) (H : Hp) (K : A → Hp → Prop) : Prop
  | mk (h : ∃ r H', Ct P f xs H r H' ∧ K r H') : CallOk P f xs H K
theorem CallOk.of {P : Program} {f : FuncId} {xs : List A} {H : Hp} {K : A → Hp → Prop} {r : A} {H' : Hp} (h : Ct P f xs H r H') (k : K r H') : CallOk P f xs H K := ⟨r, H', h, k⟩
theorem CallOk.ex {P : Program} {f : FuncId} {xs : List A} {H : Hp} {K : A → Hp → Prop} (h : CallOk P f xs H K) : ∃ r H', Ct P f xs H r H' ∧ K r H' := by cases h with | mk h => exact h

def isCall : Op → Option (Operand × List Operand)
  | .call { callee := .value f, args, .. } => some (f, args.toList)
  | _ => none

/-! ### closures: what they hold goes over as arguments do -/
def unfnL : List A → List A
  | [] => []
  | .fn f cap :: l => .fn f [] :: (cap ++ unfnL l)
  | a :: l => a :: unfnL l
def takeP : List A → List A → List A × List A
  | [], xs => ([], xs)
  | _ :: cap, x :: xs => (x :: (takeP cap xs).1, (takeP cap xs).2)
  | _ :: _, [] => ([], [])
def refnL : List A → List A → List A
  | [], _ => []
  | .fn f cap :: l, _ :: xs => .fn f (takeP cap xs).1 :: refnL l (takeP cap xs).2
  | _ :: l, x :: xs => x :: refnL l xs
  | _ :: _, [] => []
noncomputable def takeK (k : List A → List A → Prop) (cap xs : List A) : Prop :=
  List.rec (motive := fun _ => (List A → List A → Prop) → List A → Prop) (fun k xs => k [] xs) (fun _ _ ih k xs => match xs with
    | x :: xs => ih (fun c r => k (x :: c) r) xs
    | [] => k [] []) cap k xs
noncomputable def refnK (l xs : List A) (k : List A → Prop) : Prop :=
  List.rec (motive := fun _ => List A → (List A → Prop) → Prop) (fun _ k => k []) (fun a _ ih xs k => match xs with
    | x :: xs => (match a with
      | .fn f cap => takeK (fun c r => ih r fun ys => k (.fn f c :: ys)) cap xs
      | _ => ih xs fun ys => k (x :: ys))
    | [] => k []) l xs k
theorem takeK_eq : ∀ {cap xs : List A} {k : List A → List A → Prop}, takeK k cap xs = k (takeP cap xs).1 (takeP cap xs).2
  | [], _, _ => rfl
  | _ :: cap, x :: xs, k => takeK_eq (cap := cap) (xs := xs) (k := fun c r => k (x :: c) r)
  | _ :: _, [], _ => rfl
theorem refnK_eq : ∀ {l xs : List A} {k : List A → Prop}, refnK l xs k = k (refnL l xs)
  | [], _, _ => rfl
  | a :: l, [], k => by cases a <;> rfl
  | a :: l, x :: xs, k => by
    cases a with
    | fn f cap =>
      have : refnK (.fn f cap :: l) (x :: xs) k = takeK (fun c r => refnK l r fun ys => k (.fn f c :: ys)) cap xs := rfl
      rw [this, takeK_eq, refnK_eq]; rfl
    | _ =>
      refine (refnK_eq (l := l) (xs := xs) (k := fun ys => k (x :: ys)) : _).trans ?_
      rfl
theorem refs_unfn : ∀ {l : List A}, refsL (unfnL l) = refsL l
  | [] => rfl
  | a :: l => by
    cases a with
    | fn f cap => simp only [unfnL, refsL, refsA, refsL_append, refs_unfn (l := l), List.nil_append]
    | _ => simp only [unfnL, refsL, refs_unfn (l := l)]
/-- The values, flattened too. -/
def unfnV : List A → List Value → List Value
  | .fn f _ :: l, v :: vs => .func (.func f) #[] #[] :: ((match v with | .func _ _ c => c.toList | _ => []) ++ unfnV l vs)
  | _ :: l, v :: vs => v :: unfnV l vs
  | _, _ => []
theorem unfn_rep {w : World} {M : Mu} : ∀ {l : List A} {vs : List Value}, RepL w M l vs → RepL w M (unfnL l) (unfnV l vs)
  | [], [], _ => by simp only [unfnL, unfnV, RepL]
  | a :: l, v :: vs, h => by
    simp only [RepL] at h
    have ih := unfn_rep h.2
    cases a with
    | fn f cap =>
      have h1 := h.1
      simp only [RepA] at h1
      obtain ⟨cs, rfl, hc⟩ := h1
      simp only [unfnL, unfnV, RepL, RepA]
      exact ⟨⟨[], rfl, by simp [RepL]⟩, hc.append ih⟩
    | _ => simp only [unfnL, unfnV, RepL]; exact ⟨h.1, ih⟩
  | [], _ :: _, h => by simp [RepL] at h
  | _ :: _, [], h => by simp [RepL] at h
theorem takeP_rep {w : World} {M : Mu} : ∀ {cap xs : List A} {cs vs : List Value}, cap.length = cs.length → RepL w M xs (cs ++ vs) → RepL w M (takeP cap xs).1 cs ∧ RepL w M (takeP cap xs).2 vs
  | [], xs, [], vs, _, h => ⟨by simp [takeP, RepL], by simpa [takeP] using h⟩
  | _ :: cap, x :: xs, c :: cs, vs, hl, h => by
    simp only [List.cons_append, RepL] at h
    obtain ⟨q1, q2⟩ := takeP_rep (cap := cap) (by simpa using hl) h.2
    simp only [takeP, RepL]
    exact ⟨⟨h.1, q1⟩, q2⟩
  | _ :: _, [], c :: cs, vs, _, h => by simp [RepL] at h
  | [], _, _ :: _, _, hl, _ => by simp at hl
  | _ :: _, _, [], _, hl, _ => by simp at hl
theorem refn_rep {w w' : World} {M M' : Mu} : ∀ {l xs : List A} {vs : List Value}, RepL w M l vs → RepL w' M' xs (unfnV l vs) → RepL w' M' (refnL l xs) vs
  | [], xs, [], _, _ => by simp [refnL, RepL]
  | a :: l, xs, v :: vs, h, hx => by
    simp only [RepL] at h
    cases a with
    | fn f cap =>
      have h1 := h.1
      simp only [RepA] at h1
      obtain ⟨cs, rfl, hc⟩ := h1
      simp only [unfnV] at hx
      cases xs with
      | nil => simp [RepL] at hx
      | cons x xs =>
        simp only [RepL] at hx
        obtain ⟨q1, q2⟩ := takeP_rep (cap := cap) hc.length hx.2
        simp only [refnL, RepL, RepA]
        exact ⟨⟨cs, rfl, q1⟩, refn_rep h.2 q2⟩
    | _ =>
      simp only [unfnV] at hx
      cases xs with
      | nil => simp [RepL] at hx
      | cons x xs =>
        simp only [RepL] at hx
        simp only [refnL, RepL]
        exact ⟨hx.1, refn_rep h.2 hx.2⟩
  | [], _, _ :: _, h, _ => by simp [RepL] at h
  | _ :: _, _, [], h, _ => by simp [RepL] at h

def distinct : List Nat → Bool
  | [] => true
  | i :: l => !l.contains i && distinct l

/-- May the callee be given this? -/
def passOk (p : Pass) (s : Nat) : Bool := (p.bs.map (·.1) ++ p.os.map (·.1) ++ p.br).all (fun i => !(decide (s ≤ i) && decide (i < s + 56))) && distinct (p.bs.map (·.1) ++ p.os.map (·.1)) && (p.br.all fun i => !(p.bs.map (·.1) ++ p.os.map (·.1)).contains i) && decide (p.os.length ≤ 56)
end Go.AX
