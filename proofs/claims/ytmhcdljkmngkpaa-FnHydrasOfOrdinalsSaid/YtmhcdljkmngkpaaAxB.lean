/- An abstract executor, part B: what the operations of the program do to data. -/
import Derived.Test.YtmhcdljkmngkpaaAxA
set_option linter.unusedVariables false
set_option linter.unusedSimpArgs false
namespace Go.AX

def site (dst : Option Tmp) : Nat := dst.getD 0 * 64
def put (st : St) (dst : Option Tmp) (a : A) (h : Heap) : St :=
  match st with
  | ⟨n, t, _⟩ => match dst with
    | some d => ⟨n, upd t d a, h⟩
    | none => ⟨n, t, h⟩
def dstOk (st : St) (o : Oper) : Bool := match o.dst with | some d => decide (d < st.n) | none => true
def wantedA (ops : Array Oper) (st : St) (o : Oper) : Option Bool :=
  match o.guard with
  | none => some true
  | some (g, want) => match (ops[g]?).bind (·.dst) with
    | some d => match st.t d with
      | .d (.bool b) => some (b == want)
      | .undef => some false
      | _ => none
    | none => none

/-! ### calls -/
/-- Boxes and rows that go over to a callee, or come back: box b is its object 64 b, row j its object 8 + j. -/
structure Hp where
  bs : List (TypeId × List A)
  os : List (TypeId × Bool × List (List D))
def hpH (H : Hp) : Heap := fun id =>
  if id % 64 = 0 then (match H.bs[id / 64]? with
    | some (t, cs) => .box t cs
    | none => .gone)
  else if 8 ≤ id ∧ id < 64 then (match H.os[id - 8]? with
    | some (t, own, es) => .arr t own es
    | none => .gone)
  else .gone

structure Pass where
  bs : List (Nat × TypeId × List A)
  os : List (Nat × TypeId × Bool × List (List D))
  br : List Nat
  mv : Bool
def Pass.hp (p : Pass) : Hp := ⟨p.bs.map (·.2), p.os.map (·.2)⟩

/-- A cell as data to be read alone. -/
def deepA (h : Heap) : A → Option (A × List Nat)
  | .d x => some (.d x, [])
  | .es => some (.d (.sl []), [])
  | .os id n => match h id with
    | .arr _ _ es => if n ≤ es.length then some (.d (.sl (es.take n)), [id]) else none
    | .frz es => if n ≤ es.length then some (.d (.sl (es.take n)), []) else none
    | _ => none
  | .dp cs => some (.dp cs, [])
  | .undef => some (.undef, [])
  | .junk => some (.junk, [])
  | .fn f [] => some (.fn f [], [])
  | _ => none
def deepL (h : Heap) : List A → Option (List A × List Nat)
  | [] => some ([], [])
  | a :: l => match deepA h a with
    | some (x, b) => match deepL h l with
      | some (xs, b') => some (x :: xs, b ++ b')
      | none => none
    | none => none
/-- A box's cells: rows of the call's own go over to the callee. -/
def moveL (h : Heap) : Nat → List A → Option (List A × List (Nat × TypeId × Bool × List (List D)))
  | _, [] => some ([], [])
  | k, .os id n :: l => match h id with
    | .arr t own es => match moveL h (k + 1) l with
      | some (xs, m) => if n ≤ es.length then some (.os (8 + k) n :: xs, (id, t, own, es) :: m) else none
      | none => none
    | .frz es => match moveL h k l with
      | some (xs, m) => if n ≤ es.length then some (.d (.sl (es.take n)) :: xs, m) else none
      | none => none
    | _ => none
  | k, .d x :: l => match moveL h k l with
    | some (xs, m) => some (.d x :: xs, m)
    | none => none
  | k, .es :: l => match moveL h k l with
    | some (xs, m) => some (.es :: xs, m)
    | none => none
  | k, .undef :: l => match moveL h k l with
    | some (xs, m) => some (.undef :: xs, m)
    | none => none
  | k, .junk :: l => match moveL h k l with
    | some (xs, m) => some (.junk :: xs, m)
    | none => none
  | _, _ :: _ => none

def passA (h : Heap) (p : Pass) : A → Option (A × Pass)
  | .ptr id 0 => match h id with
    | .box t cs => match moveL h p.os.length cs with
      | some (cs', m) => some (.ptr (64 * p.bs.length) 0, ⟨p.bs ++ [(id, t, cs')], p.os ++ m, p.br, p.mv⟩)
      | none => none
    | _ => none
  | .agg cs => match p.mv with
    | false => match deepL h cs with
      | some (xs, l) => some (.agg xs, ⟨p.bs, p.os, p.br ++ l, p.mv⟩)
      | none => none
    | true => match moveL h p.os.length cs with
      | some (xs, m) => some (.agg xs, ⟨p.bs, p.os ++ m, p.br, p.mv⟩)
      | none => none
  | .ptr _ (_ + 1) => none
  | a => match deepA h a with
    | some (x, l) => some (x, ⟨p.bs, p.os, p.br ++ l, p.mv⟩)
    | none => none
def passL (h : Heap) : Pass → List A → Option (List A × Pass)
  | p, [] => some ([], p)
  | p, a :: l => match passA h p a with
    | some (x, p1) => match passL h p1 l with
      | some (xs, p2) => some (x :: xs, p2)
      | none => none
    | none => none

mutual
/-- Nothing in it reads memory that might be shared. -/
def noSl : A → Bool
  | .d x => notSl x
  | .es => true
  | .os _ _ => true
  | .ptr _ _ => true
  | .pe _ _ _ _ => true
  | .undef => true
  | .junk => true
  | .dp _ => false
  | .fn _ cap => noSlL cap
  | .agg cs => noSlL cs
  | .tup cs => noSlL cs
def noSlL : List A → Bool
  | [] => true
  | a :: l => noSl a && noSlL l
end
mutual
/-- What a callee hands back, under the caller's names: its row 8 + j is the caller's object s + j, its box 64 b the caller's object bs[b]. -/
def ren (s : Nat) (bs : List Nat) : A → A
  | .os id n => .os (s + (id - 8)) n
  | .ptr id off => match bs[id / 64]? with
    | some i => .ptr i off
    | none => .junk
  | .pe _ _ _ _ => .junk
  | .fn f cap => .fn f (renL s bs cap)
  | .agg cs => .agg (renL s bs cs)
  | .tup cs => .tup (renL s bs cs)
  | .d x => .d x
  | .es => .es
  | .dp cs => .dp cs
  | .undef => .undef
  | .junk => .junk
def renL (s : Nat) (bs : List Nat) : List A → List A
  | [] => []
  | a :: l => ren s bs a :: renL s bs l
end
def frzO : O → O
  | .arr _ _ es => .frz es
  | o => o
def idx : List Nat → Nat → Option Nat
  | [], _ => none
  | j :: l, i => if i = j then some 0 else (match idx l i with
    | some k => some (k + 1)
    | none => none)
/-- Can what was lent be written again? -/
def lentBack (r : A) (H : Hp) : Bool := noSl r && H.os.all (fun x => x.2.1) && H.bs.all (fun x => noSlL x.2)
def backH (h : Heap) (s : Nat) (p : Pass) (r : A) (H : Hp) : Heap := fun id =>
  if s ≤ id ∧ id < s + H.os.length then (match H.os[id - s]? with
    | some x => .arr x.1 x.2.1 x.2.2
    | none => .gone)
  else match idx (p.bs.map (·.1)) id with
    | some b => (match H.bs[b]? with
      | some x => .box x.1 (renL s (p.bs.map (·.1)) x.2)
      | none => .gone)
    | none => if (p.os.map (·.1)).contains id = true then .dead else if p.br.contains id = true then (if lentBack r H = true then h id else frzO (h id)) else h id

mutual
/-- It names none but a callee's rows 8 .. 8 + no - 1, and boxes. -/
def okA (no : Nat) : A → Bool
  | .os id _ => decide (8 ≤ id) && decide (id < 8 + no)
  | .ptr id _ => id % 64 == 0
  | .fn _ cap => okL no cap
  | .agg cs => okL no cs
  | .tup cs => okL no cs
  | .d _ => true
  | .es => true
  | .dp _ => true
  | .pe _ _ _ _ => true
  | .undef => true
  | .junk => true
def okL (no : Nat) : List A → Bool
  | [] => true
  | a :: l => okA no a && okL no l
end
/-- The function can be entered. -/
def enterOk (P : Program) (f : FuncId) : Prop := ∃ fn, P.funcs[f]? = some fn ∧ fn.body.isSome = true ∧ (fn.name == "runtime.NumGoroutine") = false

/-- What a call comes to. -/
def Ct (P : Program) (f : FuncId) (xs : List A) (H : Hp) (r : A) (H' : Hp) : Prop :=
  enterOk P f ∧ (H'.bs.length = H.bs.length ∧ H'.os.length ≤ 56 ∧ okA H'.os.length r = true ∧ ∀ x ∈ H'.bs, okL H'.os.length x.2 = true) ∧ ∀ w M vs, Sim P w M (fun _ => .junk) (hpH H) #[] → RepL w M xs vs →
    Calls P f vs.toArray w fun e w' => ∃ v M', e = .returned v ∧ Sim P w' M' (fun _ => .junk) (hpH H') #[] ∧ RepA w' M' r v ∧ Step w M w' M' ∧ ∀ b, b < H.bs.length → M'.m (64 * b) = M.m (64 * b)

/-- Whether the rows in arguments go over to the callee, or are lent. -/
inductive Pick (k : Bool → Prop) : Prop
  | no (h : k false) : Pick k
  | yes (h : k true) : Pick k
theorem Pick.ex {k : Bool → Prop} (h : Pick k) : ∃ b, k b := by
  cases h with
  | no h => exact ⟨_, h⟩
  | yes h => exact ⟨_, h⟩
/-- A call as a condition on what follows. -/
inductive CallOk (P : Program) (f : FuncId) (xs : List A) (H : Hp) (K : A → Hp → Prop) : Prop
  | mk (h : ∃ r H', Ct P f xs H r H' ∧ K r H') : CallOk P f xs H K
theorem CallOk.of {P : Program} {f : FuncId} {xs : List A} {H : Hp} {K : A → Hp → Prop} {r : A} {H' : Hp} (h : Ct P f xs H r H') (k : K r H') : CallOk P f xs H K := ⟨r, H', h, k⟩
theorem CallOk.ex {P : Program} {f : FuncId} {xs : List A} {H : Hp} {K : A → Hp → Prop} (h : CallOk P f xs H K) : ∃ r H', Ct P f xs H r H' ∧ K r H' := by cases h with | mk h => exact h

def isCall : Op → Option (Operand × List Operand)
  | .call { callee := .value f, args, .. } => some (f, args.toList)
  | _ => none

/-! ### closures: what they hold goes over as arguments do -/
def unfnL : List A → List A
  | [] => []
  | .fn f cap :: l => .fn f [] :: (cap ++ unfnL l)
  | a :: l => a :: unfnL l
def takeP : List A → List A → List A × List A
  | [], xs => ([], xs)
  | _ :: cap, x :: xs => (x :: (takeP cap xs).1, (takeP cap xs).2)
  | _ :: _, [] => ([], [])
def refnL : List A → List A → List A
  | [], _ => []
  | .fn f cap :: l, _ :: xs => .fn f (takeP cap xs).1 :: refnL l (takeP cap xs).2
  | _ :: l, x :: xs => x :: refnL l xs
  | _ :: _, [] => []
noncomputable def takeK (k : List A → List A → Prop) (cap xs : List A) : Prop :=
  List.rec (motive := fun _ => (List A → List A → Prop) → List A → Prop) (fun k xs => k [] xs) (fun _ _ ih k xs => match xs with
    | x :: xs => ih (fun c r => k (x :: c) r) xs
    | [] => k [] []) cap k xs
noncomputable def refnK (l xs : List A) (k : List A → Prop) : Prop :=
  List.rec (motive := fun _ => List A → (List A → Prop) → Prop) (fun _ k => k []) (fun a _ ih xs k => match xs with
    | x :: xs => (match a with
      | .fn f cap => takeK (fun c r => ih r fun ys => k (.fn f c :: ys)) cap xs
      | _ => ih xs fun ys => k (x :: ys))
    | [] => k []) l xs k
theorem takeK_eq : ∀ {cap xs : List A} {k : List A → List A → Prop}, takeK k cap xs = k (takeP cap xs).1 (takeP cap xs).2
  | [], _, _ => rfl
  | _ :: cap, x :: xs, k => takeK_eq (cap := cap) (xs := xs) (k := fun c r => k (x :: c) r)
  | _ :: _, [], _ => rfl
theorem refnK_eq : ∀ {l xs : List A} {k : List A → Prop}, refnK l xs k = k (refnL l xs)
  | [], _, _ => rfl
  | a :: l, [], k => by cases a <;> rfl
  | a :: l, x :: xs, k => by
    cases a with
    | fn f cap =>
      have : refnK (.fn f cap :: l) (x :: xs) k = takeK (fun c r => refnK l r fun ys => k (.fn f c :: ys)) cap xs := rfl
      rw [this, takeK_eq, refnK_eq]; rfl
    | _ =>
      refine (refnK_eq (l := l) (xs := xs) (k := fun ys => k (x :: ys)) : _).trans ?_
      rfl
theorem refs_unfn : ∀ {l : List A}, refsL (unfnL l) = refsL l
  | [] => rfl
  | a :: l => by
    cases a with
    | fn f cap => simp only [unfnL, refsL, refsA, refsL_append, refs_unfn (l := l), List.nil_append]
    | _ => simp only [unfnL, refsL, refs_unfn (l := l)]
/-- The values, flattened too. -/
def unfnV : List A → List Value → List Value
  | .fn f _ :: l, v :: vs => .func (.func f) #[] #[] :: ((match v with | .func _ _ c => c.toList | _ => []) ++ unfnV l vs)
  | _ :: l, v :: vs => v :: unfnV l vs
  | _, _ => []
theorem unfn_rep {w : World} {M : Mu} : ∀ {l : List A} {vs : List Value}, RepL w M l vs → RepL w M (unfnL l) (unfnV l vs)
  | [], [], _ => by simp only [unfnL, unfnV, RepL]
  | a :: l, v :: vs, h => by
    simp only [RepL] at h
    have ih := unfn_rep h.2
    cases a with
    | fn f cap =>
      have h1 := h.1
      simp only [RepA] at h1
      obtain ⟨cs, rfl, hc⟩ := h1
      simp only [unfnL, unfnV, RepL, RepA]
      exact ⟨⟨[], rfl, by simp [RepL]⟩, hc.append ih⟩
    | _ => simp only [unfnL, unfnV, RepL]; exact ⟨h.1, ih⟩
  | [], _ :: _, h => by simp [RepL] at h
  | _ :: _, [], h => by simp [RepL] at h
theorem takeP_rep {w : World} {M : Mu} : ∀ {cap xs : List A} {cs vs : List Value}, cap.length = cs.length → RepL w M xs (cs ++ vs) → RepL w M (takeP cap xs).1 cs ∧ RepL w M (takeP cap xs).2 vs
  | [], xs, [], vs, _, h => ⟨by simp [takeP, RepL], by simpa [takeP] using h⟩
  | _ :: cap, x :: xs, c :: cs, vs, hl, h => by
    simp only [List.cons_append, RepL] at h
    obtain ⟨q1, q2⟩ := takeP_rep (cap := cap) (by simpa using hl) h.2
    simp only [takeP, RepL]
    exact ⟨⟨h.1, q1⟩, q2⟩
  | _ :: _, [], c :: cs, vs, _, h => by simp [RepL] at h
  | [], _, _ :: _, _, hl, _ => by simp at hl
  | _ :: _, _, [], _, hl, _ => by simp at hl
theorem refn_rep {w w' : World} {M M' : Mu} : ∀ {l xs : List A} {vs : List Value}, RepL w M l vs → RepL w' M' xs (unfnV l vs) → RepL w' M' (refnL l xs) vs
  | [], xs, [], _, _ => by simp [refnL, RepL]
  | a :: l, xs, v :: vs, h, hx => by
    simp only [RepL] at h
    cases a with
    | fn f cap =>
      have h1 := h.1
      simp only [RepA] at h1
      obtain ⟨cs, rfl, hc⟩ := h1
      simp only [unfnV] at hx
      cases xs with
      | nil => simp [RepL] at hx
      | cons x xs =>
        simp only [RepL] at hx
        obtain ⟨q1, q2⟩ := takeP_rep (cap := cap) hc.length hx.2
        simp only [refnL, RepL, RepA]
        exact ⟨⟨cs, rfl, q1⟩, refn_rep h.2 q2⟩
    | _ =>
      simp only [unfnV] at hx
      cases xs with
      | nil => simp [RepL] at hx
      | cons x xs =>
        simp only [RepL] at hx
        simp only [refnL, RepL]
        exact ⟨hx.1, refn_rep h.2 hx.2⟩
  | [], _, _ :: _, h, _ => by simp [RepL] at h
  | _ :: _, _, [], h, _ => by simp [RepL] at h

def distinct : List Nat → Bool
  | [] => true
  | i :: l => !l.contains i && distinct l

/-- May the callee be given this? -/
def passOk (p : Pass) (s : Nat) : Bool := (p.bs.map (·.1) ++ p.os.map (·.1) ++ p.br).all (fun i => !(decide (s ≤ i) && decide (i < s + 56))) && distinct (p.bs.map (·.1) ++ p.os.map (·.1)) && (p.br.all fun i => !(p.bs.map (·.1) ++ p.os.map (·.1)).contains i) && decide (p.os.length ≤ 56)
end Go.AX

namespace Go.AX
section
variable {P : Program} {w w' : World} {M : Mu} {t : Nat → A} {h : Heap} {tm : Array Value}

/-! ### what goes over -/
def Mv (h : Heap) (os : List (Nat × TypeId × Bool × List (List D))) : A → A → Prop
  | .os id n, a' => (∃ k t own es, h id = .arr t own es ∧ n ≤ es.length ∧ os[k]? = some (id, t, own, es) ∧ a' = .os (8 + k) n) ∨ (∃ es, h id = .frz es ∧ n ≤ es.length ∧ a' = .d (.sl (es.take n)))
  | .d x, a' => a' = .d x
  | .es, a' => a' = .es
  | .undef, a' => a' = .undef
  | .junk, a' => a' = .junk
  | _, _ => False
def MvL (h : Heap) (os : List (Nat × TypeId × Bool × List (List D))) : List A → List A → Prop
  | [], [] => True
  | a :: l, b :: m => Mv h os a b ∧ MvL h os l m
  | [], _ :: _ => False
  | _ :: _, [] => False
theorem moveL_sound : ∀ (l : List A) {k : Nat} {l' : List A} {m os : List (Nat × TypeId × Bool × List (List D))}, moveL h k l = some (l', m) → (∀ (i : Nat) x, m[i]? = some x → os[k + i]? = some x) →
    MvL h os l l' ∧ ∀ x ∈ m, h x.1 = .arr x.2.1 x.2.2.1 x.2.2.2
  | [], k, l', m, os, hk, ho => by
    simp only [moveL, Option.some.injEq, Prod.mk.injEq] at hk
    obtain ⟨rfl, rfl⟩ := hk
    exact ⟨trivial, by simp⟩
  | a :: l, k, l', m, os, hk, ho => by
    unfold moveL at hk
    split at hk
    · rename_i hq; cases hq
    · rename_i id n l0 heq
      simp only [List.cons.injEq] at heq
      obtain ⟨rfl, rfl⟩ := heq
      split at hk
      · rename_i ty own es hi
        split at hk
        · rename_i xs m' hm
          split at hk
          · rename_i hn
            simp only [Option.some.injEq, Prod.mk.injEq] at hk
            obtain ⟨rfl, rfl⟩ := hk
            obtain ⟨q1, q2⟩ := moveL_sound l (os := os) hm (fun i x hx => by
              have := ho (i + 1) x (by simpa using hx)
              rwa [← Nat.add_assoc, Nat.add_right_comm] at this)
            refine ⟨⟨.inl ⟨_, ty, own, es, hi, hn, by simpa using ho 0 _ rfl, rfl⟩, q1⟩, fun x hx => ?_⟩
            rcases List.mem_cons.1 hx with rfl | hx
            · exact hi
            · exact q2 x hx
          · cases hk
        · cases hk
      · rename_i es hi
        split at hk
        · rename_i xs m' hm
          split at hk
          · rename_i hn
            simp only [Option.some.injEq, Prod.mk.injEq] at hk
            obtain ⟨rfl, rfl⟩ := hk
            obtain ⟨q1, q2⟩ := moveL_sound l (os := os) hm ho
            exact ⟨⟨.inr ⟨es, hi, hn, rfl⟩, q1⟩, q2⟩
          · cases hk
        · cases hk
      · cases hk
    all_goals first
      | (rename_i l0 heq
         simp only [List.cons.injEq] at heq
         obtain ⟨rfl, rfl⟩ := heq
         split at hk
         · rename_i xs m' hm
           simp only [Option.some.injEq, Prod.mk.injEq] at hk
           obtain ⟨rfl, rfl⟩ := hk
           obtain ⟨q1, q2⟩ := moveL_sound l (os := os) hm ho
           exact ⟨⟨rfl, q1⟩, q2⟩
         · cases hk)
      | cases hk

/-- An argument as the callee has it. -/
def Ar (h : Heap) (p : Pass) : A → A → Prop
  | .ptr id off, x => off = 0 ∧ ∃ b t cs cs', h id = .box t cs ∧ p.bs[b]? = some (id, t, cs') ∧ MvL h p.os cs cs' ∧ x = .ptr (64 * b) 0
  | .agg l, x => ∃ l', x = .agg l' ∧ ((∃ b, deepL h l = some (l', b) ∧ ∀ i ∈ b, i ∈ p.br) ∨ MvL h p.os l l')
  | a, x => ∃ b, deepA h a = some (x, b) ∧ ∀ i ∈ b, i ∈ p.br
def ArL (h : Heap) (p : Pass) : List A → List A → Prop
  | [], [] => True
  | a :: l, b :: m => Ar h p a b ∧ ArL h p l m
  | [], _ :: _ => False
  | _ :: _, [] => False
def Le (p q : Pass) : Prop := (∃ l, q.bs = p.bs ++ l) ∧ (∃ l, q.os = p.os ++ l) ∧ ∃ l, q.br = p.br ++ l
theorem Le.refl (p : Pass) : Le p p := ⟨⟨[], by simp⟩, ⟨[], by simp⟩, ⟨[], by simp⟩⟩
theorem Le.trans {p q r : Pass} (h : Le p q) (k : Le q r) : Le p r := by
  obtain ⟨⟨a, ha⟩, ⟨b, hb⟩, ⟨c, hc⟩⟩ := h
  obtain ⟨⟨a', ha'⟩, ⟨b', hb'⟩, ⟨c', hc'⟩⟩ := k
  exact ⟨⟨a ++ a', by rw [ha', ha, List.append_assoc]⟩, ⟨b ++ b', by rw [hb', hb, List.append_assoc]⟩, ⟨c ++ c', by rw [hc', hc, List.append_assoc]⟩⟩
def Good (h : Heap) (q p : Pass) : Prop := (∀ x ∈ p.bs, ∃ cs, h x.1 = .box x.2.1 cs ∧ MvL h q.os cs x.2.2) ∧ (∀ x ∈ p.os, h x.1 = .arr x.2.1 x.2.2.1 x.2.2.2) ∧ ∀ i ∈ p.br, ∃ ty own es, h i = .arr ty own es
theorem deepA_ids {a x : A} {b : List Nat} (hd : deepA h a = some (x, b)) : ∀ i ∈ b, ∃ ty own es, h i = .arr ty own es := by
  unfold deepA at hd
  split at hd <;> first
    | (simp only [Option.some.injEq, Prod.mk.injEq] at hd; obtain ⟨rfl, rfl⟩ := hd; intro i hi; simp at hi; done)
    | (split at hd
       · rename_i hi'
         split at hd
         · simp only [Option.some.injEq, Prod.mk.injEq] at hd
           obtain ⟨rfl, rfl⟩ := hd
           intro i hi
           simp only [List.mem_singleton] at hi
           subst hi
           exact ⟨_, _, _, hi'⟩
         · cases hd
       · split at hd
         · simp only [Option.some.injEq, Prod.mk.injEq] at hd
           obtain ⟨rfl, rfl⟩ := hd
           intro i hi
           simp at hi
         · cases hd
       · cases hd)
    | cases hd
theorem deepL_ids : ∀ {l l' : List A} {b : List Nat}, deepL h l = some (l', b) → ∀ i ∈ b, ∃ ty own es, h i = .arr ty own es
  | [], l', b, hd => by
    simp only [deepL, Option.some.injEq, Prod.mk.injEq] at hd
    obtain ⟨rfl, rfl⟩ := hd
    intro i hi; simp at hi
  | a :: l, l', b, hd => by
    simp only [deepL] at hd
    split at hd
    · rename_i x b1 hx
      split at hd
      · rename_i xs b2 hl
        simp only [Option.some.injEq, Prod.mk.injEq] at hd
        obtain ⟨rfl, rfl⟩ := hd
        intro i hi
        rcases List.mem_append.1 hi with hi | hi
        · exact deepA_ids hx i hi
        · exact deepL_ids hl i hi
      · cases hd
    · cases hd
theorem passA_sound {p p1 q : Pass} {a x : A} (hk : passA h p a = some (x, p1)) (hq : Le p1 q) (hg : Good h q p) : Le p p1 ∧ Good h q p1 ∧ Ar h q a x := by
  have deep : ∀ {a : A}, (∀ id off, a ≠ .ptr id off) → (∀ l, a ≠ .agg l) → (match deepA h a with
      | some (x, l) => some (x, (⟨p.bs, p.os, p.br ++ l, p.mv⟩ : Pass))
      | none => none) = some (x, p1) → Le p p1 ∧ Good h q p1 ∧ Ar h q a x := by
    intro a h1 h2 hk
    split at hk
    · rename_i x' l hd
      simp only [Option.some.injEq, Prod.mk.injEq] at hk
      obtain ⟨rfl, rfl⟩ := hk
      refine ⟨⟨⟨[], by simp⟩, ⟨[], by simp⟩, ⟨l, rfl⟩⟩, ⟨hg.1, hg.2.1, fun i hi => by
        rcases List.mem_append.1 hi with hi | hi
        · exact hg.2.2 i hi
        · exact deepA_ids hd i hi⟩, ?_⟩
      obtain ⟨_, _, c, hc⟩ := hq
      have : ∀ i ∈ l, i ∈ q.br := fun i hi => by rw [hc]; simp [hi]
      cases a with
      | ptr id off => exact absurd rfl (h1 id off)
      | agg l' => exact absurd rfl (h2 l')
      | _ => exact ⟨l, hd, this⟩
    · cases hk
  unfold passA at hk
  split at hk
  · rename_i id
    split at hk
    · rename_i ty cs hi
      split at hk
      · rename_i cs' m hm
        simp only [Option.some.injEq, Prod.mk.injEq] at hk
        obtain ⟨rfl, rfl⟩ := hk
        obtain ⟨⟨b, hb⟩, ⟨o, ho⟩, _⟩ := hq
        simp only at hb ho
        obtain ⟨q1, q2⟩ := moveL_sound cs (os := q.os) hm (fun i x hx => by
          rw [ho, List.getElem?_append_left (by have := (List.getElem?_eq_some_iff.1 hx).1; simp; omega), List.getElem?_append_right (by omega)]
          simpa using hx)
        refine ⟨⟨⟨[(id, ty, cs')], rfl⟩, ⟨m, rfl⟩, ⟨[], by simp⟩⟩, ⟨fun x hx => ?_, fun x hx => ?_, hg.2.2⟩, rfl, p.bs.length, ty, cs, cs', hi, ?_, q1, rfl⟩
        · rcases List.mem_append.1 hx with hx | hx
          · exact hg.1 x hx
          · simp only [List.mem_singleton] at hx
            subst hx
            exact ⟨cs, hi, q1⟩
        · rcases List.mem_append.1 hx with hx | hx
          · exact hg.2.1 x hx
          · exact q2 x hx
        · rw [hb, List.getElem?_append_left (by simp), List.getElem?_append_right (by omega)]; simp
      · cases hk
    · cases hk
  · rename_i l
    split at hk
    · split at hk
      · rename_i xs b hd
        simp only [Option.some.injEq, Prod.mk.injEq] at hk
        obtain ⟨rfl, rfl⟩ := hk
        obtain ⟨_, _, c, hc⟩ := hq
        exact ⟨⟨⟨[], by simp⟩, ⟨[], by simp⟩, ⟨b, rfl⟩⟩, ⟨hg.1, hg.2.1, fun i hi => by
          rcases List.mem_append.1 hi with hi | hi
          · exact hg.2.2 i hi
          · exact deepL_ids hd i hi⟩, xs, rfl, .inl ⟨b, hd, fun i hi => by rw [hc]; simp [hi]⟩⟩
      · cases hk
    · split at hk
      · rename_i xs m hm
        simp only [Option.some.injEq, Prod.mk.injEq] at hk
        obtain ⟨rfl, rfl⟩ := hk
        obtain ⟨_, ⟨o, ho⟩, _⟩ := hq
        simp only at ho
        obtain ⟨q1, q2⟩ := moveL_sound l (os := q.os) hm (fun i x hx => by
          rw [ho, List.getElem?_append_left (by have := (List.getElem?_eq_some_iff.1 hx).1; simp; omega), List.getElem?_append_right (by omega)]
          simpa using hx)
        refine ⟨⟨⟨[], by simp⟩, ⟨m, rfl⟩, ⟨[], by simp⟩⟩, ⟨hg.1, fun x hx => ?_, hg.2.2⟩, xs, rfl, .inr q1⟩
        rcases List.mem_append.1 hx with hx | hx
        · exact hg.2.1 x hx
        · exact q2 x hx
      · cases hk
  · cases hk
  · rename_i h1 h2 h3
    refine deep (fun id off e => ?_) (fun l e => h2 l e) hk
    cases off with
    | zero => exact h1 id e
    | succ n => exact h3 id n e
theorem passL_sound : ∀ (l : List A) {p p1 q : Pass} {xs : List A}, passL h p l = some (xs, p1) → Le p1 q → Good h q p → Le p p1 ∧ Good h q p1 ∧ ArL h q l xs
  | [], p, p1, q, xs, hk, hq, hg => by
    simp only [passL, Option.some.injEq, Prod.mk.injEq] at hk
    obtain ⟨rfl, rfl⟩ := hk
    exact ⟨Le.refl _, hg, trivial⟩
  | a :: l, p, p1, q, xs, hk, hq, hg => by
    simp only [passL] at hk
    split at hk
    · rename_i x p2 ha
      split at hk
      · rename_i ys p3 hl
        simp only [Option.some.injEq, Prod.mk.injEq] at hk
        obtain ⟨rfl, rfl⟩ := hk
        -- the list's part only grows
        have grow : ∀ (l : List A) {p p1 : Pass} {xs : List A}, passL h p l = some (xs, p1) → Le p p1 := by
          intro l
          induction l with
          | nil => intro p p1 xs hk; simp only [passL, Option.some.injEq, Prod.mk.injEq] at hk; rw [hk.2]; exact Le.refl _
          | cons a l ih =>
            intro p p1 xs hk
            simp only [passL] at hk
            split at hk
            · rename_i x p2 ha
              split at hk
              · rename_i ys p3 hl
                simp only [Option.some.injEq, Prod.mk.injEq] at hk
                obtain ⟨rfl, rfl⟩ := hk
                refine Le.trans ?_ (ih hl)
                unfold passA at ha
                split at ha
                · split at ha
                  · split at ha
                    · simp only [Option.some.injEq, Prod.mk.injEq] at ha
                      obtain ⟨_, rfl⟩ := ha
                      exact ⟨⟨_, rfl⟩, ⟨_, rfl⟩, ⟨[], by simp⟩⟩
                    · cases ha
                  · cases ha
                · split at ha
                  · split at ha
                    · simp only [Option.some.injEq, Prod.mk.injEq] at ha
                      obtain ⟨_, rfl⟩ := ha
                      exact ⟨⟨[], by simp⟩, ⟨[], by simp⟩, ⟨_, rfl⟩⟩
                    · cases ha
                  · split at ha
                    · simp only [Option.some.injEq, Prod.mk.injEq] at ha
                      obtain ⟨_, rfl⟩ := ha
                      exact ⟨⟨[], by simp⟩, ⟨_, rfl⟩, ⟨[], by simp⟩⟩
                    · cases ha
                · cases ha
                · split at ha
                  · simp only [Option.some.injEq, Prod.mk.injEq] at ha
                    obtain ⟨_, rfl⟩ := ha
                    exact ⟨⟨[], by simp⟩, ⟨[], by simp⟩, ⟨_, rfl⟩⟩
                  · cases ha
              · cases hk
            · cases hk
        obtain ⟨q1, q2, q3⟩ := passA_sound ha ((grow l hl).trans hq) hg
        obtain ⟨r1, r2, r3⟩ := passL_sound l hl hq q2
        exact ⟨q1.trans r1, r2, q3, r3⟩
      · cases hk
    · cases hk

/-! ### the callee's places -/
/-- The caller's object behind a callee's. -/
def cid (p : Pass) (id : Nat) : Option Nat :=
  if id % 64 = 0 then (p.bs.map (·.1))[id / 64]? else if 8 ≤ id ∧ id < 64 then (p.os.map (·.1))[id - 8]? else none
def muIn (M : Mu) (p : Pass) : Mu where
  m id := match cid p id with
    | some i => M.m i
    | none => none
  own id := match cid p id with
    | some i => M.own i
    | none => []
  F b := M.F b ∨ ∃ i ∈ p.br, b ∈ M.own i
theorem cid_box {p : Pass} {b : Nat} {x : Nat × TypeId × List A} (hx : p.bs[b]? = some x) : cid p (64 * b) = some x.1 := by
  have e1 : 64 * b % 64 = 0 := by omega
  have e2 : 64 * b / 64 = b := by omega
  simp [cid, e1, e2, hx]
theorem cid_row {p : Pass} {k : Nat} (hk : k < 56) {x : Nat × TypeId × Bool × List (List D)} (hx : p.os[k]? = some x) : cid p (8 + k) = some x.1 := by
  have e1 : ¬ (8 + k) % 64 = 0 := by omega
  have e2 : 8 ≤ 8 + k ∧ 8 + k < 64 := by omega
  have e3 : 8 + k - 8 = k := by omega
  simp only [cid, e1, if_false, e2, and_self, if_true, e3, List.getElem?_map, hx, Option.map_some]
theorem muIn_box {p : Pass} {b : Nat} {x : Nat × TypeId × List A} (hx : p.bs[b]? = some x) : (muIn M p).m (64 * b) = M.m x.1 ∧ (muIn M p).own (64 * b) = M.own x.1 := by
  simp [muIn, cid_box hx]
theorem muIn_row {p : Pass} {k : Nat} (hk : k < 56) {x : Nat × TypeId × Bool × List (List D)} (hx : p.os[k]? = some x) : (muIn M p).m (8 + k) = M.m x.1 ∧ (muIn M p).own (8 + k) = M.own x.1 := by
  simp [muIn, cid_row hk hx]
theorem distinct_inj : ∀ {l : List Nat}, distinct l = true → ∀ {i j : Nat} {a : Nat}, l[i]? = some a → l[j]? = some a → i = j
  | [], _, i, j, a, hi, _ => by simp at hi
  | x :: l, hd, i, j, a, hi, hj => by
    simp only [distinct, Bool.and_eq_true, Bool.not_eq_true', List.contains_eq_mem] at hd
    have hx : x ∉ l := by simpa using hd.1
    cases i with
    | zero =>
      cases j with
      | zero => rfl
      | succ j =>
        simp only [List.getElem?_cons_zero, Option.some.injEq, List.getElem?_cons_succ] at hi hj
        subst hi
        exact absurd (List.mem_of_getElem? hj) hx
    | succ i =>
      cases j with
      | zero =>
        simp only [List.getElem?_cons_zero, Option.some.injEq, List.getElem?_cons_succ] at hi hj
        subst hj
        exact absurd (List.mem_of_getElem? hi) hx
      | succ j =>
        simp only [List.getElem?_cons_succ] at hi hj
        rw [distinct_inj hd.2 hi hj]
theorem cid_pos {p : Pass} {id i : Nat} (h : cid p id = some i) : ∃ k, (p.bs.map (·.1) ++ p.os.map (·.1))[k]? = some i ∧ ((id = 64 * k ∧ k < p.bs.length) ∨ (p.bs.length ≤ k ∧ id = 8 + (k - p.bs.length) ∧ id < 64)) := by
  unfold cid at h
  split at h
  · have hlt := (List.getElem?_eq_some_iff.1 h).1
    refine ⟨id / 64, by rw [List.getElem?_append_left hlt]; exact h, .inl ⟨by omega, by simpa using hlt⟩⟩
  · split at h
    · refine ⟨p.bs.length + (id - 8), ?_, .inr ⟨by omega, by omega, by omega⟩⟩
      rw [List.getElem?_append_right (by simp)]
      simpa using h
    · cases h
theorem cid_inj {p : Pass} (hd : distinct (p.bs.map (·.1) ++ p.os.map (·.1)) = true) {i j a : Nat} (hi : cid p i = some a) (hj : cid p j = some a) : i = j := by
  obtain ⟨k, hk, hk'⟩ := cid_pos hi
  obtain ⟨l, hl, hl'⟩ := cid_pos hj
  have := distinct_inj hd hk hl
  subst this
  rcases hk' with hk' | hk' <;> rcases hl' with hl' | hl' <;> omega
theorem cid_mem {p : Pass} {id i : Nat} (h : cid p id = some i) : i ∈ p.bs.map (·.1) ++ p.os.map (·.1) := by
  obtain ⟨k, hk, _⟩ := cid_pos h
  exact List.mem_of_getElem? hk

theorem Mv.rep (hs : Sim P w M t h tm) {p : Pass} (hp : p.os.length ≤ 56) {a a' : A} {v : Value} (hm : Mv h p.os a a') (hr : RepA w M a v) : RepA w (muIn M p) a' v := by
  have hF : ∀ b, M.F b → (muIn M p).F b ∧ w.heap[b]? = w.heap[b]? := fun b hb => ⟨.inl hb, rfl⟩
  cases a with
  | os id n =>
    rcases hm with ⟨k, ty, own, es, hi, hn, ho, rfl⟩ | ⟨es, hi, hn, rfl⟩
    · have hk : k < 56 := by have := (List.getElem?_eq_some_iff.1 ho).1; omega
      simp only [RepA] at hr ⊢
      rw [(muIn_row hk ho).1]
      exact hr
    · simp only [RepA]
      exact (frz_out hs hi hn hr).mono hF
  | d x => rw [hm]; simp only [RepA] at hr ⊢; exact hr.mono hF
  | es => rw [hm]; simpa only [RepA] using hr
  | undef => rw [hm]; simpa only [RepA] using hr
  | junk => rw [hm]; simp only [RepA]
  | _ => exact hm.elim
theorem MvL.rep (hs : Sim P w M t h tm) {p : Pass} (hp : p.os.length ≤ 56) : ∀ {l l' : List A} {vs : List Value}, MvL h p.os l l' → RepL w M l vs → RepL w (muIn M p) l' vs
  | [], [], vs, _, hr => by cases vs <;> simp_all [RepL]
  | a :: l, b :: l', [], _, hr => by simp [RepL] at hr
  | a :: l, b :: l', v :: vs, hm, hr => by simp only [RepL] at hr ⊢; exact ⟨hm.1.rep hs hp hr.1, MvL.rep hs hp hm.2 hr.2⟩
  | [], _ :: _, _, hm, _ => hm.elim
  | _ :: _, [], _, hm, _ => hm.elim
theorem deepA_rep (hs : Sim P w M t h tm) {p : Pass} {a x : A} {b : List Nat} {v : Value} (hd : deepA h a = some (x, b)) (hb : ∀ i ∈ b, i ∈ p.br) (hr : RepA w M a v) : RepA w (muIn M p) x v := by
  have hF : ∀ b, M.F b → (muIn M p).F b ∧ w.heap[b]? = w.heap[b]? := fun b hb => ⟨.inl hb, rfl⟩
  unfold deepA at hd
  split at hd
  · simp only [Option.some.injEq, Prod.mk.injEq] at hd
    obtain ⟨rfl, rfl⟩ := hd
    simp only [RepA] at hr ⊢
    exact hr.mono hF
  · simp only [Option.some.injEq, Prod.mk.injEq] at hd
    obtain ⟨rfl, rfl⟩ := hd
    simp only [RepA] at hr ⊢
    subst hr
    exact .sl none 0 0 [] (fun _ _ => undef) (by simp) (by simp) (by simp [at2]) (by simp [at2])
  · rename_i id n
    split at hd
    · rename_i ty own es hi
      split at hd
      · rename_i hn
        simp only [Option.some.injEq, Prod.mk.injEq] at hd
        obtain ⟨rfl, rfl⟩ := hd
        obtain ⟨B, hB, hR, _⟩ := arr_out hs hi hn hr
        simp only [RepA]
        exact hR.mono fun b' hb' => ⟨hb'.elim .inl fun q => .inr ⟨id, hb id (by simp), hB b' q⟩, rfl⟩
      · cases hd
    · rename_i es hi
      split at hd
      · rename_i hn
        simp only [Option.some.injEq, Prod.mk.injEq] at hd
        obtain ⟨rfl, rfl⟩ := hd
        simp only [RepA]
        exact (frz_out hs hi hn hr).mono hF
      · cases hd
    · cases hd
  · simp only [Option.some.injEq, Prod.mk.injEq] at hd
    obtain ⟨rfl, rfl⟩ := hd
    exact RepA.mono (M := M) (M' := muIn M p) hF hr (by simp [refsA])
  · simp only [Option.some.injEq, Prod.mk.injEq] at hd
    obtain ⟨rfl, rfl⟩ := hd
    simpa only [RepA] using hr
  · simp only [Option.some.injEq, Prod.mk.injEq] at hd
    obtain ⟨rfl, rfl⟩ := hd
    simp only [RepA]
  · rename_i f
    simp only [Option.some.injEq, Prod.mk.injEq] at hd
    obtain ⟨rfl, rfl⟩ := hd
    exact RepA.mono (M := M) (M' := muIn M p) hF hr (by simp [refsA, refsL])
  · cases hd
theorem deepL_rep (hs : Sim P w M t h tm) {p : Pass} : ∀ {l l' : List A} {b : List Nat} {vs : List Value}, deepL h l = some (l', b) → (∀ i ∈ b, i ∈ p.br) → RepL w M l vs → RepL w (muIn M p) l' vs
  | [], l', b, vs, hd, hb, hr => by
    simp only [deepL, Option.some.injEq, Prod.mk.injEq] at hd
    obtain ⟨rfl, rfl⟩ := hd
    cases vs <;> simp_all [RepL]
  | a :: l, l', b, [], hd, hb, hr => by simp [RepL] at hr
  | a :: l, l', b, v :: vs, hd, hb, hr => by
    simp only [deepL] at hd
    split at hd
    · rename_i x b1 hx
      split at hd
      · rename_i xs b2 hl
        simp only [Option.some.injEq, Prod.mk.injEq] at hd
        obtain ⟨rfl, rfl⟩ := hd
        simp only [RepL] at hr ⊢
        exact ⟨deepA_rep hs hx (fun i hi => hb i (by simp [hi])) hr.1, deepL_rep hs hl (fun i hi => hb i (by simp [hi])) hr.2⟩
      · cases hd
    · cases hd
theorem Ar.rep (hs : Sim P w M t h tm) {p : Pass} (hp : p.os.length ≤ 56) {a x : A} {v : Value} (ha : Ar h p a x) (hr : RepA w M a v) : RepA w (muIn M p) x v := by
  cases a with
  | ptr id off =>
    obtain ⟨rfl, b, ty, cs, cs', hi, hb, _, rfl⟩ := ha
    simp only [RepA] at hr ⊢
    rw [(muIn_box hb).1]
    exact hr
  | agg l =>
    obtain ⟨l', rfl, ha⟩ := ha
    simp only [RepA] at hr ⊢
    obtain ⟨vs, rfl, hl⟩ := hr
    rcases ha with ⟨b, hd, hb⟩ | hm
    · exact ⟨vs, rfl, deepL_rep hs hd hb hl⟩
    · exact ⟨vs, rfl, hm.rep hs hp hl⟩
  | _ => obtain ⟨b, hd, hb⟩ := ha; exact deepA_rep hs hd hb hr
theorem ArL.rep (hs : Sim P w M t h tm) {p : Pass} (hp : p.os.length ≤ 56) : ∀ {l l' : List A} {vs : List Value}, ArL h p l l' → RepL w M l vs → RepL w (muIn M p) l' vs
  | [], [], vs, _, hr => by cases vs <;> simp_all [RepL]
  | a :: l, b :: l', [], _, hr => by simp [RepL] at hr
  | a :: l, b :: l', v :: vs, hm, hr => by simp only [RepL] at hr ⊢; exact ⟨hm.1.rep hs hp hr.1, ArL.rep hs hp hm.2 hr.2⟩
  | [], _ :: _, _, hm, _ => hm.elim
  | _ :: _, [], _, hm, _ => hm.elim

/-- What the callee is given. -/
theorem sim_in (hs : Sim P w M t h tm) {p : Pass} (hg : Good h p p) (hd : distinct (p.bs.map (·.1) ++ p.os.map (·.1)) = true) (hbr : ∀ i ∈ p.br, i ∉ p.bs.map (·.1) ++ p.os.map (·.1)) (hn : p.os.length ≤ 56) :
    Sim P w (muIn M p) (fun _ => .junk) (hpH p.hp) #[] := by
  have ownc : ∀ id b, b ∈ (muIn M p).own id → ∃ i, cid p id = some i ∧ b ∈ M.own i := by
    intro id b hb
    simp only [muIn] at hb
    cases hc : cid p id with
    | none => rw [hc] at hb; cases hb
    | some i => rw [hc] at hb; exact ⟨i, rfl, hb⟩
  have hF : ∀ b, M.F b → (muIn M p).F b ∧ w.heap[b]? = w.heap[b]? := fun b hb => ⟨.inl hb, rfl⟩
  refine ⟨fun i => by simp [RepA], fun id => ?_, fun i j hij b hb hb' => ?_, fun i b hb => ?_, fun b hb => ?_, hs.tab.same fun b hb => .inl hb⟩
  · unfold hpH
    split
    · rename_i h0
      have hid : 64 * (id / 64) = id := by omega
      cases hb : p.bs[id / 64]? with
      | none =>
        simp only [Pass.hp, List.getElem?_map, hb, Option.map_none]
        simp only [SimO, muIn, cid, h0, if_true, List.getElem?_map, hb, Option.map_none]
      | some x =>
        obtain ⟨i, ty, cs'⟩ := x
        simp only [Pass.hp, List.getElem?_map, hb, Option.map_some]
        obtain ⟨cs, hi, hmv⟩ := hg.1 _ (List.mem_of_getElem? hb)
        have ho := hs.ob i
        simp only at hi hmv
        rw [hi] at ho
        simp only [SimO] at ho ⊢
        obtain ⟨b, c, vs, h1, h2, h3, h4⟩ := ho
        have hmi := muIn_box (M := M) hb
        rw [hid] at hmi
        exact ⟨b, c, vs, by rw [hmi.1, h1], by rw [hmi.2, h2], h3, hmv.rep hs hn h4⟩
    · rename_i h0
      split
      · rename_i h1
        have hid : 8 + (id - 8) = id := by omega
        cases hb : p.os[id - 8]? with
        | none =>
          simp only [Pass.hp, List.getElem?_map, hb, Option.map_none]
          simp only [SimO, muIn, cid, h0, if_false, h1, and_self, if_true, List.getElem?_map, hb, Option.map_none]
        | some x =>
          obtain ⟨i, ty, own, es⟩ := x
          simp only [Pass.hp, List.getElem?_map, hb, Option.map_some]
          have hi := hg.2.1 _ (List.mem_of_getElem? hb)
          simp only at hi
          have ho := hs.ob i
          rw [hi] at ho
          have hmi := muIn_row (M := M) (p := p) (k := id - 8) (by omega) hb
          rw [hid] at hmi
          have := SimO.mono (M := M) (M' := ⟨upd M.m i ((muIn M p).m id), upd M.own i ((muIn M p).own id), (muIn M p).F⟩) ho hF (fun _ _ => rfl) (by simp only [upd_same]; exact hmi.1) (by simp only [upd_same]; exact hmi.2) (by simp [refsO])
          simp only [SimO, SimArr, upd_same] at this ⊢
          exact this
      · rename_i h1
        simp only [SimO, muIn, cid, h0, if_false, h1, if_false]
  · obtain ⟨i', hi', hb1⟩ := ownc i b hb
    obtain ⟨j', hj', hb2⟩ := ownc j b hb'
    refine hs.dis i' j' (fun e => ?_) b hb1 hb2
    subst e
    exact hij (cid_inj hd hi' hj')
  · obtain ⟨i', hi', hb1⟩ := ownc i b hb
    refine ⟨fun hq => ?_, (hs.nf i' b hb1).2⟩
    rcases hq with hq | ⟨j, hj, hq⟩
    · exact (hs.nf i' b hb1).1 hq
    · refine hs.dis i' j (fun e => ?_) b hb1 hq
      subst e
      exact hbr i' hj (cid_mem hi')
  · rcases hb with hb | ⟨j, hj, hq⟩
    · exact hs.fz b hb
    · exact (hs.nf j b hq).2
end
end Go.AX

namespace Go.AX
section
variable {P : Program} {w w' : World} {M : Mu} {t : Nat → A} {h : Heap} {tm : Array Value}

theorem idx_some : ∀ {l : List Nat} {i b : Nat}, idx l i = some b → l[b]? = some i
  | [], i, b, h => by simp [idx] at h
  | j :: l, i, b, h => by
    unfold idx at h
    split at h
    · rename_i e; injection h with h; subst h; subst e; rfl
    · split at h
      · rename_i k hk; injection h with h; subst h; simpa using idx_some hk
      · cases h
theorem idx_none : ∀ {l : List Nat} {i : Nat}, idx l i = none → i ∉ l
  | [], i, _ => by simp
  | j :: l, i, h => by
    unfold idx at h
    split at h
    · cases h
    · rename_i e
      split at h
      · cases h
      · rename_i hk
        intro hm
        rcases List.mem_cons.1 hm with rfl | hm
        · exact e rfl
        · exact idx_none hk hm

/-- The places behind a call. -/
def muOut (M M' : Mu) (s : Nat) (p : Pass) (n : Nat) (back : Bool) : Mu where
  m id := if s ≤ id ∧ id < s + n then M'.m (8 + (id - s)) else M.m id
  own id := if s ≤ id ∧ id < s + n then M'.own (8 + (id - s)) else
    match idx (p.bs.map (·.1)) id with
    | some b => M'.own (64 * b)
    | none => if (p.os.map (·.1)).contains id = true then [] else if p.br.contains id = true then (if back = true then M.own id else []) else M.own id
  F := if back = true then M.F else M'.F


/-- Reading a callee's value under the caller's names. 'Q': what may be read without the blocks of M'. -/
theorem rep_drop {F F' : Nat → Prop} {v : Value} {x : D} (h : Rep w F v x) (hx : notSl x = true) : Rep w F' v x := by
  cases h with
  | int k n => exact .int k n
  | bool b => exact .bool b
  | str s => exact .str s
  | sl => cases hx
  | np => exact .np
  | pt => cases hx

mutual
theorem ren_rep {M1 M2 : Mu} {s : Nat} {ids : List Nat} {back : Bool} (hF : back = false → ∀ b, M1.F b → M2.F b) {no : Nat} (hos : ∀ id, 8 ≤ id → id < 8 + no → M2.m (s + (id - 8)) = M1.m id) (hbx : ∀ (b i : Nat), ids[b]? = some i → M2.m i = M1.m (64 * b)) :
    ∀ {a : A} {v : Value}, RepA w M1 a v → okA no a = true → (back = true → noSl a = true) → RepA w M2 (ren s ids a) v
  | .d x, v, h, _, hb => by
    simp only [ren, RepA] at h ⊢
    cases back with
    | false => exact h.mono fun b q => ⟨hF rfl b q, rfl⟩
    | true => exact rep_drop h (by simpa [noSl] using hb rfl)
  | .es, v, h, _, _ => by simpa only [ren, RepA] using h
  | .os id n, v, h, hk, _ => by
    simp only [okA, Bool.and_eq_true, decide_eq_true_eq] at hk
    simp only [ren]
    simp only [RepA, hos id hk.1 hk.2] at h ⊢
    exact h
  | .ptr id off, v, h, hk, _ => by
    simp only [okA, beq_iff_eq] at hk
    simp only [ren]
    split
    · rename_i i hi
      have := hbx _ _ hi
      have e : 64 * (id / 64) = id := by omega
      rw [e] at this
      simp only [RepA] at h ⊢
      rw [this]; exact h
    · simp only [RepA]
  | .pe id i sz off, v, h, _, _ => by rw [ren]; simp only [RepA]
  | .dp cs, v, h, _, hb => by
    cases back with
    | false =>
      rw [ren]
      exact RepA.mono (M := M1) (M' := M2) (a := .dp cs) (fun b q => ⟨hF rfl b q, rfl⟩) h (fun k hk => by simp [refsA] at hk)
    | true => exact absurd (hb rfl) (by simp [noSl])
  | .fn f cap, v, h, hk, hb => by
    simp only [ren, RepA] at h ⊢
    obtain ⟨vs, rfl, hl⟩ := h
    exact ⟨vs, rfl, ren_repL hF hos hbx hl (by simpa [okA] using hk) (by simpa [noSl] using hb)⟩
  | .agg cs, v, h, hk, hb => by
    simp only [ren, RepA] at h ⊢
    obtain ⟨vs, rfl, hl⟩ := h
    exact ⟨vs, rfl, ren_repL hF hos hbx hl (by simpa [okA] using hk) (by simpa [noSl] using hb)⟩
  | .tup cs, v, h, hk, hb => by
    simp only [ren, RepA] at h ⊢
    obtain ⟨vs, rfl, hl⟩ := h
    exact ⟨vs, rfl, ren_repL hF hos hbx hl (by simpa [okA] using hk) (by simpa [noSl] using hb)⟩
  | .undef, v, h, _, _ => by simpa only [ren, RepA] using h
  | .junk, v, _, _, _ => by simp only [ren, RepA]
theorem ren_repL {M1 M2 : Mu} {s : Nat} {ids : List Nat} {back : Bool} (hF : back = false → ∀ b, M1.F b → M2.F b) {no : Nat} (hos : ∀ id, 8 ≤ id → id < 8 + no → M2.m (s + (id - 8)) = M1.m id) (hbx : ∀ (b i : Nat), ids[b]? = some i → M2.m i = M1.m (64 * b)) :
    ∀ {l : List A} {vs : List Value}, RepL w M1 l vs → okL no l = true → (back = true → noSlL l = true) → RepL w M2 (renL s ids l) vs
  | [], [], _, _, _ => by simp [renL, RepL]
  | a :: l, v :: vs, h, hk, hb => by
    simp only [okL, Bool.and_eq_true] at hk
    simp only [renL, RepL] at h ⊢
    refine ⟨ren_rep hF hos hbx h.1 hk.1 fun q => ?_, ren_repL hF hos hbx h.2 hk.2 fun q => ?_⟩
    · have := hb q; simp [noSlL] at this; exact this.1
    · have := hb q; simp [noSlL] at this; exact this.2
  | [], _ :: _, h, _, _ => by simp [RepL] at h
  | _ :: _, [], h, _, _ => by simp [RepL] at h
end

/-- A call. -/
theorem call_sound (hs : Sim P w M t h tm) {l0 xs : List A} {vs : List Value} {p : Pass} {f : FuncId} {r : A} {H' : Hp} {s : Nat} (hl0 : RepL w M l0 vs) {mv : Bool} (hp : passL h ⟨[], [], [], mv⟩ (unfnL l0) = some (xs, p)) (hok : passOk p s = true) (hct : Ct P f (refnL l0 xs) p.hp r H')
    (hfresh : ∀ k, k < 56 → M.own (s + k) = [] ∧ NoRef (s + k) t h) :
    Calls P f vs.toArray w fun e w' => ∃ v M', e = .returned v ∧ Sim P w' M' t (backH h s p r H') tm ∧ RepA w' M' (ren s (p.bs.map (·.1)) r) v ∧ Step w M w' M' ∧ ∀ k, (k < s ∨ s + 56 ≤ k) → M'.m k = M.m k := by
  have hl := unfn_rep hl0
  obtain ⟨_, hg, har⟩ := passL_sound (unfnL l0) hp (Le.refl p) (q := p) ⟨by simp, by simp, by simp⟩
  simp only [passOk, Bool.and_eq_true, decide_eq_true_eq] at hok
  obtain ⟨⟨⟨hsite, hdist⟩, hbr⟩, hno⟩ := hok
  have hbr' : ∀ i ∈ p.br, i ∉ p.bs.map (·.1) ++ p.os.map (·.1) := by
    intro i hi
    have := List.all_eq_true.1 hbr i hi
    simpa only [List.contains_eq_mem, Bool.not_eq_true', decide_eq_false_iff_not] using this
  have hsite' : ∀ i ∈ p.bs.map (·.1) ++ p.os.map (·.1) ++ p.br, ¬ (s ≤ i ∧ i < s + 56) := by
    intro i hi
    have := List.all_eq_true.1 hsite i hi
    intro hq
    simp [hq] at this
  have hin := sim_in hs hg hdist hbr' hno
  obtain ⟨_, ⟨hnb, hnr, hokr, hokb⟩, hcall⟩ := hct
  refine (hcall w _ vs hin (refn_rep hl0 (har.rep hs hno hl))).mono fun e w' => ?_
  rintro ⟨v, M', rfl, hS, hr, hst, hbm⟩
  let back := lentBack r H'
  let ids := p.bs.map (·.1)
  let n := H'.os.length
  refine ⟨v, muOut M M' s p n back, rfl, ?_⟩
  -- the callee's own
  have ownc : ∀ id b, b ∈ (muIn M p).own id → ∃ i, cid p id = some i ∧ b ∈ M.own i := by
    intro id b hb
    simp only [muIn] at hb
    cases hc : cid p id with
    | none => rw [hc] at hb; cases hb
    | some i => rw [hc] at hb; exact ⟨i, rfl, hb⟩
  have hbl : H'.bs.length = p.bs.length := by rw [hnb]; simp [Pass.hp]
  have kept : ∀ b, b < w.heap.size → (∀ i ∈ ids ++ p.os.map (·.1), b ∉ M.own i) → w'.heap[b]? = w.heap[b]? := by
    intro b hb hq
    refine hst.keep b hb fun id hid => ?_
    obtain ⟨i, hi, hbi⟩ := ownc id b hid
    exact hq i (cid_mem hi) hbi
  have keptF : ∀ b, M.F b → w'.heap[b]? = w.heap[b]? := fun b hb => kept b (hs.fz b hb) fun i _ hbi => (hs.nf i b hbi).1 hb
  have keptO : ∀ id, id ∉ ids ++ p.os.map (·.1) → ∀ b ∈ M.own id, w'.heap[b]? = w.heap[b]? := fun id hid b hb => kept b (hs.nf id b hb).2 fun i hi hbi => hs.dis id i (fun e => hid (e ▸ hi)) b hb hbi
  have F1 : ∀ b, M.F b → (muOut M M' s p n back).F b := by
    intro b hb
    simp only [muOut]
    split
    · exact hb
    · exact hst.F1 b (.inl hb)
  have F2 : ∀ b, (muOut M M' s p n back).F b → M'.F b := by
    intro b hb
    simp only [muOut] at hb
    split at hb
    · exact hst.F1 b (.inl hb)
    · exact hb
  have mOut : ∀ k, ¬ (s ≤ k ∧ k < s + 56) → (muOut M M' s p n back).m k = M.m k := by
    intro k hk
    simp only [muOut]
    rw [if_neg (by omega)]
  have noSite : ∀ k, (s ≤ k ∧ k < s + 56) → NoRef k t h := by
    intro k hk
    have := (hfresh (k - s) (by omega)).2
    rwa [show s + (k - s) = k by omega] at this
  have idsM : ∀ (b i : Nat), ids[b]? = some i → (muOut M M' s p n back).m i = M'.m (64 * b) := by
    intro b i hbi
    have hlt : b < p.bs.length := by have := (List.getElem?_eq_some_iff.1 hbi).1; simpa [ids] using this
    have hx : ∃ x, p.bs[b]? = some x ∧ x.1 = i := by
      simp only [ids, List.getElem?_map] at hbi
      cases hx : p.bs[b]? with
      | none => simp [hx] at hbi
      | some x => exact ⟨x, rfl, by simpa [hx] using hbi⟩
    obtain ⟨x, hx, rfl⟩ := hx
    rw [mOut _ (hsite' x.1 (by simp only [List.mem_append]; exact .inl (.inl (List.mem_of_getElem? hbi))))]
    rw [hbm b (by simpa [Pass.hp] using hlt), (muIn_box hx).1]
  have hren : ∀ {a : A} {u : Value}, RepA w' M' a u → okA n a = true → (back = true → noSl a = true) → RepA w' (muOut M M' s p n back) (ren s ids a) u := by
    intro a u ha hk hb
    refine ren_rep (back := back) (no := n) ?_ ?_ idsM ha hk hb
    · intro hbk b hb
      simp only [muOut, hbk, Bool.false_eq_true, if_false]; exact hb
    · intro id h1 h2
      simp only [muOut]
      rw [if_pos (by omega), show 8 + (s + (id - 8) - s) = id by omega]
  have hrenL : ∀ {a : List A} {u : List Value}, RepL w' M' a u → okL n a = true → (back = true → noSlL a = true) → RepL w' (muOut M M' s p n back) (renL s ids a) u := by
    intro a u ha hk hb
    refine ren_repL (back := back) (no := n) ?_ ?_ idsM ha hk hb
    · intro hbk b hb
      simp only [muOut, hbk, Bool.false_eq_true, if_false]; exact hb
    · intro id h1 h2
      simp only [muOut]
      rw [if_pos (by omega), show 8 + (s + (id - 8) - s) = id by omega]
  have backs : back = true → noSl r = true ∧ (∀ x ∈ H'.os, x.2.1 = true) ∧ ∀ x ∈ H'.bs, noSlL x.2 = true := by
    intro hb
    simp only [back, lentBack, Bool.and_eq_true] at hb
    exact ⟨hb.1.1, fun x hx => List.all_eq_true.1 hb.1.2 x hx, fun x hx => List.all_eq_true.1 hb.2 x hx⟩
  -- where the blocks of an object lie now
  have ownOut : ∀ id b, b ∈ (muOut M M' s p n back).own id →
      ((s ≤ id ∧ id < s + n) ∧ b ∈ M'.own (8 + (id - s))) ∨ (¬ (s ≤ id ∧ id < s + n) ∧ ∃ k, idx ids id = some k ∧ b ∈ M'.own (64 * k)) ∨
      (¬ (s ≤ id ∧ id < s + n) ∧ id ∉ ids ++ p.os.map (·.1) ∧ b ∈ M.own id ∧ (id ∈ p.br → back = true)) := by
    intro id b hb
    simp only [muOut] at hb
    split at hb
    · rename_i hq; exact .inl ⟨hq, hb⟩
    · rename_i hq
      split at hb
      · rename_i k hk; exact .inr (.inl ⟨hq, k, hk, hb⟩)
      · rename_i hk
        split at hb
        · cases hb
        · rename_i hm
          refine .inr (.inr ⟨hq, ?_, ?_⟩)
          · rw [List.mem_append]
            rintro (q | q)
            · exact idx_none hk q
            · exact hm (by rw [List.contains_eq_mem]; simpa using q)
          · split at hb
            · rename_i hbr
              split at hb
              · rename_i hbk; exact ⟨hb, fun _ => hbk⟩
              · cases hb
            · rename_i hbr
              exact ⟨hb, fun q => absurd (by rw [List.contains_eq_mem]; simpa using q) hbr⟩
  have fromM' : ∀ k b, b ∈ M'.own k → (∃ i ∈ ids ++ p.os.map (·.1), b ∈ M.own i) ∨ w.heap.size ≤ b := by
    intro k b hb
    rcases hst.own k b hb with ⟨id, q⟩ | q
    · obtain ⟨i, hi, hbi⟩ := ownc id b q
      exact .inl ⟨i, cid_mem hi, hbi⟩
    · exact .inr q
  refine ⟨⟨fun i => ?_, fun id => ?_, fun i j hij b hb hb' => ?_, fun i b hb => ?_, fun b hb => hS.fz b (F2 b hb), hs.tab.mono fun b hb => ⟨F1 b hb, keptF b hb⟩⟩, hren hr hokr fun hb => (backs hb).1, ⟨hst.os, hst.tape, hst.output, hst.size, fun b hb hq => kept b hb fun i _ => hq i, F1, fun b hb => ?_, fun id b hb => ?_⟩, fun k hk => mOut k (by omega)⟩
  · exact RepA.mono (M := M) (M' := muOut M M' s p n back) (fun b hb => ⟨F1 b hb, keptF b hb⟩) (hs.tm i) fun k hk => mOut k fun hq => (noSite k hq).1 i hk
  · -- the objects
    have oldO : id ∉ ids ++ p.os.map (·.1) → ¬ (s ≤ id ∧ id < s + 56) → (muOut M M' s p n back).own id = M.own id → SimO P w' (muOut M M' s p n back) id (h id) := fun h1 h2 h3 =>
      SimO.mono (M := M) (M' := muOut M M' s p n back) (hs.ob id) (fun b hb => ⟨F1 b hb, keptF b hb⟩) (keptO id h1) (mOut id h2) h3 fun k hk => mOut k fun hq => (noSite k hq).2 id hk
    unfold backH
    split
    · rename_i hq
      have hlt : id - s < H'.os.length := by omega
      have hx : H'.os[id - s]? = some H'.os[id - s] := List.getElem?_eq_getElem hlt
      rw [hx]
      have ho := hS.ob (8 + (id - s))
      have e1 : ¬ (8 + (id - s)) % 64 = 0 := by omega
      have e2 : 8 ≤ 8 + (id - s) ∧ 8 + (id - s) < 64 := by omega
      have e3 : 8 + (id - s) - 8 = id - s := by omega
      simp only [hpH, e1, if_false, e2, and_self, if_true, e3, hx] at ho
      have hm : (muOut M M' s p n back).m id = M'.m (8 + (id - s)) := by simp only [muOut]; rw [if_pos hq]
      have hown : (muOut M M' s p n back).own id = M'.own (8 + (id - s)) := by simp only [muOut]; rw [if_pos hq]
      simp only [SimO, SimArr] at ho ⊢
      rw [hm, hown]
      cases hmm : M'.m (8 + (id - s)) with
      | none => rw [hmm] at ho; exact ho
      | some bc =>
        obtain ⟨b, c⟩ := bc
        rw [hmm] at ho
        obtain ⟨cur, vs', Bs, q1, q2, q3, q4, q5, q6, q7, q8⟩ := ho
        refine ⟨cur, vs', Bs, q1, q2, q3, q4, q5, q6, fun i j x hx' => ?_, q8⟩
        obtain ⟨r1, r2, r3⟩ := q7 i j x hx'
        refine ⟨r1, ?_, r3⟩
        cases hb : back with
        | false =>
          have : (muOut M M' s p n false).F = M'.F := by simp [muOut]
          rw [this]; exact r2
        | true =>
          have := (backs hb).2.1 _ (List.getElem_mem hlt)
          rw [this] at r2 ⊢
          exact r2
    · rename_i hq
      split
      · rename_i k hk
        have hidk := idx_some hk
        have hsid : ¬ (s ≤ id ∧ id < s + 56) := hsite' id (by simp only [List.mem_append]; exact .inl (.inl (List.mem_of_getElem? hidk)))
        have hklt : k < H'.bs.length := by
          have := (List.getElem?_eq_some_iff.1 hidk).1
          rw [hbl]; simpa using this
        have hx : H'.bs[k]? = some H'.bs[k] := List.getElem?_eq_getElem hklt
        rw [hx]
        have ho := hS.ob (64 * k)
        have e1 : 64 * k % 64 = 0 := by omega
        have e2 : 64 * k / 64 = k := by omega
        simp only [hpH, e1, if_true, e2, hx] at ho
        simp only [SimO] at ho ⊢
        obtain ⟨b, c, vs', q1, q2, q3, q4⟩ := ho
        refine ⟨b, c, vs', by rw [idsM k id hidk, q1], ?_, q3, hrenL q4 (hokb _ (List.getElem_mem hklt)) fun hb => (backs hb).2.2 _ (List.getElem_mem hklt)⟩
        simp only [muOut]
        rw [if_neg hq, hk]
        exact q2
      · rename_i hk
        have hnid : id ∉ ids := idx_none hk
        split
        · rename_i hm
          simp only [SimO, muOut]
          rw [if_neg hq, hk]
          simp only [hm, if_true]
        · rename_i hm
          have hnm : id ∉ p.os.map (·.1) := fun q => hm (by rw [List.contains_eq_mem]; simpa using q)
          have hnn : id ∉ ids ++ p.os.map (·.1) := fun q => (List.mem_append.1 q).elim hnid hnm
          split
          · rename_i hbq
            have hbr2 : id ∈ p.br := by rw [List.contains_eq_mem] at hbq; simpa using hbq
            have hsid : ¬ (s ≤ id ∧ id < s + 56) := hsite' id (by simp only [List.mem_append]; exact .inr hbr2)
            split
            · rename_i hbk
              refine oldO hnn hsid ?_
              simp only [muOut]
              rw [if_neg hq, hk]
              have hbk' : back = true := hbk
              simp only [hm, if_false, Bool.false_eq_true, hbq, if_true, hbk']
            · rename_i hbk
              have hbk' : back = false := by simpa using hbk
              obtain ⟨ty, own, es, hi⟩ := hg.2.2 id hbr2
              have ho := hs.ob id
              rw [hi] at ho ⊢
              simp only [SimO, SimArr, frzO] at ho ⊢
              have hFo : ∀ b ∈ M.own id, (muOut M M' s p n back).F b := by
                intro b hb
                simp only [muOut, hbk', Bool.false_eq_true, if_false]
                exact hst.F1 b (.inr ⟨id, hbr2, hb⟩)
              refine ⟨?_, ?_⟩
              · simp only [muOut]
                rw [if_neg hq, hk]
                simp only [hm, if_false, Bool.false_eq_true, hbq, if_true, hbk']
              · rw [mOut id hsid]
                cases hmm : M.m id with
                | none => rw [hmm] at ho; exact ho.1
                | some bc =>
                  obtain ⟨b, c⟩ := bc
                  rw [hmm] at ho
                  obtain ⟨cur, vs', Bs, q1, q2, q3, q4, q5, q6, q7, q8⟩ := ho
                  refine ⟨q1, szT P ty, vs', q3, fun i j x hx => ?_⟩
                  obtain ⟨r1, r2, r3⟩ := q7 i j x hx
                  refine ⟨hFo b q6, ?_, ?_⟩
                  · rw [cell_same (w := w) (keptO id hnn b q6), cell_block q4]; exact r1
                  · cases own with
                    | true => exact (RepX.rep r2 (F := fun b' => b' ∈ Bs i j) fun _ h => h).mono fun b' hb' => ⟨hFo b' (r3 b' hb').1, keptO id hnn b' (r3 b' hb').1⟩
                    | false => exact r2.2.mono fun b' hb' => ⟨F1 b' hb', keptF b' hb'⟩
          · rename_i hbq
            by_cases hsid : s ≤ id ∧ id < s + 56
            · have h0 := (hfresh (id - s) (by omega)).1
              rw [show s + (id - s) = id by omega] at h0
              have hown : (muOut M M' s p n back).own id = [] := by
                simp only [muOut]
                rw [if_neg hq, hk]
                simp only [hm, if_false, Bool.false_eq_true, hbq, h0]
              exact SimO.mono (M := M) (M' := ⟨upd (muOut M M' s p n back).m id (M.m id), (muOut M M' s p n back).own, (muOut M M' s p n back).F⟩) (hs.ob id) (fun b hb => ⟨F1 b hb, keptF b hb⟩) (keptO id hnn) (upd_same _ _ _) (by simp only; rw [hown, h0]) (fun k hk' => by
                by_cases e : k = id
                · rw [e]; exact upd_same _ _ _
                · exact (upd_ne _ _ e).trans (mOut k fun hq' => (noSite k hq').2 id hk')) |> fun q => by
                  have e : (muOut M M' s p n back).m id = M.m id := by simp only [muOut]; rw [if_neg hq]
                  rw [← e, upd_self] at q
                  exact q
            · refine oldO hnn hsid ?_
              simp only [muOut]
              rw [if_neg hq, hk]
              simp only [hm, if_false, Bool.false_eq_true, hbq]
  · -- disjoint
    rcases ownOut i b hb with ⟨q1, q2⟩ | ⟨q1, k, qk, q2⟩ | ⟨q1, q3, q2, _⟩ <;> rcases ownOut j b hb' with ⟨r1, r2⟩ | ⟨r1, l, rl, r2⟩ | ⟨r1, r3, r2, _⟩
    · exact hS.dis (8 + (i - s)) (8 + (j - s)) (by omega) b q2 r2
    · exact hS.dis (8 + (i - s)) (64 * l) (by omega) b q2 r2
    · rcases fromM' _ b q2 with ⟨i', hi', hbi⟩ | hbig
      · exact hs.dis j i' (fun e => r3 (by rw [e]; exact hi')) b r2 hbi
      · have := (hs.nf j b r2).2; omega
    · exact hS.dis (64 * k) (8 + (j - s)) (by omega) b q2 r2
    · refine hS.dis (64 * k) (64 * l) (fun e => ?_) b q2 r2
      have : k = l := by omega
      subst this
      have h1 := idx_some qk
      have h2 := idx_some rl
      rw [h1] at h2
      injection h2 with h2
      exact hij h2
    · rcases fromM' _ b q2 with ⟨i', hi', hbi⟩ | hbig
      · exact hs.dis j i' (fun e => r3 (by rw [e]; exact hi')) b r2 hbi
      · have := (hs.nf j b r2).2; omega
    · rcases fromM' _ b r2 with ⟨i', hi', hbi⟩ | hbig
      · exact hs.dis i i' (fun e => q3 (by rw [e]; exact hi')) b q2 hbi
      · have := (hs.nf i b q2).2; omega
    · rcases fromM' _ b r2 with ⟨i', hi', hbi⟩ | hbig
      · exact hs.dis i i' (fun e => q3 (by rw [e]; exact hi')) b q2 hbi
      · have := (hs.nf i b q2).2; omega
    · exact hs.dis i j hij b q2 r2
  · -- not frozen
    rcases ownOut i b hb with ⟨q1, q2⟩ | ⟨q1, k, qk, q2⟩ | ⟨q1, q3, q2, q4⟩
    · exact ⟨fun hF => (hS.nf _ b q2).1 (F2 b hF), (hS.nf _ b q2).2⟩
    · exact ⟨fun hF => (hS.nf _ b q2).1 (F2 b hF), (hS.nf _ b q2).2⟩
    · refine ⟨fun hF => ?_, Nat.lt_of_lt_of_le (hs.nf i b q2).2 hst.size⟩
      simp only [muOut] at hF
      split at hF
      · exact (hs.nf i b q2).1 hF
      · rename_i hbk
        rcases hst.F2 b hF with q | ⟨id, q⟩ | q
        · rcases q with q | ⟨j, hj, q⟩
          · exact (hs.nf i b q2).1 q
          · refine hs.dis i j (fun e => ?_) b q2 q
            subst e
            exact hbk (q4 hj)
        · obtain ⟨i', hi', hbi⟩ := ownc id b q
          exact hs.dis i i' (fun e => q3 (by rw [e]; exact cid_mem hi')) b q2 hbi
        · have := (hs.nf i b q2).2; omega
  · rcases hst.F2 b (F2 b hb) with q | ⟨id, q⟩ | q
    · rcases q with q | ⟨j, hj, q⟩
      · exact .inl q
      · exact .inr (.inl ⟨j, q⟩)
    · obtain ⟨i', hi', hbi⟩ := ownc id b q
      exact .inr (.inl ⟨i', hbi⟩)
    · exact .inr (.inr q)
  · rcases ownOut id b hb with ⟨q1, q2⟩ | ⟨q1, k, qk, q2⟩ | ⟨q1, q3, q2, q4⟩
    · rcases fromM' _ b q2 with ⟨i', _, hbi⟩ | hbig
      · exact .inl ⟨i', hbi⟩
      · exact .inr hbig
    · rcases fromM' _ b q2 with ⟨i', _, hbi⟩ | hbig
      · exact .inl ⟨i', hbi⟩
      · exact .inr hbig
    · exact .inl ⟨id, q2⟩
end
end Go.AX

namespace Go.AX
section
variable {P : Program}

/-! ### an operation looks at its operands alone -/
theorem map_congr' {ι : Type} {xs : List ι} {f g : ι → A} (h : ∀ x ∈ xs, f x = g x) : xs.map f = xs.map g := List.map_congr_left h
theorem opt_congr {ρ σ : Operand → A} {x : Option Operand} (h : ∀ y ∈ x.toList, ρ y = σ y) : x.map ρ = x.map σ := by
  cases x with
  | none => rfl
  | some y => simp [h y (by simp)]
theorem pureA_congr {o : Op} {ρ σ : Operand → A} (h : ∀ x ∈ o.operands.toList, ρ x = σ x) : pureA P o ρ = pureA P o σ := by
  unfold pureA
  split
  · rw [h _ (by simp [Op.operands])]
  · rw [h _ (by simp [Op.operands])]
  · rename_i c a b
    rw [h c (by simp [Op.operands]), h a (by simp [Op.operands]), h b (by simp [Op.operands])]
  · rename_i t ps
    rw [show (ps.toList.map fun x => (x.1, ρ x.2)) = ps.toList.map fun x => (x.1, σ x.2) from List.map_congr_left fun x hx => by rw [h x.2 (by simp only [Op.operands, List.toList_toArray, List.mem_map]; exact ⟨x, hx, rfl⟩)]]
  · rw [h _ (by simp [Op.operands])]
  · rename_i op t x y t'
    rw [h x (by simp [Op.operands]), h y (by simp [Op.operands])]
  · rw [h _ (by simp [Op.operands])]
  · rw [h _ (by simp [Op.operands])]
  · rename_i t x lo hi
    rw [h x (by simp [Op.operands]), opt_congr (ρ := ρ) (σ := σ) (x := lo) (fun y hy => h y (by simp [Op.operands]; right; left; simpa using hy)), opt_congr (ρ := ρ) (σ := σ) (x := hi) (fun y hy => h y (by simp [Op.operands]; right; right; simpa using hy))]
  · rw [h _ (by simp [Op.operands])]
  · rw [h _ (by simp [Op.operands])]
  · rename_i t x i
    rw [h x (by simp [Op.operands]), h i (by simp [Op.operands])]
  · rename_i t x i
    rw [h x (by simp [Op.operands]), h i (by simp [Op.operands])]
  · rename_i f first cap
    rw [map_congr' (xs := cap.toList) (f := ρ) (g := σ) fun x hx => h x (by simp only [Op.operands, Array.toList_append, List.mem_append]; exact .inr hx)]
  · rw [h _ (by simp [Op.operands])]
  · rename_i xs ts
    split
    · rename_i x t hx ht
      rw [h x (by simp [Op.operands, Call.operands, hx])]
    · rfl
  · rename_i xs ts
    split
    · rename_i x y hx
      rw [h x (by simp [Op.operands, Call.operands, hx]), h y (by simp [Op.operands, Call.operands, hx])]
    · rfl
  · rename_i xs ts
    split
    · rename_i x y hx
      rw [h x (by simp [Op.operands, Call.operands, hx]), h y (by simp [Op.operands, Call.operands, hx])]
    · rfl
  · rfl
theorem memA_congr {o : Op} {s : Nat} {ρ σ : Operand → A} {h : Heap} (hq : ∀ x ∈ o.operands.toList, ρ x = σ x) : memA P o s ρ h = memA P o s σ h := by
  unfold memA
  split
  · rfl
  · rw [hq _ (by simp [Op.operands])]
  · rename_i t n ps
    rw [show (ps.toList.map fun x => (x.1, ρ x.2)) = ps.toList.map fun x => (x.1, σ x.2) from List.map_congr_left fun x hx => by rw [hq x.2 (by simp only [Op.operands, List.toList_toArray, List.mem_map]; exact ⟨x, hx, rfl⟩)]]
  · rw [hq _ (by simp [Op.operands])]
  · rename_i t a x
    rw [hq a (by simp [Op.operands]), hq x (by simp [Op.operands])]
  · rename_i t l c
    rw [hq l (by simp [Op.operands]), hq c (by simp [Op.operands])]
  · rename_i xs ts
    split
    · rename_i x y t u hx ht
      rw [hq x (by simp [Op.operands, Call.operands, hx]), hq y (by simp [Op.operands, Call.operands, hx])]
    · rfl
  · rename_i src dst x
    rw [hq x (by simp [Op.operands])]
  · rfl

/-! ### which objects a result may name -/
theorem refs_ofV (v : Value) : refsA (ofV v) = [] := by
  unfold ofV
  split
  · simp only [refsA]; exact refs_map_ofLeaf _
  · exact refs_ofLeaf _
theorem refs_val {id : Nat} {st : St} (h : ∀ i, id ∉ refsA (st.t i)) (x : Operand) : id ∉ refsA (val st x) := by
  cases x with
  | tmp i => exact h i
  | const v => simp [val, refs_ofV]
  | global g => simp [val, refsA]
  | func f => simp [val, refsA, refsL]
theorem not_refsL {id : Nat} {l : List A} : (id ∉ refsL l) ↔ ∀ a ∈ l, id ∉ refsA a := by
  induction l with
  | nil => simp [refsL]
  | cons a l ih => simp [refsL, ih]
theorem leafs_refs {id : Nat} {a : A} {l : List A} (h : leafs a = some l) (hn : id ∉ refsA a) : id ∉ refsL l := by
  cases a with
  | agg cs => simp [leafs] at h; subst h; simpa [refsA] using hn
  | tup cs => simp [leafs] at h
  | junk => simp [leafs] at h
  | _ => simp [leafs] at h; subst h; simpa [refsL] using hn
theorem putAt_mem {α : Type} {cs xs : List α} {off : Nat} {a : α} (h : a ∈ putAt cs off xs) : a ∈ cs ∨ a ∈ xs := by
  unfold putAt at h
  simp only [List.mem_append] at h
  rcases h with (h | h) | h
  · exact .inl (List.mem_of_mem_take h)
  · exact .inr h
  · exact .inl (List.mem_of_mem_drop h)
theorem fillA_refs {id : Nat} {fs : Nat → Option (Nat × Nat)} : ∀ {parts : List (Nat × A)} {cells r : List A}, fillA P fs cells parts = some r → id ∉ refsL cells → (∀ p ∈ parts, id ∉ refsA p.2) → id ∉ refsL r
  | [], cells, r, h, hc, _ => by simp [fillA] at h; subst h; exact hc
  | (i, v) :: parts, cells, r, h, hc, hp => by
    simp only [fillA] at h
    split at h
    · rename_i off size l hf hl
      split at h
      · refine fillA_refs h ?_ fun p hq => hp p (by simp [hq])
        rw [not_refsL]
        intro a ha
        rcases putAt_mem ha with q | q
        · exact not_refsL.1 hc a q
        · exact not_refsL.1 (leafs_refs hl (hp (i, v) (by simp))) a q
      · cases h
    · cases h
theorem pureA_refs {id : Nat} {o : Op} {ρ : Operand → A} (hρ : ∀ x, id ∉ refsA (ρ x)) {r : A} (h : pureA P o ρ = some r) : id ∉ refsA r := by
  unfold pureA at h
  split at h
  · injection h with h; subst h; exact hρ _
  · injection h with h; subst h; exact hρ _
  · split at h
    · injection h with h; subst h; exact hρ _
    · injection h with h; subst h; exact hρ _
    · cases h
  · rename_i t ps
    unfold buildA at h
    split at h
    · rename_i z fs hz hu
      split at h
      · cases hf : fillA P (fun i => (fldT P t i).map fun x => (x.1, szT P x.2)) z (ps.toList.map fun x => (x.1, ρ x.2)) with
        | none => simp [hf] at h
        | some r' =>
          simp [hf] at h; subst h
          simp only [refsA]
          exact fillA_refs hf (by rw [refs_zeroT hz]; simp) fun p hp => by
            simp only [List.mem_map] at hp; obtain ⟨x, _, rfl⟩ := hp; exact hρ _
      · cases h
    · rename_i z n e hz hu
      split at h
      · cases hf : fillA P (fun i => some (i * szT P e, szT P e)) z (ps.toList.map fun x => (x.1, ρ x.2)) with
        | none => simp [hf] at h
        | some r' =>
          simp [hf] at h; subst h
          simp only [refsA]
          exact fillA_refs hf (by rw [refs_zeroT hz]; simp) fun p hp => by
            simp only [List.mem_map] at hp; obtain ⟨x, _, rfl⟩ := hp; exact hρ _
      · cases h
    · cases h
  · rename_i x
    have hx := hρ x
    split at h <;> first
      | (rename_i hq; injection h with h; subst h; rw [hq] at hx; exact hx)
      | cases h
  · unfold binA at h
    split at h
    · split at h
      · split at h
        · injection h with h; subst h; simp [refsA]
        · cases h
      · split at h
        · injection h with h; subst h; simp [refsA]
        · cases h
      · split at h
        · split at h <;> first
            | (injection h with h; subst h; simp [refsA])
            | (split at h
               · cases h
               · injection h with h; subst h; simp [refsA])
            | cases h
        · cases h
    · split at h <;> first
        | (split at h
           · injection h with h; subst h; simp [refsA]
           · cases h)
        | cases h
    · split at h <;> first
        | (simp only [Option.map_eq_some_iff] at h; obtain ⟨b, _, rfl⟩ := h; simp [refsA])
        | cases h
    · split at h <;> first
        | (split at h
           · injection h with h; subst h; simp [refsA]
           · cases h)
        | cases h
    · split at h <;> first
        | (split at h
           · injection h with h; subst h; simp [refsA]
           · cases h)
        | cases h
    · split at h <;> first
        | (split at h
           · injection h with h; subst h; simp [refsA]
           · cases h)
        | cases h
    · split at h <;> first
        | (injection h with h; subst h; simp [refsA])
        | (split at h
           · injection h with h; subst h; simp [refsA]
           · cases h)
        | cases h
    · cases h
  · unfold unA at h
    split at h
    · split at h
      · injection h with h; subst h; simp [refsA]
      · cases h
    · split at h
      · injection h with h; subst h; simp [refsA]
      · cases h
    · cases h
  · unfold convA at h
    split at h
    · split at h
      · injection h with h; subst h; simp [refsA]
      · cases h
    · split at h
      · injection h with h; subst h; simp [refsA]
      · cases h
    · cases h
  · rename_i t x lo hi
    have hx := hρ x
    unfold sliceA at h
    split at h
    · split at h
      · split at h
        · split at h
          · injection h with h; subst h; simp [refsA]
          · cases h
        · cases h
      · rename_i hq
        rw [hq] at hx
        split at h
        · split at h
          · injection h with h; subst h; exact hx
          · cases h
        · cases h
      · split at h
        · split at h
          · injection h with h; subst h; simp [refsA]
          · cases h
        · cases h
      · split at h
        · split at h
          · injection h with h; subst h; simp [refsA]
          · cases h
        · cases h
      · cases h
    · cases h
  · rename_i s x f
    have hx := hρ x
    unfold fldA at h
    split at h
    · rename_i hq
      rw [hq] at hx
      split at h
      · split at h
        · cases h
        · injection h with h; subst h; exact hx
      · cases h
    · rename_i hq
      rw [hq] at hx
      split at h
      · split at h
        · cases h
        · injection h with h; subst h; exact hx
      · cases h
    · split at h
      · split at h
        · cases h
        · injection h with h; subst h; simp [refsA]
      · cases h
    · cases h
  · rename_i t x f
    have hx := hρ x
    split at h
    · rename_i cs off u hq hf
      rw [hq] at hx
      simp only [refsA] at hx
      unfold partA at h
      split at h
      · cases h
      · split at h
        · split at h
          · injection h with h; subst h
            simp only [refsA]
            rw [not_refsL] at hx ⊢
            exact fun a ha => hx a (List.mem_of_mem_drop (List.mem_of_mem_take ha))
          · cases h
        · exact not_refsL.1 hx r (List.mem_of_getElem? h)
    · cases h
  · rename_i t x i
    have hx := hρ x
    unfold idxA at h
    split at h
    · split at h
      · split at h
        · split at h
          · split at h
            · injection h with h; subst h; simp [refsA]
            · cases h
          · cases h
        · cases h
      · cases h
    · rename_i hq _
      rw [hq] at hx
      split at h
      · split at h
        · injection h with h; subst h; exact hx
        · cases h
      · cases h
    · cases h
  · unfold indexA at h
    split at h
    · split at h
      · split at h
        · split at h
          · injection h with h; subst h; simp [refsA]
          · cases h
        · cases h
      · cases h
    · cases h
  · split at h
    · injection h with h; subst h
      simp only [refsA]
      rw [not_refsL]
      intro a ha
      simp only [List.mem_map] at ha
      obtain ⟨x, _, rfl⟩ := ha
      exact hρ x
    · cases h
  · rename_i x i
    have hx := hρ x
    split at h
    · rename_i vs hq
      rw [hq] at hx
      simp only [refsA] at hx
      exact not_refsL.1 hx r (List.mem_of_getElem? h)
    · cases h
  · have len : ∀ {a r : A}, lenA a = some r → id ∉ refsA r := by
      intro a r h
      unfold lenA at h
      split at h <;> first
        | (injection h with h; subst h; simp [refsA])
        | cases h
    split at h
    · split at h
      · split at h
        · cases h
        · exact len h
      · split at h
        · exact len h
        · cases h
      · cases h
    · cases h
  · split at h
    · split at h
      · split at h
        · injection h with h; subst h; simp [refsA]
        · cases h
      · cases h
    · cases h
  · split at h
    · split at h
      · split at h
        · injection h with h; subst h; simp [refsA]
        · cases h
      · cases h
    · cases h
  · cases h
end
end Go.AX

namespace Go.AX
section
variable {P : Program}

def Agr (T : List Nat) (u h : Heap) : Prop := ∀ id, id ∈ T → u id = h id
def Sh (T : List Nat) (h1 u u1 : Heap) : Prop := (∀ id, id ∈ T → u1 id = h1 id) ∧ ∀ id, id ∉ T → u1 id = u id
theorem Agr.sub {T T' : List Nat} {u h : Heap} (ha : Agr T u h) (hs : ∀ i ∈ T', i ∈ T) : Agr T' u h := fun i hi => ha i (hs i hi)
theorem Sh.agr {T : List Nat} {h1 u u1 : Heap} (h : Sh T h1 u u1) : Agr T u1 h1 := h.1
theorem Sh.refl {T : List Nat} {h u : Heap} (ha : Agr T u h) : Sh T h u u := ⟨ha, fun _ _ => rfl⟩
/-- At more places, which were left alone. -/
theorem Sh.sup {T T' : List Nat} {h h1 u u1 : Heap} (hs : Sh T h1 u u1) (hk : ∀ id, id ∉ T → h1 id = h id) (ha : Agr T' u h) (hsub : ∀ i ∈ T, i ∈ T') : Sh T' h1 u u1 := by
  refine ⟨fun id hid => ?_, fun id hid => hs.2 id fun q => hid (hsub id q)⟩
  by_cases hq : id ∈ T
  · exact hs.1 id hq
  · rw [hs.2 id hq, hk id hq, ha id hid]
theorem Agr.step {T T' : List Nat} {h h1 u u1 : Heap} (ha : Agr T' u h) (hs : Sh T h1 u u1) (hk : ∀ id, id ∉ T → h1 id = h id) : Agr T' u1 h1 := by
  intro id hid
  by_cases hq : id ∈ T
  · exact hs.1 id hq
  · rw [hs.2 id hq, hk id hq, ha id hid]
theorem Sh.trans {T : List Nat} {h1 h2 u u1 u2 : Heap} (h : Sh T h1 u u1) (h' : Sh T h2 u1 u2) : Sh T h2 u u2 :=
  ⟨h'.1, fun id hid => (h'.2 id hid).trans (h.2 id hid)⟩
theorem Sh.upd {h u : Heap} (id : Nat) (o : O) : Sh [id] (upd h id o) u (upd u id o) :=
  ⟨fun i hi => by simp only [List.mem_singleton] at hi; subst hi; rw [upd_same, upd_same], fun i hi => upd_ne _ _ (by simpa using hi)⟩
theorem keep_upd {h : Heap} {id : Nat} {o : O} : ∀ i, i ∉ [id] → Go.AX.upd h id o i = h i := fun i hi => upd_ne _ _ (by simpa using hi)

theorem sink_loc : ∀ (l : List A) {h h1 : Heap} {xs : List D} {o : Bool}, sink h l = some (xs, o, h1) → (∀ id, id ∉ refsL l → h1 id = h id) ∧ ∀ u, Agr (refsL l) u h → ∃ u1, sink u l = some (xs, o, u1) ∧ Sh (refsL l) h1 u u1
  | [], h, h1, xs, o, hk => by
    simp only [sink, Option.some.injEq, Prod.mk.injEq] at hk
    obtain ⟨rfl, rfl, rfl⟩ := hk
    exact ⟨fun _ _ => rfl, fun u ha => ⟨u, rfl, Sh.refl ha⟩⟩
  | a :: l, h, h1, xs, o, hk => by
    simp only [sink] at hk
    split at hk
    · rename_i x o1 h' heq
      split at hk
      · rename_i xs' o2 h2 hl
        simp only [Option.some.injEq, Prod.mk.injEq] at hk
        obtain ⟨rfl, rfl, rfl⟩ := hk
        obtain ⟨k1, k2⟩ := sink_loc l hl
        -- one cell
        have one : (∀ id, id ∉ refsA a → h' id = h id) ∧ ∀ u, Agr (refsA a) u h → ∃ u', (∀ xs o2 h2, sink u' l = some (xs, o2, h2) → sink u (a :: l) = some (x :: xs, o1 && o2, h2)) ∧ Sh (refsA a) h' u u' := by
          cases a with
          | d y =>
            cases y <;>
              (simp only [Option.some.injEq, Prod.mk.injEq] at heq
               obtain ⟨rfl, rfl, rfl⟩ := heq
               exact ⟨fun _ _ => rfl, fun u ha => ⟨u, fun xs o2 h2 q => by simp only [sink, q], Sh.refl ha⟩⟩)
          | es =>
            simp only [Option.some.injEq, Prod.mk.injEq] at heq
            obtain ⟨rfl, rfl, rfl⟩ := heq
            exact ⟨fun _ _ => rfl, fun u ha => ⟨u, fun xs o2 h2 q => by simp only [sink, q], Sh.refl ha⟩⟩
          | dp cs =>
            simp only [Option.some.injEq, Prod.mk.injEq] at heq
            obtain ⟨rfl, rfl, rfl⟩ := heq
            exact ⟨fun _ _ => rfl, fun u ha => ⟨u, fun xs o2 h2 q => by simp only [sink, q], Sh.refl ha⟩⟩
          | os id n =>
            simp only [refsA]
            simp only at heq
            split at heq
            · rename_i ty own es hi
              split at heq
              · rename_i hn
                simp only [Option.some.injEq, Prod.mk.injEq] at heq
                obtain ⟨rfl, rfl, rfl⟩ := heq
                refine ⟨keep_upd, fun u ha => ⟨upd u id .dead, fun xs o2 h2 q => ?_, Sh.upd _ _⟩⟩
                simp only [sink, ha id (by simp), hi, if_pos hn, q]
              · cases heq
            · rename_i es hi
              split at heq
              · rename_i hn
                simp only [Option.some.injEq, Prod.mk.injEq] at heq
                obtain ⟨rfl, rfl, rfl⟩ := heq
                refine ⟨fun _ _ => rfl, fun u ha => ⟨u, fun xs o2 h2 q => ?_, Sh.refl ha⟩⟩
                simp only [sink, ha id (by simp), hi, if_pos hn, q]
              · cases heq
            · cases heq
          | _ => cases heq
        obtain ⟨p1, p2⟩ := one
        simp only [refsL, List.mem_append, not_or]
        refine ⟨fun id hid => (k1 id hid.2).trans (p1 id hid.1), fun u ha => ?_⟩
        obtain ⟨u', q1, q2⟩ := p2 u (ha.sub fun i hi => by simp [hi])
        obtain ⟨u1, r1, r2⟩ := k2 u' ((ha.sub fun i hi => by simp [hi]).step q2 p1)
        refine ⟨u1, ?_, ?_⟩
        · exact q1 _ _ _ r1
        · have hagr : Agr (refsA a ++ refsL l) u h := ha.sub fun i hi => by simpa [refsL] using hi
          exact (q2.sup p1 hagr (by simp +contextual)).trans (r2.sup k1 (hagr.step q2 p1) (by simp +contextual))
      · cases hk
    · cases hk

theorem rd_loc {h u : Heap} {n : Nat} {a : A} (ha : Agr (refsA a) u h) : rd u n a = rd h n a := by
  cases a <;> first
    | rfl
    | (simp only [rd]; rw [ha _ (by simp [refsA])])

/-- The objects that a store through a looks at: a box takes what it is given as it is. -/
def stRefs (a : A) (r : List Nat) : List Nat :=
  match a with
  | .ptr id _ => [id]
  | b => refsA b ++ r
theorem stRefs_sub {a : A} {r : List Nat} {i : Nat} (h : i ∈ stRefs a r) : i ∈ refsA a ∨ i ∈ r := by
  unfold stRefs at h
  split at h
  · simp only [List.mem_singleton] at h; subst h; exact .inl (by simp [refsA])
  · exact List.mem_append.1 h
theorem wr_loc {h h1 : Heap} {l : List A} {a : A} (hk : wr h l a = some h1) : (∀ id, id ∉ stRefs a (refsL l) → h1 id = h id) ∧ ∀ u, Agr (stRefs a (refsL l)) u h → ∃ u1, wr u l a = some u1 ∧ Sh (stRefs a (refsL l)) h1 u u1 := by
  unfold wr at hk
  split at hk
  · rename_i id off
    split at hk
    · rename_i ty cs hi
      split at hk
      · rename_i hn
        simp only [Option.some.injEq] at hk
        subst hk
        simp only [stRefs]
        refine ⟨fun i q => upd_ne _ _ (by simpa using q), fun u ha => ⟨upd u id (.box ty (putAt cs off l)), ?_, (Sh.upd id _).sup (h := h) keep_upd ha (by simp)⟩⟩
        simp only [wr, ha id (by simp), hi, if_pos hn]
      · cases hk
    · cases hk
  · rename_i id i sz off
    split at hk
    · rename_i xs o h' hs
      split at hk
      · rename_i ty own es hi
        split at hk
        · rename_i cs hc
          split at hk
          · rename_i hn
            simp only [Option.some.injEq] at hk
            subst hk
            simp only [stRefs, refsA]
            obtain ⟨k1, k2⟩ := sink_loc l hs
            refine ⟨fun j q => ?_, fun u ha => ?_⟩
            · simp only [List.singleton_append, List.mem_cons, not_or] at q
              rw [upd_ne _ _ q.1, k1 j q.2]
            · obtain ⟨u', q1, q2⟩ := k2 u (ha.sub (by simp +contextual))
              have a1 : Agr ([id] ++ refsL l) u' h' := ha.step q2 k1
              refine ⟨upd u' id (.arr ty (own && o) (es.set i (putAt cs off xs))), ?_, (q2.sup k1 ha (by simp +contextual)).trans ((Sh.upd id _).sup (h := h') keep_upd a1 (by simp))⟩
              simp only [wr, q1, a1 id (by simp), hi, hc, if_pos hn]
          · cases hk
        · cases hk
      · cases hk
    · cases hk
  · cases hk

theorem litL_refs {sz : Nat} : ∀ {parts : List (Nat × A)} {k : Nat} {l : List A}, litL sz k parts = some l → ∀ i ∈ refsL l, i ∈ refsL (parts.map (·.2))
  | [], k, l, h => by simp [litL] at h; subst h; simp [refsL]
  | (j, v) :: parts, k, l, h => by
    simp only [litL] at h
    split at h
    · rename_i l0 hl
      split at h
      · split at h
        · rename_i l' hl'
          injection h with h; subst h
          intro i hi
          rw [refsL_append, List.mem_append] at hi
          simp only [List.map_cons, refsL, List.mem_append]
          rcases hi with hi | hi
          · refine .inl (Classical.byContradiction fun q => ?_)
            exact leafs_refs hl q hi
          · exact .inr (litL_refs hl' i hi)
        · cases h
      · cases h
    · cases h
theorem litA_loc {h h1 : Heap} {sz : Nat} {parts : List (Nat × A)} {es : List (List D)} {o : Bool} (hk : litA h sz parts = some (es, o, h1)) :
    (∀ id, id ∉ refsL (parts.map (·.2)) → h1 id = h id) ∧ ∀ u, Agr (refsL (parts.map (·.2))) u h → ∃ u1, litA u sz parts = some (es, o, u1) ∧ Sh (refsL (parts.map (·.2))) h1 u u1 := by
  unfold litA at hk
  split at hk
  · rename_i l hl
    split at hk
    · rename_i xs o' h' hs
      simp only [Option.some.injEq, Prod.mk.injEq] at hk
      obtain ⟨rfl, rfl, rfl⟩ := hk
      obtain ⟨k1, k2⟩ := sink_loc l hs
      have hsub := litL_refs hl
      refine ⟨fun id hid => k1 id fun q => hid (hsub id q), fun u ha => ?_⟩
      obtain ⟨u1, q1, q2⟩ := k2 u (ha.sub hsub)
      exact ⟨u1, by simp only [litA, hl, q1], q2.sup k1 ha hsub⟩
    · cases hk
  · cases hk
theorem baseA_loc {h h1 : Heap} {e : TypeId} {a : A} {es : List (List D)} {o : Bool} (hk : baseA h e a = some (es, o, h1)) :
    (∀ id, id ∉ refsA a → h1 id = h id) ∧ ∀ u, Agr (refsA a) u h → ∃ u1, baseA u e a = some (es, o, u1) ∧ Sh (refsA a) h1 u u1 := by
  unfold baseA at hk
  split at hk
  · simp only [Option.some.injEq, Prod.mk.injEq] at hk
    obtain ⟨rfl, rfl, rfl⟩ := hk
    exact ⟨fun _ _ => rfl, fun u ha => ⟨u, rfl, Sh.refl ha⟩⟩
  · rename_i id n
    simp only [refsA]
    split at hk
    · rename_i e' own es' hi
      split at hk
      · rename_i hn
        simp only [Option.some.injEq, Prod.mk.injEq] at hk
        obtain ⟨rfl, rfl, rfl⟩ := hk
        refine ⟨keep_upd, fun u ha => ⟨upd u id .dead, ?_, Sh.upd _ _⟩⟩
        simp only [baseA, ha id (by simp), hi, if_pos hn]
      · cases hk
    · cases hk
  · cases hk
theorem moreA_loc {h h1 : Heap} {a : A} {es : List (List D)} {o : Bool} (hk : moreA h a = some (es, o, h1)) :
    (∀ id, id ∉ refsA a → h1 id = h id) ∧ ∀ u, Agr (refsA a) u h → ∃ u1, moreA u a = some (es, o, u1) ∧ Sh (refsA a) h1 u u1 := by
  unfold moreA at hk
  split at hk
  · simp only [Option.some.injEq, Prod.mk.injEq] at hk
    obtain ⟨rfl, rfl, rfl⟩ := hk
    exact ⟨fun _ _ => rfl, fun u ha => ⟨u, rfl, Sh.refl ha⟩⟩
  · simp only [Option.some.injEq, Prod.mk.injEq] at hk
    obtain ⟨rfl, rfl, rfl⟩ := hk
    exact ⟨fun _ _ => rfl, fun u ha => ⟨u, rfl, Sh.refl ha⟩⟩
  · rename_i id n
    simp only [refsA]
    split at hk
    · rename_i e' own es' hi
      split at hk
      · rename_i hn
        simp only [Option.some.injEq, Prod.mk.injEq] at hk
        obtain ⟨rfl, rfl, rfl⟩ := hk
        refine ⟨keep_upd, fun u ha => ⟨upd u id .dead, ?_, Sh.upd _ _⟩⟩
        simp only [moreA, ha id (by simp), hi, if_pos hn]
      · cases hk
    · rename_i es' hi
      split at hk
      · rename_i hn
        simp only [Option.some.injEq, Prod.mk.injEq] at hk
        obtain ⟨rfl, rfl, rfl⟩ := hk
        refine ⟨fun _ _ => rfl, fun u ha => ⟨u, ?_, Sh.refl ha⟩⟩
        simp only [moreA, ha id (by simp), hi, if_pos hn]
      · cases hk
    · cases hk
  · cases hk

/-- The objects that a memory operation looks at, and those that it changes. -/
def effM (o : Op) (s : Nat) (ρ : Operand → A) : List Nat × List Nat :=
  match o with
  | .alloc _ => ([s], [s])
  | .box _ _ => ([s], [s])
  | .makeSlice _ _ _ => ([s], [s])
  | .buildSlice _ _ ps => let l := s :: refsL (ps.toList.map fun x => ρ x.2); (l, l)
  | .load _ a => (refsA (ρ a), [])
  | .store _ a x => let l := stRefs (ρ a) (refsA (ρ x)); (l, l)
  | .call { callee := .builtin .append, args, .. } => let l := s :: refsL (args.toList.map ρ); (l, l)
  | .convert _ _ x => let l := refsA (ρ x); (l, l)
  | _ => ([], [])
theorem effM_sub (o : Op) (s : Nat) (ρ : Operand → A) : ∀ i ∈ (effM o s ρ).2, i ∈ (effM o s ρ).1 := by
  unfold effM
  split <;> simp
theorem effM_congr {o : Op} {s : Nat} {ρ σ : Operand → A} (h : ∀ x ∈ o.operands.toList, ρ x = σ x) : effM o s ρ = effM o s σ := by
  unfold effM
  split
  · rfl
  · rfl
  · rfl
  · rename_i t n ps
    rw [show (ps.toList.map fun x => ρ x.2) = ps.toList.map fun x => σ x.2 from List.map_congr_left fun x hx => by rw [h x.2 (by simp only [Op.operands, List.toList_toArray, List.mem_map]; exact ⟨x, hx, rfl⟩)]]
  · rw [h _ (by simp [Op.operands])]
  · rename_i t a x
    rw [h a (by simp [Op.operands]), h x (by simp [Op.operands])]
  · rename_i args ts
    rw [map_congr' (xs := args.toList) (f := ρ) (g := σ) fun x hx => h x (by simp only [Op.operands, Call.operands, Array.toList_append, List.mem_append]; exact .inr hx)]
  · rename_i src dst x
    rw [h x (by simp [Op.operands])]
  · rfl

theorem memA_loc {o : Op} {s : Nat} {ρ : Operand → A} {h h1 : Heap} {r : A} (hk : memA P o s ρ h = some (r, h1)) :
    (∀ id, id ∉ (effM o s ρ).2 → h1 id = h id) ∧ ∀ u, Agr (effM o s ρ).1 u h → ∃ u1, memA P o s ρ u = some (r, u1) ∧ Sh (effM o s ρ).2 h1 u u1 := by
  unfold memA at hk
  split at hk
  · rename_i t
    split at hk
    · rename_i z hz
      simp only [Option.some.injEq, Prod.mk.injEq] at hk
      obtain ⟨rfl, rfl⟩ := hk
      exact ⟨keep_upd, fun u ha => ⟨upd u s (.box t z), by simp only [memA, hz], Sh.upd _ _⟩⟩
    · cases hk
  · rename_i t x
    split at hk
    · rename_i l hl
      simp only [Option.some.injEq, Prod.mk.injEq] at hk
      obtain ⟨rfl, rfl⟩ := hk
      exact ⟨keep_upd, fun u ha => ⟨upd u s (.box t l), by simp only [memA, hl], Sh.upd _ _⟩⟩
    · cases hk
  · rename_i t n ps
    split at hk
    · rename_i e he
      split at hk
      · rename_i z es own h' hz hl
        split at hk
        · rename_i hc
          simp only [Option.some.injEq, Prod.mk.injEq] at hk
          obtain ⟨rfl, rfl⟩ := hk
          obtain ⟨k1, k2⟩ := litA_loc hl
          have hm : (ps.toList.map fun x => ((x.1, ρ x.2) : Nat × A)).map (·.2) = ps.toList.map fun x => ρ x.2 := by simp
          rw [hm] at k1 k2
          simp only [effM]
          refine ⟨fun id hid => ?_, fun u ha => ?_⟩
          · simp only [List.mem_cons, not_or] at hid
            rw [upd_ne _ _ hid.1, k1 id hid.2]
          · obtain ⟨u', q1, q2⟩ := k2 u (ha.sub (by simp +contextual))
            refine ⟨upd u' s (.arr e own es), by simp only [memA, he, hz, q1, if_pos hc], (q2.sup k1 ha (by simp +contextual)).trans ((Sh.upd s _).sup (h := h') keep_upd (ha.step q2 k1) (by simp))⟩
        · cases hk
      · cases hk
    · cases hk
  · rename_i t a
    split at hk
    · rename_i ut hu
      split at hk
      · rename_i cs hr
        have hh : h1 = h := by
          split at hk
          · cases hk
          · split at hk
            · simp only [Option.some.injEq, Prod.mk.injEq] at hk; exact hk.2.symm
            · split at hk
              · simp only [Option.some.injEq, Prod.mk.injEq] at hk; exact hk.2.symm
              · cases hk
        subst hh
        refine ⟨fun _ _ => rfl, fun u ha => ⟨u, ?_, Sh.refl (by intro i hi; simp [effM] at hi)⟩⟩
        simp only [effM] at ha
        simp only [memA, hu, rd_loc ha, hr]
        split at hk
        · cases hk
        · rename_i hz
          rw [if_neg hz]
          split at hk
          · rename_i hg
            simp only [Option.some.injEq, Prod.mk.injEq] at hk
            rw [if_pos hg, hk.1]
          · rename_i hg
            rw [if_neg hg]
            split at hk
            · simp only [Option.some.injEq, Prod.mk.injEq] at hk
              simp only [hk.1]
            · cases hk
      · cases hk
    · cases hk
  · rename_i t a x
    split at hk
    · rename_i l hl
      split at hk
      · rename_i hc
        split at hk
        · rename_i h' hw
          simp only [Option.some.injEq, Prod.mk.injEq] at hk
          obtain ⟨rfl, rfl⟩ := hk
          obtain ⟨k1, k2⟩ := wr_loc hw
          have hsub : ∀ i ∈ stRefs (ρ a) (refsL l), i ∈ stRefs (ρ a) (refsA (ρ x)) := by
            intro i hi
            unfold stRefs at hi ⊢
            split at hi
            · exact hi
            · rw [List.mem_append] at hi ⊢
              exact hi.imp id fun hi => Classical.byContradiction fun q => leafs_refs hl q hi
          simp only [effM]
          refine ⟨fun id hid => k1 id fun q => hid (hsub id q), fun u ha => ?_⟩
          obtain ⟨u1, q1, q2⟩ := k2 u (ha.sub hsub)
          exact ⟨u1, by simp only [memA, hl, if_pos hc, q1], q2.sup k1 ha hsub⟩
        · cases hk
      · cases hk
    · cases hk
  · rename_i t l c
    split at hk
    · rename_i e l' c' he hl hc
      split at hk
      · rename_i z hz
        split at hk
        · rename_i zs h' hs
          split at hk
          · rename_i hq
            simp only [Option.some.injEq, Prod.mk.injEq] at hk
            obtain ⟨rfl, rfl⟩ := hk
            exact ⟨keep_upd, fun u ha => ⟨_, by simp only [memA, he, hl, hc, hz, hs, if_pos hq], Sh.upd _ _⟩⟩
          · cases hk
        · cases hk
      · cases hk
    · cases hk
  · rename_i args ts
    split at hk
    · rename_i x y t u0 hx ht
      split at hk
      · rename_i e e2 he he2
        split at hk
        · rename_i es own h' z hb hz
          split at hk
          · rename_i ys own' h'' hm
            split at hk
            · rename_i hq
              simp only [Option.some.injEq, Prod.mk.injEq] at hk
              obtain ⟨rfl, rfl⟩ := hk
              obtain ⟨k1, k2⟩ := baseA_loc hb
              obtain ⟨l1, l2⟩ := moreA_loc hm
              simp only [effM, hx, List.map_cons, List.map_nil, refsL, List.append_nil]
              refine ⟨fun id hid => ?_, fun u ha => ?_⟩
              · simp only [List.mem_cons, List.mem_append, not_or] at hid
                rw [upd_ne _ _ hid.1, l1 id hid.2.2, k1 id hid.2.1]
              · obtain ⟨u', q1, q2⟩ := k2 u (ha.sub (by simp +contextual))
                have a1 := ha.step q2 k1
                obtain ⟨u'', p1, p2⟩ := l2 u' (a1.sub (by simp +contextual))
                refine ⟨upd u'' s (.arr e (own && own') (es ++ ys)), by simp only [memA, hx, ht, he, he2, hz, q1, p1, if_pos hq], ?_⟩
                exact ((q2.sup k1 ha (by simp +contextual)).trans (p2.sup l1 a1 (by simp +contextual))).trans ((Sh.upd s _).sup (h := h'') keep_upd (a1.step p2 l1) (by simp))
            · cases hk
          · cases hk
        · cases hk
      · cases hk
    · cases hk
  · rename_i src dst x
    split at hk
    · rename_i id n hx
      split at hk
      · rename_i e hd he
        split at hk
        · rename_i t own es hu hi
          split at hk
          · rename_i b hb
            split at hk
            · rename_i hn
              simp only [Option.some.injEq, Prod.mk.injEq] at hk
              obtain ⟨rfl, rfl⟩ := hk
              simp only [effM, hx, refsA]
              refine ⟨fun _ _ => trivial, fun u ha => ⟨u, ?_, Sh.refl ha⟩⟩
              simp only [memA, hx, hd, he, hu, ha id (by simp), hi, hb, if_pos hn]
            · cases hk
          · cases hk
        · cases hk
      · cases hk
    · cases hk
  · cases hk
end
end Go.AX

namespace Go.AX
section
variable {P : Program}

def reach (h : Heap) (l : List A) : List Nat := refsL l ++ (refsL l).flatMap fun i => refsO (h i)
theorem reach_unfn {h : Heap} {l : List A} : reach h (unfnL l) = reach h l := by unfold reach; rw [refs_unfn]
def Pass.ids (p : Pass) : List Nat := p.bs.map (·.1) ++ p.os.map (·.1) ++ p.br

theorem deepA_loc {h u : Heap} {a : A} (ha : Agr (refsA a) u h) : deepA u a = deepA h a := by
  cases a <;> first
    | rfl
    | (simp only [deepA]; rw [ha _ (by simp [refsA])])
    | (rename_i f cap; cases cap <;> rfl)
theorem deepL_loc {h u : Heap} : ∀ {l : List A}, Agr (refsL l) u h → deepL u l = deepL h l
  | [], _ => rfl
  | a :: l, ha => by
    simp only [deepL]
    rw [deepA_loc (ha.sub fun i hi => by simp [refsL, hi]), deepL_loc (l := l) (ha.sub fun i hi => by simp [refsL, hi])]
theorem moveL_loc {h u : Heap} : ∀ {l : List A} {k : Nat}, Agr (refsL l) u h → moveL u k l = moveL h k l
  | [], _, _ => by simp [moveL]
  | a :: l, k, ha => by
    have hl : ∀ k, moveL u k l = moveL h k l := fun k => moveL_loc (ha.sub fun i hi => by simp [refsL, hi])
    cases a <;> first
      | (simp only [moveL, hl]; done)
      | (simp only [moveL, hl]; rw [ha _ (by simp [refsL, refsA])])
theorem passA_loc {h u : Heap} {p : Pass} {a : A} (ha : Agr (reach h [a]) u h) : passA u p a = passA h p a := by
  have h1 : Agr (refsA a) u h := ha.sub fun i hi => by simp [reach, refsL, hi]
  cases a with
  | ptr id off =>
    cases off with
    | succ n => rfl
    | zero =>
      simp only [passA]
      rw [h1 id (by simp [refsA])]
      split
      · rename_i t cs hi
        rw [moveL_loc (ha.sub fun i hi' => by simp [reach, refsL, refsA, hi, refsO, hi'])]
      · rfl
  | agg cs =>
    simp only [passA]
    rw [deepL_loc (by simpa [refsA] using h1), moveL_loc (by simpa [refsA] using h1)]
  | _ => simp only [passA]; rw [deepA_loc h1]
theorem passL_loc {h u : Heap} : ∀ {l : List A} {p : Pass}, Agr (reach h l) u h → passL u p l = passL h p l
  | [], _, _ => rfl
  | a :: l, p, ha => by
    simp only [passL]
    rw [passA_loc (ha.sub fun i hi => by
      simp only [reach, refsL, List.append_nil, List.mem_append, List.mem_flatMap] at hi ⊢
      rcases hi with hi | ⟨j, hj, hi⟩
      · exact .inl (.inl hi)
      · exact .inr ⟨j, .inl hj, hi⟩)]
    split
    · rename_i x p1 _
      rw [passL_loc (l := l) (p := p1) (ha.sub fun i hi => by
        simp only [reach, refsL, List.mem_append, List.mem_flatMap] at hi ⊢
        rcases hi with hi | ⟨j, hj, hi⟩
        · exact .inl (.inr hi)
        · exact .inr ⟨j, .inr hj, hi⟩)]
    · rfl

theorem deepA_sub {h : Heap} {a x : A} {b : List Nat} (hd : deepA h a = some (x, b)) : ∀ i ∈ b, i ∈ refsA a := by
  cases a <;> (try (rename_i cap; cases cap)) <;> simp only [deepA] at hd <;> first
    | (simp only [Option.some.injEq, Prod.mk.injEq] at hd; obtain ⟨rfl, rfl⟩ := hd; simp; done)
    | (split at hd
       · split at hd
         · simp only [Option.some.injEq, Prod.mk.injEq] at hd
           obtain ⟨rfl, rfl⟩ := hd
           simp [refsA]
         · cases hd
       · split at hd
         · simp only [Option.some.injEq, Prod.mk.injEq] at hd
           obtain ⟨rfl, rfl⟩ := hd
           simp
         · cases hd
       · cases hd)
    | cases hd
theorem deepL_sub {h : Heap} : ∀ {l xs : List A} {b : List Nat}, deepL h l = some (xs, b) → ∀ i ∈ b, i ∈ refsL l
  | [], xs, b, hd => by simp [deepL] at hd; obtain ⟨rfl, rfl⟩ := hd; simp
  | a :: l, xs, b, hd => by
    simp only [deepL] at hd
    split at hd
    · rename_i x b1 h1
      split at hd
      · rename_i xs' b2 h2
        simp only [Option.some.injEq, Prod.mk.injEq] at hd
        obtain ⟨rfl, rfl⟩ := hd
        intro i hi
        simp only [refsL, List.mem_append] at hi ⊢
        exact hi.imp (deepA_sub h1 i) (deepL_sub h2 i)
      · cases hd
    · cases hd
theorem moveL_sub {h : Heap} : ∀ {l xs : List A} {k : Nat} {m : List (Nat × TypeId × Bool × List (List D))}, moveL h k l = some (xs, m) → ∀ i ∈ m.map (·.1), i ∈ refsL l
  | [], xs, k, m, hd => by simp [moveL] at hd; obtain ⟨rfl, rfl⟩ := hd; simp
  | a :: l, xs, k, m, hd => by
    cases a with
    | os id n =>
      simp only [moveL] at hd
      split at hd
      · split at hd
        · rename_i xs' m' hm
          split at hd
          · simp only [Option.some.injEq, Prod.mk.injEq] at hd
            obtain ⟨rfl, rfl⟩ := hd
            intro i hi
            simp only [List.map_cons, List.mem_cons] at hi
            simp only [refsL, refsA, List.singleton_append, List.mem_cons]
            exact hi.imp_right (moveL_sub hm i)
          · cases hd
        · cases hd
      · split at hd
        · rename_i xs' m' hm
          split at hd
          · simp only [Option.some.injEq, Prod.mk.injEq] at hd
            obtain ⟨rfl, rfl⟩ := hd
            intro i hi
            simp only [refsL, List.mem_append]
            exact .inr (moveL_sub hm i hi)
          · cases hd
        · cases hd
      · cases hd
    | _ =>
      simp only [moveL] at hd
      first
        | (split at hd
           · rename_i xs' m' hm
             simp only [Option.some.injEq, Prod.mk.injEq] at hd
             obtain ⟨rfl, rfl⟩ := hd
             intro i hi
             simp only [refsL, List.mem_append]
             exact .inr (moveL_sub hm i hi)
           · cases hd)
        | cases hd
theorem passA_sub {h : Heap} {p q : Pass} {a x : A} (hd : passA h p a = some (x, q)) : ∀ i ∈ q.ids, i ∈ p.ids ∨ i ∈ reach h [a] := by
  have deep : ∀ (a : A) (x : A) (b : List Nat), deepA h a = some (x, b) → q = ⟨p.bs, p.os, p.br ++ b, p.mv⟩ → ∀ i ∈ q.ids, i ∈ p.ids ∨ i ∈ reach h [a] := by
    intro a x b hx hq i hi
    subst hq
    simp only [Pass.ids, List.mem_append] at hi ⊢
    rcases hi with hi | hi | hi
    · exact .inl (.inl hi)
    · exact .inl (.inr hi)
    · exact .inr (by simp only [reach, refsL, List.append_nil, List.mem_append]; exact .inl (deepA_sub hx i hi))
  cases a with
  | ptr id off =>
    cases off with
    | succ n => cases hd
    | zero =>
      simp only [passA] at hd
      split at hd
      · rename_i t cs hi
        split at hd
        · rename_i cs' m hm
          simp only [Option.some.injEq, Prod.mk.injEq] at hd
          obtain ⟨rfl, rfl⟩ := hd
          intro i hq
          simp only [Pass.ids, List.map_append, List.map_cons, List.map_nil, List.mem_append, List.mem_singleton] at hq ⊢
          rcases hq with (((hq | hq) | (hq | hq)) | hq)
          · exact .inl (.inl (.inl hq))
          · subst hq; exact .inr (by simp [reach, refsL, refsA])
          · exact .inl (.inl (.inr hq))
          · exact .inr (by simp only [reach, refsL, refsA, List.append_nil, List.mem_append, List.flatMap_cons, List.flatMap_nil]; rw [hi]; exact .inr (moveL_sub hm i hq))
          · exact .inl (.inr hq)
        · cases hd
      · cases hd
  | agg cs =>
    simp only [passA] at hd
    split at hd
    · split at hd
      · rename_i xs l hl
        simp only [Option.some.injEq, Prod.mk.injEq] at hd
        obtain ⟨rfl, rfl⟩ := hd
        intro i hi
        simp only [Pass.ids, List.mem_append] at hi ⊢
        rcases hi with hi | hi | hi
        · exact .inl (.inl hi)
        · exact .inl (.inr hi)
        · exact .inr (by simp only [reach, refsL, refsA, List.append_nil, List.mem_append]; exact .inl (deepL_sub hl i hi))
      · cases hd
    · split at hd
      · rename_i xs m hm
        simp only [Option.some.injEq, Prod.mk.injEq] at hd
        obtain ⟨rfl, rfl⟩ := hd
        intro i hi
        simp only [Pass.ids, List.map_append, List.mem_append] at hi ⊢
        rcases hi with (hi | (hi | hi)) | hi
        · exact .inl (.inl (.inl hi))
        · exact .inl (.inl (.inr hi))
        · exact .inr (by simp only [reach, refsL, refsA, List.append_nil, List.mem_append]; exact .inl (moveL_sub hm i hi))
        · exact .inl (.inr hi)
      · cases hd
  | _ =>
    simp only [passA] at hd
    split at hd
    · rename_i x' l hl
      simp only [Option.some.injEq, Prod.mk.injEq] at hd
      exact deep _ _ _ hl hd.2.symm
    · cases hd
theorem passL_sub {h : Heap} : ∀ {l xs : List A} {p q : Pass}, passL h p l = some (xs, q) → ∀ i ∈ q.ids, i ∈ p.ids ∨ i ∈ reach h l
  | [], xs, p, q, hd => by simp [passL] at hd; obtain ⟨rfl, rfl⟩ := hd; exact fun i hi => .inl hi
  | a :: l, xs, p, q, hd => by
    simp only [passL] at hd
    split at hd
    · rename_i x p1 h1
      split at hd
      · rename_i xs' p2 h2
        simp only [Option.some.injEq, Prod.mk.injEq] at hd
        obtain ⟨rfl, rfl⟩ := hd
        intro i hi
        simp only [reach, refsL, List.mem_append, List.flatMap_append]
        rcases passL_sub h2 i hi with hi | hi
        · rcases passA_sub h1 i hi with hi | hi
          · exact .inl hi
          · simp only [reach, refsL, List.append_nil, List.mem_append] at hi
            exact .inr (hi.elim (fun q => .inl (.inl q)) fun q => .inr (.inl q))
        · simp only [reach, List.mem_append] at hi
          exact .inr (hi.elim (fun q => .inl (.inr q)) fun q => .inr (.inr q))
      · cases hd
    · cases hd

theorem idx_mem : ∀ {l : List Nat} {i : Nat}, i ∈ l → ∃ b, idx l i = some b
  | j :: l, i, h => by
    unfold idx
    split
    · exact ⟨_, rfl⟩
    · rename_i e
      obtain ⟨b, hb⟩ := idx_mem ((List.mem_cons.1 h).resolve_left e)
      rw [hb]
      exact ⟨_, rfl⟩
theorem backH_congr {h u : Heap} {s : Nat} {p : Pass} {r : A} {H : Hp} {id : Nat} (e : u id = h id) : backH u s p r H id = backH h s p r H id := by
  unfold backH
  rw [e]
theorem backH_far {h : Heap} {s : Nat} {p : Pass} {r : A} {H : Hp} {id : Nat} (h1 : ¬ (s ≤ id ∧ id < s + H.os.length)) (h2 : id ∉ p.ids) : backH h s p r H id = h id := by
  simp only [Pass.ids, List.mem_append, not_or] at h2
  unfold backH
  rw [if_neg h1]
  split
  · rename_i b hb
    exact absurd (List.mem_of_getElem? (idx_some hb)) h2.1.1
  · rw [if_neg (by simpa using h2.1.2), if_neg (by simpa using h2.2)]

/-! ### steps -/
def DoR (P : Program) (o : Oper) (st : St) (r : A) (h' : Heap) : Prop :=
  match isCall o.op with
  | some (f, args) => ∃ g cap mv xs p r0 H', val st f = .fn g cap ∧ passL st.h ⟨[], [], [], mv⟩ (unfnL (args.map (val st) ++ cap)) = some (xs, p) ∧ passOk p (site o.dst) = true ∧ Ct P g (refnL (args.map (val st) ++ cap) xs) p.hp r0 H' ∧ r = ren (site o.dst) (p.bs.map (·.1)) r0 ∧ h' = backH st.h (site o.dst) p r0 H'
  | none => (pureA P o.op (val st) = some r ∧ h' = st.h) ∨ memA P o.op (site o.dst) (val st) st.h = some (r, h')
def StR (P : Program) (ops : Array Oper) (o : Oper) (st : St) (r : A) (h' : Heap) : Prop :=
  dstOk st o = true ∧ ((wantedA ops st o = some true ∧ DoR P o st r h') ∨ (wantedA ops st o = some false ∧ r = .undef ∧ h' = st.h))
structure Eff where
  b : List Nat
  i : List Nat
def Eff.l (e : Eff) : List Nat := (e.b.flatMap fun k => (List.range 64).map (k * 64 + ·)) ++ e.i
/-- What a step looks at, and what it changes. -/
def effO (o : Oper) (st : St) : Eff × Eff :=
  match isCall o.op with
  | some (f, args) => match val st f with
    | .fn _ cap => let e : Eff := ⟨[o.dst.getD 0], reach st.h (args.map (val st) ++ cap)⟩; (e, e)
    | _ => (⟨[], []⟩, ⟨[], []⟩)
  | none => match effM o.op (site o.dst) (val st) with
    | (t, w) => (⟨[], t⟩, ⟨[], w⟩)
theorem effO_sub (o : Oper) (st : St) : ∀ i ∈ (effO o st).2.l, i ∈ (effO o st).1.l := by
  unfold effO
  split
  · split
    · exact fun i hi => hi
    · simp [Eff.l]
  · simp only [Eff.l, List.flatMap_nil, List.nil_append]
    exact effM_sub _ _ _

theorem isCall_ops {op : Op} {f : Operand} {args : List Operand} (h : isCall op = some (f, args)) : op.operands.toList = f :: args := by
  unfold isCall at h
  split at h
  · simp only [Option.some.injEq, Prod.mk.injEq] at h
    obtain ⟨rfl, rfl⟩ := h
    simp [Op.operands, Call.operands]
  · cases h
theorem val_congr {st u : St} {ops : Array Oper} {o : Oper} (h : ∀ x ∈ o.looksAt ops, u.t x = st.t x) : ∀ x ∈ o.op.operands.toList, val u x = val st x := by
  intro x hx
  cases x with
  | tmp i => exact h i (List.mem_append_left _ (List.mem_filterMap.2 ⟨.tmp i, hx, rfl⟩))
  | const v => rfl
  | global g => rfl
  | func f => rfl
theorem wantedA_congr {st u : St} {ops : Array Oper} {o : Oper} (h : ∀ x ∈ o.looksAt ops, u.t x = st.t x) : wantedA ops u o = wantedA ops st o := by
  unfold wantedA
  split
  · rfl
  · rename_i g want hg
    split
    · rename_i d hd
      rw [h d (List.mem_append_right _ (by simp [hg, hd]))]
    · rfl

theorem effO_loc {ops : Array Oper} {o : Oper} {st u : St} (ht : ∀ x ∈ o.looksAt ops, u.t x = st.t x) (ha : Agr (effO o st).1.l u.h st.h) : effO o u = effO o st := by
  have hvc := val_congr ht
  cases hc : isCall o.op with
  | some fa =>
    obtain ⟨f, args⟩ := fa
    have hmap : args.map (val u) = args.map (val st) := List.map_congr_left fun x hx => hvc x (by rw [isCall_ops hc]; simp [hx])
    have hf : val u f = val st f := hvc f (by rw [isCall_ops hc]; simp)
    simp only [effO, hc, hf, hmap] at ha ⊢
    split
    · rename_i g cap hv
      simp only [hv] at ha
      have ha' : Agr (reach st.h (args.map (val st) ++ cap)) u.h st.h := ha.sub fun i hi => by simp [Eff.l, hi]
      have hreach : reach u.h (args.map (val st) ++ cap) = reach st.h (args.map (val st) ++ cap) := by
        unfold reach
        congr 1
        simp only [List.flatMap]
        congr 1
        refine List.map_congr_left fun i hi => ?_
        rw [ha' i (by simp [reach, hi])]
      rw [hreach]
    · rfl
  | none => simp only [effO, hc, effM_congr (s := site o.dst) hvc]
theorem StR.loc {ops : Array Oper} {o : Oper} {st : St} {r : A} {h' : Heap} (hs : StR P ops o st r h') :
    (∀ id, id ∉ (effO o st).2.l → h' id = st.h id) ∧ ∀ u : St, u.n = st.n → (∀ x ∈ o.looksAt ops, u.t x = st.t x) → Agr (effO o st).1.l u.h st.h →
      effO o u = effO o st ∧ ∃ u', StR P ops o u r u' ∧ Sh (effO o st).2.l h' u.h u' := by
  obtain ⟨hd, hs⟩ := hs
  have dok : ∀ u : St, u.n = st.n → dstOk u o = true := by
    intro u hn; unfold dstOk at hd ⊢; rw [hn]; exact hd
  rcases hs with ⟨hw, hs⟩ | ⟨hw, rfl, rfl⟩
  · unfold DoR at hs
    split at hs
    · rename_i f args hc
      obtain ⟨g, cap, mv, xs, p, r0, H', hv, hp, hok, hct, rfl, rfl⟩ := hs
      have he : effO o st = (⟨[o.dst.getD 0], reach st.h (args.map (val st) ++ cap)⟩, ⟨[o.dst.getD 0], reach st.h (args.map (val st) ++ cap)⟩) := by simp only [effO, hc, hv]
      have hblk : ∀ id, id ∉ (⟨[o.dst.getD 0], reach st.h (args.map (val st) ++ cap)⟩ : Eff).l → ¬ (site o.dst ≤ id ∧ id < site o.dst + H'.os.length) ∧ id ∉ p.ids := by
        intro id hid
        simp only [Eff.l, List.mem_append, not_or, List.flatMap_cons, List.flatMap_nil, List.append_nil, List.mem_map, List.mem_range] at hid
        refine ⟨fun q => hid.1 ⟨id - site o.dst, ?_, ?_⟩, fun q => ?_⟩
        · have := hct.2.1.2.1; omega
        · have := q.1; simp only [site] at this ⊢; omega
        · rcases passL_sub hp id q with q | q
          · simp [Pass.ids] at q
          · exact hid.2 (by rwa [reach_unfn] at q)
      refine ⟨fun id hid => ?_, fun u hn ht ha => ⟨effO_loc ht ha, ?_⟩⟩
      · rw [he] at hid
        obtain ⟨h1, h2⟩ := hblk id hid
        exact backH_far h1 h2
      · rw [he] at ha ⊢
        have hvc := val_congr ht
        have hmap : args.map (val u) = args.map (val st) := List.map_congr_left fun x hx => hvc x (by rw [isCall_ops hc]; simp [hx])
        have hf : val u f = .fn g cap := by rw [hvc f (by rw [isCall_ops hc]; simp), hv]
        have ha' : Agr (reach st.h (args.map (val st) ++ cap)) u.h st.h := ha.sub fun i hi => by simp [Eff.l, hi]
        refine ⟨backH u.h (site o.dst) p r0 H', ⟨dok u hn, .inl ⟨by rw [wantedA_congr ht]; exact hw, ?_⟩⟩, ?_⟩
        · simp only [DoR, hc]
          exact ⟨g, cap, mv, xs, p, r0, H', hf, by rw [hmap, passL_loc (by rw [reach_unfn]; exact ha')]; exact hp, hok, by rw [hmap]; exact hct, rfl, rfl⟩
        · refine ⟨fun id hid => backH_congr (ha id hid), fun id hid => ?_⟩
          obtain ⟨h1, h2⟩ := hblk id hid
          exact backH_far h1 h2
    · rename_i hc
      have he : effO o st = (⟨[], (effM o.op (site o.dst) (val st)).1⟩, ⟨[], (effM o.op (site o.dst) (val st)).2⟩) := by simp only [effO, hc]
      have main : (∀ id, id ∉ (effM o.op (site o.dst) (val st)).2 → h' id = st.h id) ∧ ∀ u : St, u.n = st.n → (∀ x ∈ o.looksAt ops, u.t x = st.t x) → Agr (effM o.op (site o.dst) (val st)).1 u.h st.h →
          ∃ u', StR P ops o u r u' ∧ Sh (effM o.op (site o.dst) (val st)).2 h' u.h u' := by
        rcases hs with ⟨hr, rfl⟩ | hm
        · refine ⟨fun _ _ => rfl, fun u hn ht ha => ⟨u.h, ⟨dok u hn, .inl ⟨by rw [wantedA_congr ht]; exact hw, ?_⟩⟩, Sh.refl (ha.sub (effM_sub _ _ _))⟩⟩
          simp only [DoR, hc]
          exact .inl ⟨by rw [pureA_congr (val_congr ht)]; exact hr, trivial⟩
        · obtain ⟨k1, k2⟩ := memA_loc hm
          refine ⟨k1, fun u hn ht ha => ?_⟩
          obtain ⟨u1, q1, q2⟩ := k2 u.h ha
          refine ⟨u1, ⟨dok u hn, .inl ⟨by rw [wantedA_congr ht]; exact hw, ?_⟩⟩, q2⟩
          simp only [DoR, hc]
          exact .inr (by rw [memA_congr (val_congr ht)]; exact q1)
      refine ⟨fun id hid => main.1 id ?_, fun u hn ht ha => ⟨effO_loc ht ha, ?_⟩⟩
      · rw [he] at hid
        simpa only [Eff.l, List.flatMap_nil, List.nil_append] using hid
      · rw [he] at ha ⊢
        simp only [Eff.l, List.flatMap_nil, List.nil_append] at ha ⊢
        exact main.2 u hn ht ha
  · exact ⟨fun _ _ => rfl, fun u hn ht ha => ⟨effO_loc ht ha, u.h, ⟨dok u hn, .inr ⟨by rw [wantedA_congr ht]; exact hw, rfl, rfl⟩⟩, Sh.refl (ha.sub (effO_sub _ _))⟩⟩

/-! ### two steps -/
def Apt (e f : Eff × Eff) : Prop := (∀ i ∈ e.2.l, i ∉ f.1.l) ∧ ∀ i ∈ f.2.l, i ∉ e.1.l
theorem put_n (st : St) (d : Option Tmp) (r : A) (h : Heap) : (put st d r h).n = st.n := by cases st; cases d <;> rfl
theorem put_h (st : St) (d : Option Tmp) (r : A) (h : Heap) : (put st d r h).h = h := by cases st; cases d <;> rfl
theorem put_t (st : St) {d : Option Tmp} (r : A) (h : Heap) {x : Nat} (hx : ∀ e, d = some e → e ≠ x) : (put st d r h).t x = st.t x := by
  cases st
  cases d with
  | none => rfl
  | some e => exact upd_ne _ _ fun q => hx e rfl q.symm
theorem put_put (st : St) {d e : Option Tmp} (r r' : A) (h1 h2 h3 : Heap) (hde : ∀ x, d = some x → e ≠ some x) : put (put st d r h1) e r' h2 = put (put st e r' h3) d r h2 := by
  cases st
  cases d with
  | none => cases e <;> rfl
  | some x =>
    cases e with
    | none => rfl
    | some y =>
      have hne : x ≠ y := fun q => hde x rfl (by rw [q])
      simp only [put, St.mk.injEq, true_and, and_true]
      funext j
      simp only [upd]
      split <;> split <;> simp_all
theorem swap {ops : Array Oper} {o1 o2 : Oper} {st : St} {r1 r2 : A} {h1 h2 : Heap} (s1 : StR P ops o1 st r1 h1) (s2 : StR P ops o2 (put st o1.dst r1 h1) r2 h2)
    (hap : o1.apart ops o2 = true) (hef : Apt (effO o1 st) (effO o2 (put st o1.dst r1 h1))) :
    ∃ u1, StR P ops o2 st r2 u1 ∧ StR P ops o1 (put st o2.dst r2 u1) r1 h2 ∧ put (put st o2.dst r2 u1) o1.dst r1 h2 = put (put st o1.dst r1 h1) o2.dst r2 h2 ∧
      effO o2 st = effO o2 (put st o1.dst r1 h1) ∧ effO o1 (put st o2.dst r2 u1) = effO o1 st := by
  obtain ⟨a1, a2, a3⟩ := Oper.apart_spec hap
  obtain ⟨k1, l1⟩ := s1.loc
  obtain ⟨k2, l2⟩ := s2.loc
  rw [put_h] at k2 l2
  obtain ⟨e2, u1, q1, q2⟩ := l2 st (put_n _ _ _ _).symm (fun x hx => (put_t _ _ _ fun d hd e => a1 d hd (by subst e; exact hx)).symm) fun id hid => (k1 id fun q => hef.1 id q hid).symm
  obtain ⟨e1, u2, p1, p2⟩ := l1 (put st o2.dst r2 u1) (put_n _ _ _ _) (fun x hx => put_t _ _ _ fun d hd e => a3 d hd (by subst e; exact hx)) (by
    rw [put_h]
    intro id hid
    exact q2.2 id fun q => hef.2 id q hid)
  rw [put_h] at p2
  have hu : u2 = h2 := by
    funext id
    by_cases h : id ∈ (effO o1 st).2.l
    · rw [p2.1 id h, k2 id fun q => hef.1 id h (effO_sub _ _ id q)]
    · rw [p2.2 id h]
      by_cases h' : id ∈ (effO o2 (put st o1.dst r1 h1)).2.l
      · exact q2.1 id h'
      · rw [q2.2 id h', k2 id h', k1 id h]
  subst hu
  exact ⟨u1, q1, p1, (put_put _ _ _ _ _ _ a2).symm, e2, e1⟩
end
end Go.AX

namespace Go.AX
section
variable {P : Program}

/-- A place for new objects. -/
def Clean (d : Nat) (st : St) : Prop := ∀ k, k < 64 → st.h (d * 64 + k) = .gone ∧ NoRef (d * 64 + k) st.t st.h

theorem sink_refsO {id : Nat} : ∀ (l : List A) {h h1 : Heap} {xs : List D} {o : Bool}, sink h l = some (xs, o, h1) → (∀ k, id ∉ refsO (h k)) → ∀ k, id ∉ refsO (h1 k)
  | [], h, h1, xs, o, hk, hr => by
    simp only [sink, Option.some.injEq, Prod.mk.injEq] at hk
    obtain ⟨rfl, rfl, rfl⟩ := hk
    exact hr
  | a :: l, h, h1, xs, o, hk, hr => by
    simp only [sink] at hk
    split at hk
    · rename_i x o1 h' heq
      split at hk
      · rename_i xs' o2 h2 hl
        simp only [Option.some.injEq, Prod.mk.injEq] at hk
        obtain ⟨rfl, rfl, rfl⟩ := hk
        refine sink_refsO l hl fun k => ?_
        split at heq <;> first
          | (simp only [Option.some.injEq, Prod.mk.injEq] at heq; obtain ⟨rfl, rfl, rfl⟩ := heq; exact hr k)
          | (split at heq
             · split at heq
               · simp only [Option.some.injEq, Prod.mk.injEq] at heq
                 obtain ⟨rfl, rfl, rfl⟩ := heq
                 simp only [upd]
                 split
                 · simp [refsO]
                 · exact hr k
               · cases heq
             · split at heq
               · simp only [Option.some.injEq, Prod.mk.injEq] at heq
                 obtain ⟨rfl, rfl, rfl⟩ := heq
                 exact hr k
               · cases heq
             · cases heq)
          | cases heq
      · cases hk
    · cases hk
theorem upd_refsO {id s : Nat} {h : Heap} {o : O} (hr : ∀ k, id ∉ refsO (h k)) (ho : id ∉ refsO o) : ∀ k, id ∉ refsO (upd h s o k) := by
  intro k
  simp only [upd]
  split
  · exact ho
  · exact hr k
theorem rd_refs {id n : Nat} {h : Heap} {a : A} {cs : List A} (hk : rd h n a = some cs) (hr : ∀ k, id ∉ refsO (h k)) : id ∉ refsL cs := by
  have hd : ∀ l : List D, id ∉ refsL (l.map .d) := by
    intro l
    rw [not_refsL]
    intro a ha
    simp only [List.mem_map] at ha
    obtain ⟨x, _, rfl⟩ := ha
    simp [refsA]
  unfold rd at hk
  split at hk
  · rename_i i off
    split at hk
    · rename_i t l hi
      split at hk
      · simp only [Option.some.injEq] at hk
        subst hk
        have := hr i
        rw [hi] at this
        simp only [refsO] at this
        rw [not_refsL] at this ⊢
        exact fun a ha => this a (List.mem_of_mem_drop (List.mem_of_mem_take ha))
      · cases hk
    · cases hk
  · split at hk
    · split at hk
      · split at hk
        · simp only [Option.some.injEq] at hk; subst hk; exact hd _
        · cases hk
      · cases hk
    · split at hk
      · split at hk
        · simp only [Option.some.injEq] at hk; subst hk; exact hd _
        · cases hk
      · cases hk
    · cases hk
  · split at hk
    · simp only [Option.some.injEq] at hk; subst hk; exact hd _
    · cases hk
  · cases hk
theorem wr_refsO {id : Nat} {h h1 : Heap} {l : List A} {a : A} (hk : wr h l a = some h1) (hr : ∀ k, id ∉ refsO (h k)) (hl : id ∉ refsL l) : ∀ k, id ∉ refsO (h1 k) := by
  unfold wr at hk
  split at hk
  · rename_i i off
    split at hk
    · rename_i t cs hi
      split at hk
      · simp only [Option.some.injEq] at hk
        subst hk
        refine upd_refsO hr ?_
        simp only [refsO]
        have := hr i
        rw [hi] at this
        simp only [refsO] at this
        rw [not_refsL] at this hl ⊢
        intro a ha
        exact (putAt_mem ha).elim (this a) (hl a)
      · cases hk
    · cases hk
  · split at hk
    · rename_i xs o h' hs
      split at hk
      · split at hk
        · split at hk
          · simp only [Option.some.injEq] at hk
            subst hk
            exact upd_refsO (sink_refsO l hs hr) (by simp [refsO])
          · cases hk
        · cases hk
      · cases hk
    · cases hk
  · cases hk
theorem baseA_refsO {id : Nat} {h h1 : Heap} {e : TypeId} {a : A} {es : List (List D)} {o : Bool} (hk : baseA h e a = some (es, o, h1)) (hr : ∀ k, id ∉ refsO (h k)) : ∀ k, id ∉ refsO (h1 k) := by
  unfold baseA at hk
  split at hk
  · simp only [Option.some.injEq, Prod.mk.injEq] at hk; obtain ⟨rfl, rfl, rfl⟩ := hk; exact hr
  · split at hk
    · split at hk
      · simp only [Option.some.injEq, Prod.mk.injEq] at hk; obtain ⟨rfl, rfl, rfl⟩ := hk; exact upd_refsO hr (by simp [refsO])
      · cases hk
    · cases hk
  · cases hk
theorem moreA_refsO {id : Nat} {h h1 : Heap} {a : A} {es : List (List D)} {o : Bool} (hk : moreA h a = some (es, o, h1)) (hr : ∀ k, id ∉ refsO (h k)) : ∀ k, id ∉ refsO (h1 k) := by
  unfold moreA at hk
  split at hk
  · simp only [Option.some.injEq, Prod.mk.injEq] at hk; obtain ⟨rfl, rfl, rfl⟩ := hk; exact hr
  · simp only [Option.some.injEq, Prod.mk.injEq] at hk; obtain ⟨rfl, rfl, rfl⟩ := hk; exact hr
  · split at hk
    · split at hk
      · simp only [Option.some.injEq, Prod.mk.injEq] at hk; obtain ⟨rfl, rfl, rfl⟩ := hk; exact upd_refsO hr (by simp [refsO])
      · cases hk
    · split at hk
      · simp only [Option.some.injEq, Prod.mk.injEq] at hk; obtain ⟨rfl, rfl, rfl⟩ := hk; exact hr
      · cases hk
    · cases hk
  · cases hk
theorem memA_refs {o : Op} {s id : Nat} {ρ : Operand → A} {h h1 : Heap} {r : A} (hk : memA P o s ρ h = some (r, h1)) (hρ : ∀ x, id ∉ refsA (ρ x)) (hr : ∀ k, id ∉ refsO (h k)) (hs : isAl o = true → s ≠ id) :
    id ∉ refsA r ∧ ∀ k, id ∉ refsO (h1 k) := by
  unfold memA at hk
  split at hk
  · have hs := hs rfl
    split at hk
    · rename_i z hz
      simp only [Option.some.injEq, Prod.mk.injEq] at hk
      obtain ⟨rfl, rfl⟩ := hk
      exact ⟨by simp [refsA]; exact fun q => hs q.symm, upd_refsO hr (by simp only [refsO]; rw [refs_zeroT hz]; simp)⟩
    · cases hk
  · have hs := hs rfl
    split at hk
    · rename_i l hl
      simp only [Option.some.injEq, Prod.mk.injEq] at hk
      obtain ⟨rfl, rfl⟩ := hk
      exact ⟨by simp [refsA]; exact fun q => hs q.symm, upd_refsO hr (by simp only [refsO]; exact leafs_refs hl (hρ _))⟩
    · cases hk
  · have hs := hs rfl
    split at hk
    · split at hk
      · rename_i z es own h' hz hl
        split at hk
        · simp only [Option.some.injEq, Prod.mk.injEq] at hk
          obtain ⟨rfl, rfl⟩ := hk
          refine ⟨by simp [refsA]; exact fun q => hs q.symm, upd_refsO ?_ (by simp [refsO])⟩
          unfold litA at hl
          split at hl
          · split at hl
            · rename_i hq
              simp only [Option.some.injEq, Prod.mk.injEq] at hl
              obtain ⟨rfl, rfl, rfl⟩ := hl
              exact sink_refsO _ hq hr
            · cases hl
          · cases hl
        · cases hk
      · cases hk
    · cases hk
  · split at hk
    · split at hk
      · rename_i cs hrd
        have := rd_refs hrd hr
        split at hk
        · cases hk
        · split at hk
          · simp only [Option.some.injEq, Prod.mk.injEq] at hk
            obtain ⟨rfl, rfl⟩ := hk
            exact ⟨by simpa only [refsA] using this, hr⟩
          · split at hk
            · simp only [Option.some.injEq, Prod.mk.injEq] at hk
              obtain ⟨rfl, rfl⟩ := hk
              exact ⟨by simpa [refsL] using this, hr⟩
            · cases hk
      · cases hk
    · cases hk
  · split at hk
    · rename_i l hl
      split at hk
      · split at hk
        · rename_i h' hw
          simp only [Option.some.injEq, Prod.mk.injEq] at hk
          obtain ⟨rfl, rfl⟩ := hk
          exact ⟨by simp [refsA], wr_refsO hw hr (leafs_refs hl (hρ _))⟩
        · cases hk
      · cases hk
    · cases hk
  · have hs := hs rfl
    split at hk
    · split at hk
      · split at hk
        · split at hk
          · simp only [Option.some.injEq, Prod.mk.injEq] at hk
            obtain ⟨rfl, rfl⟩ := hk
            exact ⟨by simp [refsA]; exact fun q => hs q.symm, upd_refsO hr (by simp [refsO])⟩
          · cases hk
        · cases hk
      · cases hk
    · cases hk
  · have hs := hs rfl
    split at hk
    · split at hk
      · split at hk
        · rename_i hb hz
          split at hk
          · rename_i hm
            split at hk
            · simp only [Option.some.injEq, Prod.mk.injEq] at hk
              obtain ⟨rfl, rfl⟩ := hk
              exact ⟨by simp [refsA]; exact fun q => hs q.symm, upd_refsO (moreA_refsO hm (baseA_refsO hb hr)) (by simp [refsO])⟩
            · cases hk
          · cases hk
        · cases hk
      · cases hk
    · cases hk
  · split at hk
    · split at hk
      · split at hk
        · split at hk
          · split at hk
            · simp only [Option.some.injEq, Prod.mk.injEq] at hk
              obtain ⟨rfl, rfl⟩ := hk
              exact ⟨by simp [refsA], hr⟩
            · cases hk
          · cases hk
        · cases hk
      · cases hk
    · cases hk
  · cases hk

mutual
theorem ren_refs {s no id : Nat} {bs : List Nat} (h1 : ¬ (s ≤ id ∧ id < s + no)) (h2 : id ∉ bs) : ∀ {a : A}, okA no a = true → id ∉ refsA (ren s bs a)
  | .os i n, h => by
    simp only [okA, Bool.and_eq_true, decide_eq_true_eq] at h
    simp only [ren, refsA, List.mem_singleton]
    omega
  | .ptr i off, h => by
    simp only [ren]
    split
    · rename_i j hj
      simp only [refsA, List.mem_singleton]
      intro q
      exact h2 (q ▸ List.mem_of_getElem? hj)
    · simp [refsA]
  | .pe _ _ _ _, _ => by rw [ren]; simp [refsA]
  | .fn f cap, h => by
    simp only [okA] at h
    simp only [ren, refsA]
    exact renL_refs h1 h2 h
  | .agg cs, h => by
    simp only [okA] at h
    simp only [ren, refsA]
    exact renL_refs h1 h2 h
  | .tup cs, h => by
    simp only [okA] at h
    simp only [ren, refsA]
    exact renL_refs h1 h2 h
  | .d x, _ => by simp [ren, refsA]
  | .es, _ => by simp [ren, refsA]
  | .dp cs, _ => by rw [ren]; simp [refsA]
  | .undef, _ => by simp [ren, refsA]
  | .junk, _ => by simp [ren, refsA]
theorem renL_refs {s no id : Nat} {bs : List Nat} (h1 : ¬ (s ≤ id ∧ id < s + no)) (h2 : id ∉ bs) : ∀ {l : List A}, okL no l = true → id ∉ refsL (renL s bs l)
  | [], _ => by simp [renL, refsL]
  | a :: l, h => by
    simp only [okL, Bool.and_eq_true] at h
    simp only [renL, refsL, List.mem_append, not_or]
    exact ⟨ren_refs h1 h2 h.1, renL_refs h1 h2 h.2⟩
end

theorem DoR.refs {o : Oper} {st : St} {r : A} {h' : Heap} (hs : DoR P o st r h') {id : Nat} (hn : NoRef id st.t st.h) (hsite : (isAl o.op = true ∨ isCall o.op ≠ none) → id / 64 ≠ o.dst.getD 0) :
    id ∉ refsA r ∧ ∀ k, id ∉ refsO (h' k) := by
  have hv : ∀ x, id ∉ refsA (val st x) := refs_val hn.1
  unfold DoR at hs
  split at hs
  · rename_i f args hc
    have hsite := hsite (.inr (by rw [hc]; simp))
    obtain ⟨g, cap, mv, xs, p, r0, H', hg, hp, hok, hct, rfl, rfl⟩ := hs
    have hcap : id ∉ refsL cap := by have := hv f; rw [hg] at this; simpa only [refsA] using this
    have hl : id ∉ refsL (args.map (val st) ++ cap) := by
      rw [refsL_append, List.mem_append, not_or]
      refine ⟨?_, hcap⟩
      rw [not_refsL]
      intro a ha
      simp only [List.mem_map] at ha
      obtain ⟨x, _, rfl⟩ := ha
      exact hv x
    have hrc : id ∉ reach st.h (args.map (val st) ++ cap) := by
      simp only [reach, List.mem_append, List.mem_flatMap, not_or, not_exists, not_and]
      exact ⟨hl, fun i _ => hn.2 i⟩
    have hids : id ∉ p.ids := fun q => (passL_sub hp id q).elim (by simp [Pass.ids]) (by rw [reach_unfn]; exact hrc)
    have hbs : id ∉ p.bs.map (·.1) := fun q => hids (by simp only [Pass.ids, List.mem_append]; exact .inl (.inl q))
    obtain ⟨_, ⟨_, hno, hokr, hokb⟩, _⟩ := hct
    have hblk : ¬ (site o.dst ≤ id ∧ id < site o.dst + H'.os.length) := by
      simp only [site]
      intro q
      apply hsite
      omega
    refine ⟨ren_refs hblk hbs hokr, fun k => ?_⟩
    unfold backH
    split
    · split <;> simp [refsO]
    · split
      · split
        · rename_i x hx
          simp only [refsO]
          exact renL_refs hblk hbs (hokb x (List.mem_of_getElem? hx))
        · simp [refsO]
      · split
        · simp [refsO]
        · split
          · split
            · exact hn.2 k
            · have := hn.2 k
              unfold frzO
              split
              · simp [refsO]
              · exact this
          · exact hn.2 k
  · rename_i hc
    rcases hs with ⟨hr, rfl⟩ | hm
    · exact ⟨pureA_refs hv hr, hn.2⟩
    · refine memA_refs hm hv hn.2 fun ha q => ?_
      have := hsite (.inl ha)
      apply this
      rw [← q]
      simp only [site]
      omega

theorem effM_site {o : Op} {s : Nat} {ρ : Operand → A} {id : Nat} (hid : id ∈ (effM o s ρ).1) (hρ : ∀ x, id ∉ refsA (ρ x)) : isAl o = true ∧ id = s := by
  have hm : ∀ {ι : Type} (l : List ι) (f : ι → Operand), id ∉ refsL (l.map fun x => ρ (f x)) := by
    intro ι l f
    rw [not_refsL]
    intro a ha
    simp only [List.mem_map] at ha
    obtain ⟨x, _, rfl⟩ := ha
    exact hρ _
  unfold effM at hid
  split at hid
  · exact ⟨rfl, by simpa using hid⟩
  · exact ⟨rfl, by simpa using hid⟩
  · exact ⟨rfl, by simpa using hid⟩
  · rename_i t n ps
    simp only [List.mem_cons] at hid
    exact ⟨rfl, hid.resolve_right (hm ps.toList (·.2))⟩
  · exact absurd hid (hρ _)
  · exact (stRefs_sub hid).elim (fun q => absurd q (hρ _)) fun q => absurd q (hρ _)
  · rename_i args ts
    simp only [List.mem_cons] at hid
    exact ⟨rfl, hid.resolve_right (hm args.toList (fun x => x))⟩
  · exact absurd hid (hρ _)
  · simp at hid

theorem StR.clean {ops : Array Oper} {o : Oper} {st : St} {r : A} {h' : Heap} (hs : StR P ops o st r h') {d : Nat} (hc : Clean d st) (hsite : (isAl o.op = true ∨ isCall o.op ≠ none) → o.dst.getD 0 ≠ d) : Clean d (put st o.dst r h') := by
  intro k hk
  obtain ⟨hg, hn⟩ := hc k hk
  have hdiv : (d * 64 + k) / 64 = d := by omega
  have hsite' : (isAl o.op = true ∨ isCall o.op ≠ none) → (d * 64 + k) / 64 ≠ o.dst.getD 0 := fun q e => hsite q (e.symm.trans hdiv)
  have hr : d * 64 + k ∉ refsA r ∧ ∀ j, d * 64 + k ∉ refsO (h' j) := by
    rcases hs.2 with ⟨_, q⟩ | ⟨_, rfl, rfl⟩
    · exact q.refs hn hsite'
    · exact ⟨by simp [refsA], hn.2⟩
  have hv : ∀ x, d * 64 + k ∉ refsA (val st x) := refs_val hn.1
  refine ⟨?_, fun i => ?_, by rw [put_h]; exact hr.2⟩
  · rw [put_h, hs.loc.1 _ ?_, hg]
    intro hw
    have hw := effO_sub _ _ _ hw
    unfold effO at hw
    · split at hw
      · rename_i f args hcl
        split at hw
        · rename_i g cap hf
          simp only [Eff.l, List.flatMap_cons, List.flatMap_nil, List.append_nil, List.mem_append, List.mem_map, List.mem_range] at hw
          rcases hw with ⟨j, hj, e⟩ | hw
          · exact hsite' (.inr (by rw [hcl]; simp)) (by omega)
          · simp only [reach, List.mem_append, List.mem_flatMap] at hw
            rcases hw with hw | ⟨i, _, hw⟩
            · rw [refsL_append, List.mem_append] at hw
              rcases hw with hw | hw
              · refine absurd hw ?_
                rw [not_refsL]
                intro a ha
                simp only [List.mem_map] at ha
                obtain ⟨x, _, rfl⟩ := ha
                exact hv x
              · have := hv f
                rw [hf] at this
                exact this (by simpa only [refsA] using hw)
            · exact hn.2 i hw
        · simp [Eff.l] at hw
      · simp only [Eff.l, List.flatMap_nil, List.nil_append] at hw
        obtain ⟨q1, q2⟩ := effM_site hw hv
        refine hsite' (.inl q1) ?_
        rw [q2]
        simp only [site]
        omega
  · cases hd : o.dst with
    | none => exact hn.1 i
    | some e =>
      simp only [put, upd]
      split
      · exact hr.1
      · exact hn.1 i
end
end Go.AX
