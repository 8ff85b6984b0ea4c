/- What an abstract value says of a value of the machine; the operations that only compute. -/
import Derived.Test.YtfbphnkfddgihaaAxDef
import Derived.Tactics
import Derived.Laws.OwnMore
import Derived.Maps.AppendAt
import Derived.WalkKit
namespace Go.AX

def at2 {α : Type} (es : List (List α)) (i j : Nat) : Option α := (es[i]?).bind fun e => e[j]?

/-- A value reads as a datum; what it leads to lies in blocks of F. -/
inductive Rep (w : World) (F : Nat → Prop) : Value → D → Prop
  | int (k : IntKind) (n : Int) : Rep w F (.int k n) (.int k n)
  | bool (b : Bool) : Rep w F (.bool b) (.bool b)
  | str (s : ByteArray) : Rep w F (.string s) (.str s)
  | sl (a : Option Addr) (c sz : Nat) (es : List (List D)) (vs : Nat → Nat → Value) (hc : es.length ≤ c) (hsz : ∀ e ∈ es, e.length = sz)
      (ha : ∀ i j x, at2 es i j = some x → ∃ ad, a = some ad ∧ F ad.block ∧ w.cell? (ad.add (i * sz + j)) = some (vs i j))
      (hr : ∀ i j x, at2 es i j = some x → Rep w F (vs i j) x) : Rep w F (.slice a es.length c) (.sl es)

/-- A value reads as a datum; what it leads to are blocks of B, each one led to once. -/
inductive RepX (w : World) : List Nat → Value → D → Prop
  | int (k : IntKind) (n : Int) : RepX w [] (.int k n) (.int k n)
  | bool (b : Bool) : RepX w [] (.bool b) (.bool b)
  | str (s : ByteArray) : RepX w [] (.string s) (.str s)
  | nil (a : Option Addr) (c : Nat) : RepX w [] (.slice a 0 c) (.sl [])
  | sl (b c sz : Nat) (es : List (List D)) (cs : Array Value) (t : TypeId) (vs : Nat → Nat → Value) (Bs : Nat → Nat → List Nat)
      (hb : w.heap[b]? = some (.cells cs t (0, 0))) (hc : es.length ≤ c) (hsz : ∀ e ∈ es, e.length = sz)
      (ha : ∀ i j x, at2 es i j = some x → cs[i * sz + j]? = some (vs i j))
      (hr : ∀ i j x, at2 es i j = some x → RepX w (Bs i j) (vs i j) x)
      (B : List Nat) (hB : b ∈ B) (hsub : ∀ i j x, at2 es i j = some x → ∀ b' ∈ Bs i j, b' ∈ B ∧ b' ≠ b)
      (hdis : ∀ i j x i' j' x', at2 es i j = some x → at2 es i' j' = some x' → i ≠ i' ∨ j ≠ j' → ∀ b' ∈ Bs i j, b' ∉ Bs i' j') :
      RepX w B (.slice (some ⟨b, 0, none⟩) es.length c) (.sl es)

/-- The objects' places: block and capacity; the blocks that each owns; the blocks that nobody writes any more. -/
structure Mu where
  m : Nat → Option (Nat × Nat)
  own : Nat → List Nat
  F : Nat → Prop

mutual
def RepA (w : World) (M : Mu) : A → Value → Prop
  | .d x, v => Rep w M.F v x
  | .es, v => v = .slice none 0 0
  | .os id n, v => match M.m id with
    | some (b, c) => n ≤ c ∧ v = .slice (some ⟨b, 0, none⟩) n c
    | none => n = 0 ∧ v = .slice none 0 0
  | .ptr id off, v => ∃ b c, M.m id = some (b, c) ∧ v = .pointer (some ⟨b, off, none⟩)
  | .pe id i sz off, v => ∃ b c, M.m id = some (b, c) ∧ v = .pointer (some ⟨b, i * sz + off, none⟩)
  | .dp cs, v => ∃ (ad : Addr) (vs : Nat → Value), v = .pointer (some ad) ∧ ∀ j x, cs[j]? = some x → M.F ad.block ∧ w.cell? (ad.add j) = some (vs j) ∧ Rep w M.F (vs j) x
  | .fn f cap, v => ∃ vs : List Value, v = .func (.func f) #[] vs.toArray ∧ RepL w M cap vs
  | .agg cs, v => ∃ vs : List Value, v = .agg vs.toArray ∧ RepL w M cs vs
  | .tup cs, v => ∃ vs : List Value, v = .tuple vs.toArray ∧ RepL w M cs vs
  | .undef, v => v = undef
  | .junk, _ => True
def RepL (w : World) (M : Mu) : List A → List Value → Prop
  | [], [] => True
  | a :: l, v :: vs => RepA w M a v ∧ RepL w M l vs
  | [], _ :: _ => False
  | _ :: _, [] => False
end

section
variable {w : World} {M : Mu}

theorem RepL.length {l : List A} {vs : List Value} (h : RepL w M l vs) : l.length = vs.length := by
  induction l generalizing vs with
  | nil => cases vs <;> simp_all [RepL]
  | cons a l ih => cases vs with
    | nil => simp [RepL] at h
    | cons v vs => simp only [RepL] at h; simp [ih h.2]
theorem RepL.get {l : List A} {vs : List Value} (h : RepL w M l vs) {i : Nat} {a : A} (hi : l[i]? = some a) : ∃ v, vs[i]? = some v ∧ RepA w M a v := by
  induction l generalizing vs i with
  | nil => simp at hi
  | cons b l ih => cases vs with
    | nil => simp [RepL] at h
    | cons v vs =>
      simp only [RepL] at h
      cases i with
      | zero => simp at hi; subst hi; exact ⟨v, by simp, h.1⟩
      | succ i => simp at hi; obtain ⟨u, hu, hr⟩ := ih h.2 hi; exact ⟨u, by simpa using hu, hr⟩
theorem RepL.append {l l' : List A} {vs vs' : List Value} (h : RepL w M l vs) (h' : RepL w M l' vs') : RepL w M (l ++ l') (vs ++ vs') := by
  induction l generalizing vs with
  | nil => cases vs with
    | nil => simpa using h'
    | cons v vs => simp [RepL] at h
  | cons b l ih => cases vs with
    | nil => simp [RepL] at h
    | cons v vs => simp only [RepL] at h; exact ⟨h.1, ih h.2⟩
theorem RepL.take {l : List A} {vs : List Value} (h : RepL w M l vs) (n : Nat) : RepL w M (l.take n) (vs.take n) := by
  induction l generalizing vs n with
  | nil => cases vs <;> simp_all [RepL]
  | cons b l ih => cases vs with
    | nil => simp [RepL] at h
    | cons v vs => cases n with
      | zero => simp [RepL]
      | succ n => simp only [RepL] at h; exact ⟨h.1, ih h.2 n⟩
theorem RepL.drop {l : List A} {vs : List Value} (h : RepL w M l vs) (n : Nat) : RepL w M (l.drop n) (vs.drop n) := by
  induction l generalizing vs n with
  | nil => cases vs <;> simp_all [RepL]
  | cons b l ih => cases vs with
    | nil => simp [RepL] at h
    | cons v vs => cases n with
      | zero => exact h
      | succ n => simp only [RepL] at h; simpa using ih h.2 n
theorem RepL.putAt {l l' : List A} {vs vs' : List Value} (h : RepL w M l vs) (h' : RepL w M l' vs') (off : Nat) : RepL w M (putAt l off l') (putAt vs off vs') := by
  unfold AX.putAt
  rw [h'.length]
  exact ((h.take off).append h').append (h.drop _)
theorem repL_map {ι : Type} {xs : List ι} {f : ι → A} {g : ι → Value} (h : ∀ x ∈ xs, RepA w M (f x) (g x)) : RepL w M (xs.map f) (xs.map g) := by
  induction xs with
  | nil => simp [RepL]
  | cons x xs ih => simp only [List.map_cons, RepL]; exact ⟨h x (by simp), ih fun y hy => h y (by simp [hy])⟩

theorem ofLeaf_rep (v : Value) : RepA w M (ofLeaf v) v := by
  unfold ofLeaf
  split <;> simp only [RepA]
  · exact .int _ _
  · exact .bool _
  · exact .str _
theorem ofV_rep (v : Value) : RepA w M (ofV v) v := by
  unfold ofV
  split
  · rename_i cs
    simp only [RepA]
    refine ⟨cs.toList, rfl, ?_⟩
    have := repL_map (w := w) (M := M) (xs := cs.toList) (f := ofLeaf) (g := id) fun x _ => ofLeaf_rep x
    simpa using this
  · exact ofLeaf_rep _

theorem val_rep {t : Nat → A} {h : Nat → O} {n : Nat} {a : Act} (ht : ∀ i, RepA w M (t i) (a.tmps.getD i undef)) (x : Operand) : RepA w M (val ⟨n, t, h⟩ x) (a.eval x) := by
  cases x with
  | tmp i => exact ht i
  | const v => exact ofV_rep v
  | global g => simp [val, RepA]
  | func f => simp only [val, RepA, Act.eval]; exact ⟨[], rfl, by simp [RepL]⟩

/-! ### scalars -/
theorem rep_int {F : Nat → Prop} {v : Value} {k : IntKind} {n : Int} (h : Rep w F v (.int k n)) : v = .int k n := by cases h; rfl
theorem rep_bool {F : Nat → Prop} {v : Value} {b : Bool} (h : Rep w F v (.bool b)) : v = .bool b := by cases h; rfl
theorem rep_str {F : Nat → Prop} {v : Value} {s : ByteArray} (h : Rep w F v (.str s)) : v = .string s := by cases h; rfl
end

section
variable {P : Program} {w : World} {M : Mu}

theorem i64max : IntKind.i64.max = 9223372036854775807 := by decide
theorem part_leaf {t : TypeId} {d : TypeDesc} (hu : P.underlying t = some d) (hd : (match d with | .struct _ | .array _ _ => true | _ => false) = false) (cs : Array Value) (off : Nat) {v : Value} (h : cs[off]? = some v) :
    (part t cs off).run P w = .ok v w := by
  unfold part isAgg
  simp only [Sem.run_bind, run_underlying hu, Result.andThen_ok]
  cases d <;> simp_all
theorem eqF_sound {xs ys : List A} {vx vy : List Value} (d : Nat) (fs : List Field) {b : Bool} (h : eqF P xs ys fs = some b) (hx : RepL w M xs vx) (hy : RepL w M ys vy) :
    (Op.eqFields (d + 1) vx.toArray vy.toArray fs).run P w = .ok b w := by
  induction fs generalizing b with
  | nil => simp only [eqF, Option.some.injEq] at h; subst h; simp [Op.eqFields]
  | cons f fs ih =>
    unfold eqF at h
    split at h
    · cases h
    · rename_i hn
      split at h
      · rename_i k0 k a k' b' r hu h1 h2 hr
        split at h
        · rename_i hk
          subst hk
          injection h with h
          subst h
          obtain ⟨v1, g1, r1⟩ := hx.get h1
          obtain ⟨v2, g2, r2⟩ := hy.get h2
          simp only [RepA] at r1 r2
          rw [rep_int r1] at g1
          rw [rep_int r2] at g2
          simp only [Op.eqFields, if_pos hn, Sem.run_bind, part_leaf hu rfl vx.toArray f.offset (by simpa using g1), part_leaf hu rfl vy.toArray f.offset (by simpa using g2), Result.andThen_ok, run_equalIn_int w d f.type k k0 a b' hu]
          by_cases hab : a = b'
          · subst hab; simp [ih hr]
          · simp [hab]
        · cases h
      · rename_i a b' r hu h1 h2 hr
        injection h with h
        subst h
        obtain ⟨v1, g1, r1⟩ := hx.get h1
        obtain ⟨v2, g2, r2⟩ := hy.get h2
        simp only [RepA] at r1 r2
        rw [rep_bool r1] at g1
        rw [rep_bool r2] at g2
        simp only [Op.eqFields, if_pos hn, Sem.run_bind, part_leaf hu rfl vx.toArray f.offset (by simpa using g1), part_leaf hu rfl vy.toArray f.offset (by simpa using g2), Result.andThen_ok, run_equalIn_bool' w d f.type a b' hu]
        cases hab : a == b'
        · simp
        · simp [ih hr]
      · rename_i a b' r hu h1 h2 hr
        injection h with h
        subst h
        obtain ⟨v1, g1, r1⟩ := hx.get h1
        obtain ⟨v2, g2, r2⟩ := hy.get h2
        simp only [RepA] at r1 r2
        rw [rep_str r1] at g1
        rw [rep_str r2] at g2
        simp only [Op.eqFields, if_pos hn, Sem.run_bind, part_leaf hu rfl vx.toArray f.offset (by simpa using g1), part_leaf hu rfl vy.toArray f.offset (by simpa using g2), Result.andThen_ok, run_equalIn_string w d f.type a b' hu]
        cases hab : a.toList == b'.toList
        · simp
        · simp [ih hr]
      · cases h
theorem bin_sound (op : BinOp) (xT : TypeId) (xo yo : Operand) {x y r : A} {v u : Value} (h : binA P xT op x y = some r) (hx : RepA w M x v) (hy : RepA w M y u) :
    ∃ z, (do eqGuard op xT xo yo v u; binOp op xT v u : Sem Value).run P w = .ok z w ∧ RepA w M r z := by
  unfold binA at h
  split at h
  · rename_i k a k' b
    simp only [RepA] at hx hy
    rw [rep_int hx, rep_int hy]
    have hg : ∀ op, (eqGuard op xT xo yo (.int k a) (.int k' b)).run P w = .ok () w := by
      intro op
      unfold eqGuard
      split <;> simp
    rw [Sem.run_bind, hg, Result.andThen_ok]
    split at h
    · split at h
      · injection h with h; subst h
        refine ⟨_, ?_, .int _ _⟩
        simp only [binOp, Op.shift]
        rw [if_neg (by omega)]
        simp
      · cases h
    · split at h
      · injection h with h; subst h
        refine ⟨_, ?_, .int _ _⟩
        simp only [binOp, Op.shift]
        rw [if_neg (by omega)]
        simp
      · cases h
    · split at h
      · rename_i hk
        subst hk
        split at h <;> first
          | (injection h with h; subst h; exact ⟨_, by simp [binOp, Op.intArith, Op.intBits, Op.intCmp] <;> rfl, by first | exact .int _ _ | exact .bool _⟩)
          | (split at h
             · cases h
             · rename_i hb; injection h with h; subst h; exact ⟨_, by simp [binOp, Op.intDiv, hb] <;> rfl, .int _ _⟩)
          | cases h
      · cases h
  · rename_i a b
    simp only [RepA] at hx hy
    rw [rep_bool hx, rep_bool hy]
    have hg : ∀ op, (eqGuard op xT xo yo (.bool a) (.bool b)).run P w = .ok () w := by
      intro op
      unfold eqGuard
      split <;> simp
    rw [Sem.run_bind, hg, Result.andThen_ok]
    have ht : isBoolT P xT = true → P.underlying xT = some .bool := by
      intro hq
      unfold isBoolT at hq
      split at hq
      · assumption
      · cases hq
    split at h <;> first
      | (split at h
         · rename_i hb; injection h with h; subst h; exact ⟨_, by simp [binOp, run_equal_bool w xT a b (ht hb)] <;> rfl, .bool _⟩
         · cases h)
      | cases h
  · rename_i xs ys
    simp only [RepA] at hx hy
    obtain ⟨vx, rfl, hx⟩ := hx
    obtain ⟨vy, rfl, hy⟩ := hy
    have key : ∀ b, eqA P xT xs ys = some b → (eqGuard op xT xo yo (.agg vx.toArray) (.agg vy.toArray)).run P w = .ok () w ∧ (Op.equalIn 10000 xT (.agg vx.toArray) (.agg vy.toArray)).run P w = .ok b w := by
      intro b hb
      unfold eqA at hb
      split at hb
      · rename_i fs hfs
        split at hb
        · rename_i hc
          have hu : P.underlying xT = some (.struct (P.fieldsOf xT)) := by simp [Program.fieldsOf, hfs]
          refine ⟨run_eqGuard_agg w op xT xo yo _ _ hc.2, ?_⟩
          rw [run_equalIn_struct w 9999 xT _ _ hu hc.1]
          have : (P.fieldsOf xT).toList = fs.toList := by simp [Program.fieldsOf, hfs]
          rw [this]
          exact eqF_sound 9998 fs.toList hb hx hy
        · cases hb
      · cases hb
    split at h
    · cases he : eqA P xT xs ys with
      | none => simp [he] at h
      | some b =>
        simp only [he, Option.map_some, Option.some.injEq] at h
        subst h
        obtain ⟨h1, h2⟩ := key b he
        exact ⟨.bool b, by rw [Sem.run_bind, h1, Result.andThen_ok, run_eql_struct, h2]; rfl, .bool _⟩
    · cases he : eqA P xT xs ys with
      | none => simp [he] at h
      | some b =>
        simp only [he, Option.map_some, Option.some.injEq] at h
        subst h
        obtain ⟨h1, h2⟩ := key b he
        exact ⟨.bool (!b), by rw [Sem.run_bind, h1, Result.andThen_ok, run_neq_struct, h2]; rfl, .bool _⟩
    · cases h
  · rename_i a b
    simp only [RepA] at hx hy
    rw [rep_str hx, rep_str hy]
    have hg : ∀ op, (eqGuard op xT xo yo (.string a) (.string b)).run P w = .ok () w := by
      intro op
      unfold eqGuard
      split <;> simp
    rw [Sem.run_bind, hg, Result.andThen_ok]
    split at h <;> first
      | (injection h with h; subst h; exact ⟨_, by simp [binOp, Op.stringOp] <;> rfl, .bool _⟩)
      | (split at h
         · rename_i hb; injection h with h; subst h; exact ⟨_, by simp only [binOp, Op.stringOp]; rw [if_neg (by rw [i64max]; omega)]; rfl, .str _⟩
         · cases h)
      | cases h
  · cases h
end
end Go.AX
