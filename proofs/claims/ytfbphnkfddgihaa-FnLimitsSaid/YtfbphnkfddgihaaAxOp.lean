/- One operation on an abstract state, as a condition on what follows. What is not plain from the program's text stands behind a name that evaluation does not open. -/
import Derived.Test.YtfbphnkfddgihaaAxClean
namespace Go.AX

/-! ### what the proof must bring -/
inductive Req (c k : Prop) : Prop
  | mk (h : c ∧ k) : Req c k
theorem Req.of {c k : Prop} (h : c) (hk : k) : Req c k := ⟨h, hk⟩
theorem Req.ex {c k : Prop} (h : Req c k) : c ∧ k := by cases h with | mk h => exact h
inductive Row (es : List (List D)) (i : Nat) (k : List D → Prop) : Prop
  | mk (h : ∃ cs, es[i]? = some cs ∧ k cs) : Row es i k
theorem Row.of {es : List (List D)} {i : Nat} {k : List D → Prop} (cs : List D) (h : es[i]? = some cs) (hk : k cs) : Row es i k := ⟨cs, h, hk⟩
theorem Row.ex {es : List (List D)} {i : Nat} {k : List D → Prop} (h : Row es i k) : ∃ cs, es[i]? = some cs ∧ k cs := by cases h with | mk h => exact h
inductive Take (es : List (List D)) (n : Nat) (k : List (List D) → Prop) : Prop
  | mk (h : n ≤ es.length ∧ k (es.take n)) : Take es n k
theorem Take.all {es : List (List D)} {n : Nat} {k : List (List D) → Prop} (h : n = es.length) (hk : k es) : Take es n k := by subst h; exact ⟨Nat.le_refl _, by rwa [List.take_length]⟩
theorem Take.of {es : List (List D)} {n : Nat} {k : List (List D) → Prop} (ys : List (List D)) (h : n ≤ es.length) (e : es.take n = ys) (hk : k ys) : Take es n k := ⟨h, e ▸ hk⟩
theorem Take.ex {es : List (List D)} {n : Nat} {k : List (List D) → Prop} (h : Take es n k) : n ≤ es.length ∧ k (es.take n) := by cases h with | mk h => exact h

/-! ### values brought to their form -/
def fcN {α : Type} (n : Nat) (k : Nat → α) : α :=
  match n with
  | 0 => k 0
  | m + 1 => k (m + 1)
theorem fcN_eq {α : Type} (n : Nat) (k : Nat → α) : fcN n k = k n := by cases n <;> rfl
/-- Where evaluation stops at a bool. -/
inductive Spl (b : Bool) (x y : Prop) : Prop
  | mk (h : (b = true → x) ∧ (b = false → y)) : Spl b x y
def fcD (x : D) (k : D → Prop) : Prop :=
  match x with
  | .int t n => k (.int t n)
  | .bool b => Spl b (k (.bool true)) (k (.bool false))
  | .str s => k (.str s)
  | .sl es => k (.sl es)
theorem Spl_eq (b : Bool) (k : Bool → Prop) : Spl b (k true) (k false) = k b := by
  apply propext
  constructor
  · rintro ⟨h⟩
    cases b
    · exact h.2 rfl
    · exact h.1 rfl
  · intro h
    exact ⟨fun e => e ▸ h, fun e => e ▸ h⟩
theorem fcD_eq (x : D) (k : D → Prop) : fcD x k = k x := by
  cases x with
  | bool b => exact Spl_eq b fun b => k (.bool b)
  | _ => rfl
theorem spl {b : Bool} {x y : Prop} (ht : b = true → x) (hf : b = false → y) : Spl b x y := ⟨ht, hf⟩
theorem splD {p : Prop} [Decidable p] {x y : Prop} (ht : p → x) (hf : ¬ p → y) : Spl (decide p) x y := ⟨fun h => ht (of_decide_eq_true h), fun h => hf (of_decide_eq_false h)⟩
theorem splN {p : Prop} [Decidable p] {x y : Prop} (ht : ¬ p → x) (hf : p → y) : Spl (!decide p) x y := ⟨fun h => ht (by simpa using h), fun h => hf (by simpa using h)⟩
theorem splT {x y : Prop} (h : x) : Spl true x y := ⟨fun _ => h, fun h => Bool.noConfusion h⟩
theorem splF {x y : Prop} (h : y) : Spl false x y := ⟨fun h => Bool.noConfusion h, fun _ => h⟩
noncomputable def fcA (a : A) (k : A → Prop) : Prop :=
  A.rec (motive_1 := fun _ => (A → Prop) → Prop) (motive_2 := fun _ => (List A → Prop) → Prop)
    (fun x k => fcD x fun x => k (.d x)) (fun k => k .es) (fun id n k => fcN id fun id => k (.os id n)) (fun id off k => fcN id fun id => fcN off fun off => k (.ptr id off))
    (fun id i sz off k => fcN id fun id => fcN sz fun sz => fcN off fun off => k (.pe id i sz off)) (fun cs k => k (.dp cs)) (fun f _ ih k => ih fun cap => k (.fn f cap))
    (fun _ ih k => ih fun cs => k (.agg cs)) (fun _ ih k => ih fun cs => k (.tup cs)) (fun k => k .undef) (fun k => k .junk)
    (fun k => k []) (fun _ _ ia il k => ia fun a => il fun l => k (a :: l)) a k
noncomputable def fcL (l : List A) (k : List A → Prop) : Prop :=
  A.rec_1 (motive_1 := fun _ => (A → Prop) → Prop) (motive_2 := fun _ => (List A → Prop) → Prop)
    (fun x k => fcD x fun x => k (.d x)) (fun k => k .es) (fun id n k => fcN id fun id => k (.os id n)) (fun id off k => fcN id fun id => fcN off fun off => k (.ptr id off))
    (fun id i sz off k => fcN id fun id => fcN sz fun sz => fcN off fun off => k (.pe id i sz off)) (fun cs k => k (.dp cs)) (fun f _ ih k => ih fun cap => k (.fn f cap))
    (fun _ ih k => ih fun cs => k (.agg cs)) (fun _ ih k => ih fun cs => k (.tup cs)) (fun k => k .undef) (fun k => k .junk)
    (fun k => k []) (fun _ _ ia il k => ia fun a => il fun l => k (a :: l)) l k
mutual
theorem fcA_eq : ∀ (a : A) (k : A → Prop), fcA a k = k a
  | .d x, k => fcD_eq x fun x => k (.d x)
  | .es, _ => rfl
  | .os id n, k => fcN_eq id fun id => k (.os id n)
  | .ptr id off, k => (fcN_eq id fun id => fcN off fun off => k (.ptr id off)).trans (fcN_eq off fun off => k (.ptr id off))
  | .pe id i sz off, k => ((fcN_eq id fun id => fcN sz fun sz => fcN off fun off => k (.pe id i sz off)).trans (fcN_eq sz fun sz => fcN off fun off => k (.pe id i sz off))).trans (fcN_eq off fun off => k (.pe id i sz off))
  | .dp _, _ => rfl
  | .fn f cap, k => fcL_eq cap fun cap => k (.fn f cap)
  | .agg cs, k => fcL_eq cs fun cs => k (.agg cs)
  | .tup cs, k => fcL_eq cs fun cs => k (.tup cs)
  | .undef, _ => rfl
  | .junk, _ => rfl
theorem fcL_eq : ∀ (l : List A) (k : List A → Prop), fcL l k = k l
  | [], _ => rfl
  | a :: l, k => (fcA_eq a fun a => fcL l fun l => k (a :: l)).trans (fcL_eq l fun l => k (a :: l))
end
def fcE (x : D) (k : D → Prop) : Prop :=
  match x with
  | .int t n => k (.int t n)
  | .bool b => k (.bool b)
  | .str s => k (.str s)
  | .sl es => k (.sl es)
theorem fcE_eq (x : D) (k : D → Prop) : fcE x k = k x := by cases x <;> rfl
/-- A value brought to its form, but for bools. -/
noncomputable def fcQ (a : A) (k : A → Prop) : Prop :=
  A.rec (motive_1 := fun _ => (A → Prop) → Prop) (motive_2 := fun _ => (List A → Prop) → Prop)
    (fun x k => fcE x fun x => k (.d x)) (fun k => k .es) (fun id n k => fcN id fun id => k (.os id n)) (fun id off k => fcN id fun id => fcN off fun off => k (.ptr id off))
    (fun id i sz off k => fcN id fun id => fcN sz fun sz => fcN off fun off => k (.pe id i sz off)) (fun cs k => k (.dp cs)) (fun f _ ih k => ih fun cap => k (.fn f cap))
    (fun _ ih k => ih fun cs => k (.agg cs)) (fun _ ih k => ih fun cs => k (.tup cs)) (fun k => k .undef) (fun k => k .junk)
    (fun k => k []) (fun _ _ ia il k => ia fun a => il fun l => k (a :: l)) a k
noncomputable def fcQL (l : List A) (k : List A → Prop) : Prop :=
  A.rec_1 (motive_1 := fun _ => (A → Prop) → Prop) (motive_2 := fun _ => (List A → Prop) → Prop)
    (fun x k => fcE x fun x => k (.d x)) (fun k => k .es) (fun id n k => fcN id fun id => k (.os id n)) (fun id off k => fcN id fun id => fcN off fun off => k (.ptr id off))
    (fun id i sz off k => fcN id fun id => fcN sz fun sz => fcN off fun off => k (.pe id i sz off)) (fun cs k => k (.dp cs)) (fun f _ ih k => ih fun cap => k (.fn f cap))
    (fun _ ih k => ih fun cs => k (.agg cs)) (fun _ ih k => ih fun cs => k (.tup cs)) (fun k => k .undef) (fun k => k .junk)
    (fun k => k []) (fun _ _ ia il k => ia fun a => il fun l => k (a :: l)) l k
mutual
theorem fcQ_eq : ∀ (a : A) (k : A → Prop), fcQ a k = k a
  | .d x, k => fcE_eq x fun x => k (.d x)
  | .es, _ => rfl
  | .os id n, k => fcN_eq id fun id => k (.os id n)
  | .ptr id off, k => (fcN_eq id fun id => fcN off fun off => k (.ptr id off)).trans (fcN_eq off fun off => k (.ptr id off))
  | .pe id i sz off, k => ((fcN_eq id fun id => fcN sz fun sz => fcN off fun off => k (.pe id i sz off)).trans (fcN_eq sz fun sz => fcN off fun off => k (.pe id i sz off))).trans (fcN_eq off fun off => k (.pe id i sz off))
  | .dp _, _ => rfl
  | .fn f cap, k => fcQL_eq cap fun cap => k (.fn f cap)
  | .agg cs, k => fcQL_eq cs fun cs => k (.agg cs)
  | .tup cs, k => fcQL_eq cs fun cs => k (.tup cs)
  | .undef, _ => rfl
  | .junk, _ => rfl
theorem fcQL_eq : ∀ (l : List A) (k : List A → Prop), fcQL l k = k l
  | [], _ => rfl
  | a :: l, k => (fcQ_eq a fun a => fcQL l fun l => k (a :: l)).trans (fcQL_eq l fun l => k (a :: l))
end
noncomputable def fcEs (l : List D) (k : List D → Prop) : Prop :=
  List.rec (motive := fun _ => (List D → Prop) → Prop) (fun k => k []) (fun a _ ih k => fcE a fun a => ih fun l => k (a :: l)) l k
theorem fcEs_eq : ∀ (l : List D) (k : List D → Prop), fcEs l k = k l
  | [], _ => rfl
  | a :: l, k => (fcE_eq a fun a => fcEs l fun l => k (a :: l)).trans (fcEs_eq l fun l => k (a :: l))
noncomputable def fcERs (l : List (List D)) (k : List (List D) → Prop) : Prop :=
  List.rec (motive := fun _ => (List (List D) → Prop) → Prop) (fun k => k []) (fun a _ ih k => fcEs a fun a => ih fun l => k (a :: l)) l k
theorem fcERs_eq : ∀ (l : List (List D)) (k : List (List D) → Prop), fcERs l k = k l
  | [], _ => rfl
  | a :: l, k => (fcEs_eq a fun a => fcERs l fun l => k (a :: l)).trans (fcERs_eq l fun l => k (a :: l))
def isBin : Op → Bool
  | .binOp _ _ _ _ _ => true
  | _ => false
/-- A result brought to its form; of comparisons bools too. -/
noncomputable def fcP (o : Op) (a : A) (k : A → Prop) : Prop :=
  match isBin o with
  | true => fcA a k
  | false => fcQ a k
theorem fcP_eq (o : Op) (a : A) (k : A → Prop) : fcP o a k = k a := by
  unfold fcP
  split
  · exact fcA_eq a k
  · exact fcQ_eq a k
def fcS (st : St) (k : St → Prop) : Prop :=
  match st with
  | ⟨n, t, h⟩ => k ⟨n, t, h⟩
theorem fcS_eq (st : St) (k : St → Prop) : fcS st k = k st := rfl

/-! ### operations that only compute -/
def eqK (P : Program) (t : TypeId) (xs ys : List A) (k : Bool → Prop) : Prop :=
  match P.underlying t with
  | some (.struct fs) => Req (P.stoodInHeld t = false ∧ P.eqGuardType P.depth t = false) (match eqF P xs ys fs.toList with
    | some b => k b
    | none => False)
  | _ => False
def binK (P : Program) (t : TypeId) (op : BinOp) (x y : A) (k : A → Prop) : Prop :=
  match op with
  | .quo => (match x, y with
    | .d (.int k1 a), .d (.int k2 b) => Req (b ≠ 0) (match decide (k1 = k2) with
      | true => k (.d (.int k1 (k1.wrap (a.tdiv b))))
      | false => False)
    | _, _ => False)
  | .rem => (match x, y with
    | .d (.int k1 a), .d (.int k2 b) => Req (b ≠ 0) (match decide (k1 = k2) with
      | true => k (.d (.int k1 (a.tmod b)))
      | false => False)
    | _, _ => False)
  | .add => (match x, y with
    | .d (.str a), .d (.str b) => Req (a.size + b.size ≤ 9223372036854775807) (k (.d (.str (a ++ b))))
    | x, y => (match binA P t .add x y with
      | some r => k r
      | none => False))
  | .eql => (match x, y with
    | .agg xs, .agg ys => eqK P t xs ys fun b => k (.d (.bool b))
    | x, y => (match binA P t .eql x y with
      | some r => k r
      | none => False))
  | .neq => (match x, y with
    | .agg xs, .agg ys => eqK P t xs ys fun b => k (.d (.bool (!b)))
    | x, y => (match binA P t .neq x y with
      | some r => k r
      | none => False))
  | op => match binA P t op x y with
    | some r => k r
    | none => False
def idxK (P : Program) (t : TypeId) (x i : A) (k : A → Prop) : Prop :=
  match i with
  | .d (.int _ i) => match x with
    | .d (.sl es) => (match elT P t with
      | some e => Req (0 ≤ i) (Row es i.toNat fun cs => match decide (cs.length = szT P e ∧ 0 < cs.length) with
        | true => k (.dp cs)
        | false => False)
      | none => False)
    | .os id n => (match elT P t with
      | some e => (match decide (szT P e ≠ 0) with
        | true => Req (0 ≤ i ∧ i < n) (k (.pe id i.toNat (szT P e) 0))
        | false => False)
      | none => False)
    | _ => False
  | _ => False
def oneK (r : Option A) (k : A → Prop) : Prop :=
  match r with
  | some r => k r
  | none => False
/-- x[l:] and x[:h] of deep rows, x[l:h] of strings. -/
def sliceK (P : Program) (t : TypeId) (x : A) (lo hi : Option A) (k : A → Prop) : Prop :=
  match x with
  | .d (.sl es) => (match elT P t with
    | some e => (match decide (0 < szT P e) with
      | true => (match lo, hi with
        | some (.d (.int _ lo)), none => Req (0 ≤ lo ∧ lo ≤ es.length ∧ (∀ cs ∈ es, cs.length = szT P e)) (k (.d (.sl (es.drop lo.toNat))))
        | none, some (.d (.int _ hi)) => Req (0 ≤ hi ∧ hi ≤ es.length ∧ (∀ cs ∈ es, cs.length = szT P e)) (k (.d (.sl (es.take hi.toNat))))
        | some (.d (.int _ lo)), some (.d (.int _ hi)) => Req (0 ≤ lo ∧ lo ≤ hi ∧ hi ≤ es.length ∧ (∀ cs ∈ es, cs.length = szT P e)) (k (.d (.sl ((es.take hi.toNat).drop lo.toNat))))
        | none, none => Req (∀ cs ∈ es, cs.length = szT P e) (k (.d (.sl es)))
        | _, _ => False)
      | false => False)
    | none => False)
  | .os id n => (match intA lo, intA hi, elT P t with
    | some lo, some hi, some e => (match decide (szT P e ≠ 0) with
      | true => Req (lo.getD 0 = 0 ∧ 0 ≤ hi.getD n ∧ hi.getD n ≤ n) (k (.os id (hi.getD n).toNat))
      | false => False)
    | _, _, _ => False)
  | .d (.str s) => (match intA lo, intA hi, P.underlying t with
    | some lo, some hi, some .string => Req (0 ≤ lo.getD 0 ∧ lo.getD 0 ≤ hi.getD s.size ∧ hi.getD s.size ≤ s.size) (k (.d (.str (s.extract (lo.getD 0).toNat (hi.getD s.size).toNat))))
    | _, _, _ => False)
  | _ => oneK (sliceA P t x lo hi) k
inductive Byte (s : ByteArray) (i : Nat) (k : UInt8 → Prop) : Prop
  | mk (h : ∃ b, s[i]? = some b ∧ k b) : Byte s i k
theorem Byte.of {s : ByteArray} {i : Nat} {k : UInt8 → Prop} (b : UInt8) (h : s[i]? = some b) (hk : k b) : Byte s i k := ⟨b, h, hk⟩
theorem Byte.ex {s : ByteArray} {i : Nat} {k : UInt8 → Prop} (h : Byte s i k) : ∃ b, s[i]? = some b ∧ k b := by cases h with | mk h => exact h
def indexK (P : Program) (t : TypeId) (x i : A) (k : A → Prop) : Prop :=
  match x, i with
  | .d (.str s), .d (.int _ i) => (match P.underlying t with
    | some .string => Req (0 ≤ i) (Byte s i.toNat fun b => k (.d (.int .u8 b.toNat)))
    | _ => False)
  | _, _ => False
def pureK (P : Program) (o : Op) (ρ : Operand → A) (k : A → Prop) : Prop :=
  match o with
  | .binOp op t x y _ => binK P t op (ρ x) (ρ y) k
  | .indexAddr t x i => idxK P t (ρ x) (ρ i) k
  | .index t x i => indexK P t (ρ x) (ρ i) k
  | .slice t x lo hi none => sliceK P t (ρ x) (lo.map ρ) (hi.map ρ) k
  | .pick c a b => (match ρ c with
    | .d (.bool true) => k (ρ a)
    | .d (.bool false) => k (ρ b)
    | _ => False)
  | o => oneK (pureA P o ρ) k

section
variable {P : Program}
theorem oneK_ex {r : Option A} {k : A → Prop} (h : oneK r k) : ∃ x, r = some x ∧ k x := by
  unfold oneK at h
  split at h
  · exact ⟨_, rfl, h⟩
  · exact h.elim
theorem eqK_ex {t : TypeId} {xs ys : List A} {k : Bool → Prop} (h : eqK P t xs ys k) : ∃ b, eqA P t xs ys = some b ∧ k b := by
  unfold eqK at h
  split at h
  · rename_i fs hu
    obtain ⟨hc, h⟩ := h.ex
    split at h
    · rename_i b hb
      exact ⟨b, by simp only [eqA, hu]; rw [if_pos hc]; exact hb, h⟩
    · exact h.elim
  · exact h.elim
theorem binK_ex {t : TypeId} {op : BinOp} {x y : A} {k : A → Prop} (h : binK P t op x y k) : ∃ r, binA P t op x y = some r ∧ k r := by
  unfold binK at h
  split at h
  · split at h
    · obtain ⟨hb, h⟩ := h.ex
      split at h
      · rename_i hk
        exact ⟨_, by simp only [binA]; rw [if_pos (of_decide_eq_true hk), if_neg hb], h⟩
      · exact h.elim
    · exact h.elim
  · split at h
    · obtain ⟨hb, h⟩ := h.ex
      split at h
      · rename_i hk
        exact ⟨_, by simp only [binA]; rw [if_pos (of_decide_eq_true hk), if_neg hb], h⟩
      · exact h.elim
    · exact h.elim
  · split at h
    · obtain ⟨hb, h⟩ := h.ex
      exact ⟨_, by simp only [binA]; rw [if_pos hb], h⟩
    · split at h
      · rename_i r hr; exact ⟨r, hr, h⟩
      · exact h.elim
  · split at h
    · obtain ⟨b, hb, h⟩ := eqK_ex h
      exact ⟨_, by simp only [binA, hb, Option.map_some], h⟩
    · split at h
      · rename_i r hr; exact ⟨r, hr, h⟩
      · exact h.elim
  · split at h
    · obtain ⟨b, hb, h⟩ := eqK_ex h
      exact ⟨_, by simp only [binA, hb, Option.map_some], h⟩
    · split at h
      · rename_i r hr; exact ⟨r, hr, h⟩
      · exact h.elim
  · split at h
    · rename_i r hr; exact ⟨r, hr, h⟩
    · exact h.elim
theorem idxK_ex {t : TypeId} {x i : A} {k : A → Prop} (h : idxK P t x i k) : ∃ r, idxA P t x i = some r ∧ k r := by
  unfold idxK at h
  split at h
  · split at h
    · split at h
      · rename_i e he
        obtain ⟨h0, h⟩ := h.ex
        obtain ⟨cs, hcs, h⟩ := h.ex
        split at h
        · rename_i hd
          have hd := of_decide_eq_true hd
          refine ⟨_, ?_, h⟩
          simp only [idxA, he]
          rw [if_pos h0, hcs]
          simp only
          rw [if_pos ⟨hd.1, fun e => by rw [e] at hd; exact absurd hd.2 (by simp)⟩]
        · exact h.elim
      · exact h.elim
    · split at h
      · rename_i e he
        split at h
        · rename_i hd
          obtain ⟨h0, h⟩ := h.ex
          exact ⟨_, by simp only [idxA, he]; rw [if_pos ⟨h0.1, h0.2, of_decide_eq_true hd⟩], h⟩
        · exact h.elim
      · exact h.elim
    · exact h.elim
  · exact h.elim
theorem sliceK_ex {t : TypeId} {x : A} {lo hi : Option A} {k : A → Prop} (h : sliceK P t x lo hi k) : ∃ r, sliceA P t x lo hi = some r ∧ k r := by
  unfold sliceK at h
  split at h
  · rename_i es
    split at h
    · rename_i e he
      split at h
      · rename_i hd
        have hd := of_decide_eq_true hd
        split at h
        · obtain ⟨⟨h1, h2, h3⟩, hk⟩ := h.ex
          refine ⟨_, ?_, hk⟩
          simp only [sliceA, intA, he, Option.getD_some, Option.getD_none]
          rw [if_pos ⟨h1, h2, Int.le_refl _, hd, h3⟩, Int.toNat_natCast, List.take_length]
        · obtain ⟨⟨h1, h2, h3⟩, hk⟩ := h.ex
          refine ⟨_, ?_, hk⟩
          simp only [sliceA, intA, he, Option.getD_some, Option.getD_none]
          rw [if_pos ⟨Int.le_refl _, h1, h2, hd, h3⟩]; rfl
        · obtain ⟨⟨h1, h2, h3, h4⟩, hk⟩ := h.ex
          refine ⟨_, ?_, hk⟩
          simp only [sliceA, intA, he, Option.getD_some]
          rw [if_pos ⟨h1, h2, h3, hd, h4⟩]
        · obtain ⟨h3, hk⟩ := h.ex
          refine ⟨_, ?_, hk⟩
          simp only [sliceA, intA, he, Option.getD_none]
          rw [if_pos ⟨Int.le_refl _, Int.natCast_nonneg _, Int.le_refl _, hd, h3⟩, Int.toNat_natCast, List.take_length]; rfl
        · exact h.elim
      · exact h.elim
    · exact h.elim
  · split at h
    · rename_i lo' hi' e h1 h2 he
      split at h
      · rename_i hd
        obtain ⟨h0, h⟩ := h.ex
        refine ⟨_, ?_, h⟩
        simp only [sliceA, h1, h2, he]
        rw [if_pos ⟨h0.1, h0.2.1, h0.2.2, of_decide_eq_true hd⟩]
      · exact h.elim
    · exact h.elim
  · split at h
    · rename_i lo' hi' h1 h2 he
      obtain ⟨h0, h⟩ := h.ex
      refine ⟨_, ?_, h⟩
      simp only [sliceA, h1, h2, he]
      rw [if_pos h0]
    · exact h.elim
  · exact oneK_ex h
theorem indexK_ex {t : TypeId} {x i : A} {k : A → Prop} (h : indexK P t x i k) : ∃ r, indexA P t x i = some r ∧ k r := by
  unfold indexK at h
  split at h
  · split at h
    · rename_i he
      obtain ⟨h0, h⟩ := h.ex
      obtain ⟨b, hb, h⟩ := h.ex
      refine ⟨_, ?_, h⟩
      simp only [indexA, he]
      rw [if_pos h0, hb]
    · exact h.elim
  · exact h.elim
theorem pureK_ex {o : Op} {ρ : Operand → A} {k : A → Prop} (h : pureK P o ρ k) : ∃ r, pureA P o ρ = some r ∧ k r := by
  unfold pureK at h
  split at h
  · exact binK_ex h
  · exact idxK_ex h
  · exact indexK_ex h
  · exact sliceK_ex h
  · rename_i c a b
    split at h
    · rename_i hc
      exact ⟨_, by simp only [pureA, hc], h⟩
    · rename_i hc
      exact ⟨_, by simp only [pureA, hc], h⟩
    · exact h.elim
  · exact oneK_ex h

end
end Go.AX
