/- What the printed functions compute: plain data. -/
import Derived.Test.YthpgpgkigkobbaaFunG0
set_option linter.unusedVariables false
set_option linter.unusedSimpArgs false
namespace Go.Proofs.Try
open Go Go.AX

theorem wid {n : Int} (h1 : -9223372036854775808 ≤ n) (h2 : n < 9223372036854775808) : IntKind.i64.wrap n = n := wrap_in h1 h2
/-- An ordinal: its terms, exponents and coefficients. -/
inductive T where
  | nil
  | cons (e : T) (c : Int) (l : T)
namespace T
def rows : T → Rw
  | nil => []
  | cons e c l => [.sl (rows e), .int .i64 c] :: rows l
def size : T → Nat
  | nil => 0
  | cons e _ l => size e + size l + 1
def len : T → Nat
  | nil => 0
  | cons _ _ l => len l + 1
def drop : T → Nat → T
  | t, 0 => t
  | nil, _ + 1 => nil
  | cons _ _ l, n + 1 => drop l n
def app : T → T → T
  | nil, b => b
  | cons e c l, b => cons e c (app l b)
@[simp] theorem drop_zero (t : T) : drop t 0 = t := by cases t <;> rfl
@[simp] theorem drop_nil (n : Nat) : drop nil n = nil := by cases n <;> rfl
@[simp] theorem rows_len (t : T) : (rows t).length = len t := by
  induction t with
  | nil => rfl
  | cons e c l _ ih => simp [rows, len, ih]
theorem len_size (t : T) : len t ≤ size t := by
  induction t with
  | nil => simp [len]
  | cons e c l _ ih => simp [len, size]; omega
@[simp] theorem rows_app (a b : T) : rows (app a b) = rows a ++ rows b := by
  induction a with
  | nil => rfl
  | cons e c l _ ih => simp [app, rows, ih]
theorem rows_drop (t : T) (i : Nat) : rows (drop t i) = (rows t).drop i := by
  induction t generalizing i with
  | nil => cases i <;> simp [drop, rows]
  | cons e c l _ ih => cases i with
    | zero => simp [drop]
    | succ i => simp [drop, rows, ih]
theorem rowsWide (t : T) : ∀ cs ∈ rows t, cs.length = 2 := by
  induction t with
  | nil => intro cs h; cases h
  | cons e c l _ ih =>
    intro cs h
    simp only [rows, List.mem_cons] at h
    rcases h with rfl | h
    · rfl
    · exact ih cs h
theorem rowsWide_drop (t : T) (i : Nat) : ∀ cs ∈ (rows t).drop i, cs.length = 2 := fun cs h => rowsWide t cs (List.mem_of_mem_drop h)
theorem drop_len (t : T) (i : Nat) : len (drop t i) = len t - i := by rw [← rows_len, rows_drop, List.length_drop, rows_len]
theorem drop_succ {t : T} {i : Nat} {e : T} {c : Int} {l : T} (h : drop t i = cons e c l) : drop t (i + 1) = l := by
  induction t generalizing i with
  | nil => simp at h
  | cons e' c' l' _ ih =>
    cases i with
    | zero => simp only [drop, cons.injEq] at h ⊢; simp [h.2.2]
    | succ i => exact ih h
theorem drop_size {t : T} {i : Nat} : size (drop t i) ≤ size t := by
  induction t generalizing i with
  | nil => simp
  | cons e c l _ ih =>
    cases i with
    | zero => simp
    | succ i => simp only [drop, size]; have := ih (i := i); omega
theorem drop_cons_size {t : T} {i : Nat} {e : T} {c : Int} {l : T} (h : drop t i = cons e c l) : size e + size l + 1 ≤ size t := by
  have := drop_size (t := t) (i := i); rw [h] at this; exact this
theorem drop_lt {t : T} {i : Nat} {e : T} {c : Int} {l : T} (h : drop t i = cons e c l) : i < len t := by
  have := drop_len t i; rw [h] at this; simp only [len] at this; omega
theorem drop_ge {t : T} {i : Nat} (h : drop t i = nil) : len t ≤ i := by
  have := drop_len t i; rw [h] at this; simp only [len] at this; omega
theorem drop_of_ge {t : T} {i : Nat} (h : len t ≤ i) : drop t i = nil := by
  have := drop_len t i
  cases hd : drop t i with
  | nil => rfl
  | cons e c l => rw [hd] at this; simp only [len] at this; omega
theorem rows_get {t : T} {i : Nat} {e : T} {c : Int} {l : T} (h : drop t i = cons e c l) : (rows t)[i]? = some [.sl (rows e), .int .i64 c] := by
  have := rows_drop t i
  rw [h] at this
  have h2 : ((rows t).drop i)[0]? = some [.sl (rows e), .int .i64 c] := by rw [← this]; rfl
  rwa [List.getElem?_drop, Nat.add_zero] at h2
@[simp] theorem app_nil (t : T) : app t nil = t := by
  induction t with
  | nil => rfl
  | cons e c l _ ih => simp [app, ih]
theorem app_assoc (a b c : T) : app (app a b) c = app a (app b c) := by
  induction a with
  | nil => rfl
  | cons e k l _ ih => simp [app, ih]
theorem size_app (a b : T) : (app a b).size = a.size + b.size := by
  induction a with
  | nil => simp [app, size]
  | cons e c l _ ih => simp [app, size, ih]; omega
theorem len_app (a b : T) : (app a b).len = a.len + b.len := by
  induction a with
  | nil => simp [app, len]
  | cons e c l _ ih => simp [app, len, ih]; omega
theorem rows_inj : ∀ {a b : T}, rows a = rows b → a = b
  | nil, nil, _ => rfl
  | nil, cons _ _ _, h => by simp [rows] at h
  | cons _ _ _, nil, h => by simp [rows] at h
  | cons e c l, cons f d m, h => by
    simp only [rows, List.cons.injEq, D.sl.injEq, D.int.injEq, true_and, and_true] at h
    obtain ⟨⟨h1, h2⟩, h3⟩ := h
    rw [rows_inj h1, h2, rows_inj h3]
end T
open T
theorem row_rows {α : Type} {t : T} {i : Int} {n : Nat} (hi : i = n) {e : T} {c : Int} {l : T} (h : drop t n = cons e c l) (F : Rw → List D → Option α) : (if 0 ≤ i then (match (rows t)[i.toNat]? with | some cs => F (rows t) cs | none => none) else none) = F (rows t) [.sl (rows e), .int .i64 c] := by
  subst hi
  rw [if_pos (by omega), Int.toNat_natCast, rows_get h]

/-! ### the order -/
def cmpI (a b : Int) : Int := if a < b then -1 else if b < a then 1 else 0
def cmpT : T → T → Int
  | nil, nil => 0
  | nil, cons _ _ _ => -1
  | cons _ _ _, nil => 1
  | cons e c l, cons f d m => if cmpT e f = 0 then (if cmpI c d = 0 then cmpT l m else cmpI c d) else cmpT e f
theorem cmpI_refl (a : Int) : cmpI a a = 0 := by simp [cmpI]
theorem cmpI_eq {a b : Int} : cmpI a b = 0 ↔ a = b := by unfold cmpI; split <;> (try split) <;> simp <;> omega
theorem cmpI_neg (a b : Int) : cmpI b a = - cmpI a b := by unfold cmpI; split <;> split <;> (try split) <;> omega
theorem cmpT_range (a b : T) : cmpT a b = -1 ∨ cmpT a b = 0 ∨ cmpT a b = 1 := by
  induction a generalizing b with
  | nil => cases b <;> simp [cmpT]
  | cons e c l ihe ihl =>
    cases b with
    | nil => simp [cmpT]
    | cons f d m =>
      simp only [cmpT]
      split
      · split
        · exact ihl m
        · unfold cmpI; split <;> (try split) <;> simp
      · exact ihe f
theorem cmpT_refl (a : T) : cmpT a a = 0 := by
  induction a with
  | nil => rfl
  | cons e c l ihe ihl => simp [cmpT, ihe, ihl, cmpI_refl]
theorem cmpT_eq {a b : T} : cmpT a b = 0 ↔ a = b := by
  induction a generalizing b with
  | nil => cases b <;> simp [cmpT]
  | cons e c l ihe ihl =>
    cases b with
    | nil => simp [cmpT]
    | cons f d m =>
      simp only [cmpT, cons.injEq]
      constructor
      · intro h
        split at h
        · rename_i h1
          split at h
          · rename_i h2; exact ⟨ihe.1 h1, cmpI_eq.1 h2, ihl.1 h⟩
          · rename_i h2; exact absurd h h2
        · rename_i h1; exact absurd h h1
      · rintro ⟨rfl, rfl, rfl⟩
        rw [if_pos (cmpT_refl e), if_pos (cmpI_refl c)]; exact cmpT_refl l
theorem cmpT_neg (a b : T) : cmpT b a = - cmpT a b := by
  induction a generalizing b with
  | nil => cases b <;> simp [cmpT]
  | cons e c l ihe ihl =>
    cases b with
    | nil => simp [cmpT]
    | cons f d m =>
      simp only [cmpT, ihe f, ihl m, cmpI_neg c d]
      split <;> split <;> (try split) <;> (try split) <;> omega
theorem cmpI_trans {a b c : Int} (h1 : cmpI a b < 0) (h2 : cmpI b c < 0) : cmpI a c < 0 := by
  unfold cmpI at *
  split at h1 <;> (try split at h1) <;> split at h2 <;> (try split at h2) <;> split <;> (try split) <;> omega
theorem cmpT_trans {a b c : T} (h1 : cmpT a b < 0) (h2 : cmpT b c < 0) : cmpT a c < 0 := by
  induction a generalizing b c with
  | nil =>
    cases b with
    | nil => simp [cmpT] at h1
    | cons f d m => cases c with
      | nil => simp [cmpT] at h2
      | cons g k n => simp [cmpT]
  | cons e x l ihe ihl =>
    cases b with
    | nil => simp [cmpT] at h1
    | cons f y m =>
      cases c with
      | nil => simp [cmpT] at h2
      | cons g z n =>
        simp only [cmpT] at h1 h2 ⊢
        by_cases q1 : cmpT e f = 0
        · rw [if_pos q1] at h1
          obtain rfl := cmpT_eq.1 q1
          by_cases q2 : cmpT e g = 0
          · rw [if_pos q2] at h2 ⊢
            by_cases q3 : cmpI x y = 0
            · rw [if_pos q3] at h1
              obtain rfl := cmpI_eq.1 q3
              by_cases q4 : cmpI x z = 0
              · rw [if_pos q4] at h2 ⊢; exact ihl h1 h2
              · rw [if_neg q4] at h2 ⊢; exact h2
            · rw [if_neg q3] at h1
              by_cases q4 : cmpI y z = 0
              · rw [if_pos q4] at h2
                obtain rfl := cmpI_eq.1 q4
                rw [if_neg q3]; exact h1
              · rw [if_neg q4] at h2
                have := cmpI_trans h1 h2
                rw [if_neg (by omega)]; exact this
          · rw [if_neg q2] at h2 ⊢; exact h2
        · rw [if_neg q1] at h1
          by_cases q2 : cmpT f g = 0
          · obtain rfl := cmpT_eq.1 q2
            rw [if_neg q1]; exact h1
          · rw [if_neg q2] at h2
            have := ihe h1 h2
            rw [if_neg (by omega)]; exact this

/-! ### what is right -/
def nodesL : T → Nat
  | nil => 0
  | cons e _ l => 2 + nodesL e + nodesL l
def dp : T → Nat
  | nil => 0
  | cons e _ l => max (1 + dp e) (dp l)
/-- Coefficients in their range, exponents that fall; p: the exponent ahead. -/
def formA : Option T → T → Bool
  | _, nil => true
  | p, cons e c l => decide (1 ≤ c) && decide (c ≤ 1000000) && formA none e && (match p with | none => true | some q => decide (0 < cmpT q e)) && formA (some e) l
def ordP (t : T) : Bool := decide (1 + nodesL t ≤ 60) && decide (dp t ≤ 6) && formA none t
theorem nodes_size (t : T) : nodesL t = 2 * size t := by
  induction t with
  | nil => rfl
  | cons e c l ihe ihl => simp only [nodesL, size, ihe, ihl]; omega
theorem ordP_size {t : T} (h : ordP t = true) : size t ≤ 30 := by
  simp only [ordP, Bool.and_eq_true, decide_eq_true_eq] at h
  have := nodes_size t
  omega
end Go.Proofs.Try

namespace Go.Proofs.Try
theorem bind_of {α β : Type} {o : Option α} {y : α} {K : α → Option β} {r : Option β} (h : o = some y) (hk : K y = r) : o.bind K = r := by rw [h]; exact hk
theorem ite_pos {α : Type} {c : Prop} [Decidable c] {a b r : α} (h : c) (hk : a = r) : (if c then a else b) = r := by rw [if_pos h]; exact hk
theorem ite_neg {α : Type} {c : Prop} [Decidable c] {a b r : α} (h : ¬ c) (hk : b = r) : (if c then a else b) = r := by rw [if_neg h]; exact hk
theorem cond_tt {α : Type} {a b r : α} (h : a = r) : cond true a b = r := h
theorem cond_ff {α : Type} {a b r : α} (h : b = r) : cond false a b = r := h
end Go.Proofs.Try

namespace Go.Proofs.Try
open Go Go.AX T
/-! ### rows of terms -/
@[simp] theorem cell_T {α : Type} (x : Rw) (c : Int) (K : Rw → Int → Option α) : cell_si [.sl x, .int .i64 c] K = K x c := rfl
theorem row_T {α : Type} {t : T} {i : Int} {n : Nat} (hi : i = n) {e : T} {c : Int} {l : T} (h : drop t n = cons e c l) (K : Rw → Int → Option α) : row_si t.rows i K = K e.rows c := by
  subst hi
  unfold row_si
  rw [if_pos (by omega), Int.toNat_natCast, rows_get h]; rfl
@[simp] theorem row_T0 {α : Type} (e : T) (c : Int) (l : T) (K : Rw → Int → Option α) : row_si (cons e c l).rows 0 K = K e.rows c := row_T (n := 0) rfl rfl K
theorem lenI (t : T) : ((t.rows.length : Nat) : Int) = (t.len : Int) := by rw [rows_len]
/-! ### impl's order -/
theorem impl_compare_eq (a b : Int) : impl_compare a b = some (cmpI a b) := by unfold impl_compare cmpI; split <;> (try split) <;> rfl
theorem CompareFunc_loop {rec_ : Rw → Rw → Option Int} {a b : T} {K : Option Int} (hr : ∀ e f : T, e.size < a.size → rec_ e.rows f.rows = some (cmpT e f)) (hK : K = (if (a.len : Int) < b.len then some (-1) else some 0)) :
    ∀ (t : T) (i : Nat), drop a i = t → i ≤ a.len → i ≤ b.len → slices_CompareFunc__cmpTerms_l0 rec_ a.rows b.rows K t.rows i = some (cmpT t (drop b i))
  | nil, i, hd, ha', hb => by
    simp only [rows, slices_CompareFunc__cmpTerms_l0, hK]
    have h1 := drop_ge hd
    by_cases h2 : i < b.len
    · cases hq : drop b i with
      | nil => have := drop_ge hq; omega
      | cons f d m =>
        have : a.len = i ∨ a.len < i := by omega
        rw [if_pos (by omega)]; rfl
    · rw [drop_of_ge (t := b) (by omega), if_neg (by
        intro q
        omega)]; rfl
  | cons e c l, i, hd, ha', hb => by
    simp only [rows, slices_CompareFunc__cmpTerms_l0, cell_T]
    have hs := drop_cons_size hd
    by_cases h2 : b.len ≤ i
    · rw [if_pos (by rw [lenI]; omega), drop_of_ge h2]; rfl
    · rw [if_neg (by rw [lenI]; omega)]
      cases hq : drop b i with
      | nil => have := drop_ge hq; omega
      | cons f d m =>
        rw [row_T rfl hq]
        simp only [impl_cmpTerms, hr e f (by omega), Option.bind_some, impl_compare_eq]
        by_cases h3 : cmpT e f = 0
        · simp only [h3, if_true, Option.bind_some]
          by_cases h4 : cmpI c d = 0
          · rw [if_pos h4, CompareFunc_loop hr hK l (i + 1) (drop_succ hd) (drop_lt hd) (by omega), drop_succ hq]
            simp [cmpT, h3, h4]
          · rw [if_neg h4]; simp [cmpT, h3, h4]
        · simp only [if_neg h3, Option.bind_some]; simp [cmpT, h3]
theorem impl_cmp_eq : ∀ (k : Nat) (a b : T), a.size < k → a.size ≤ cap → impl_cmp k a.rows b.rows = some (cmpT a b)
  | 0, _, _, h, _ => absurd h (Nat.not_lt_zero _)
  | k + 1, a, b, h, hc => by
    have hl := a.len_size
    simp only [impl_cmp, impl_cmp_b, slices_CompareFunc__cmpTerms]
    rw [if_pos (by rw [rows_len]; omega)]
    rw [CompareFunc_loop (a := a) (b := b) (fun e f he => impl_cmp_eq k e f (by omega) (by omega)) (by rw [lenI, lenI]) a 0 (drop_zero a) (by omega) (by omega)]
    simp
/-! ### spec's order -/
/-- Coefficients whose differences do not run over. -/
def calm : T → Prop
  | nil => True
  | cons e c l => calm e ∧ (-1000000000000000 ≤ c ∧ c ≤ 1000000000000000) ∧ calm l
theorem calm_drop {t : T} (h : calm t) : ∀ {i : Nat}, calm (drop t i) := by
  induction t with
  | nil => intro i; simpa using h
  | cons e c l _ ih => intro i; cases i with
    | zero => simpa using h
    | succ i => exact ih h.2.2
theorem sign_eq {c d : Int} (hc : -1000000000000000 ≤ c ∧ c ≤ 1000000000000000) (hd : -1000000000000000 ≤ d ∧ d ≤ 1000000000000000) : spec_l1Sign (IntKind.i64.wrap (c - d)) = some (cmpI c d) := by
  rw [wid (by omega) (by omega)]
  unfold spec_l1Sign cmpI
  by_cases h1 : c < d
  · rw [if_neg (by omega), if_pos (by omega), if_pos h1]
  · by_cases h2 : d < c
    · rw [if_pos (by omega), if_neg h1, if_pos h2]
    · rw [if_neg (by omega), if_neg (by omega), if_neg h1, if_neg h2]
theorem odCmp_loop {rec_ : Rw → Rw → Option Int} {a b : T} {K : Option Int} (ha : calm a) (hb : calm b) (hr : ∀ e f : T, e.size < a.size → calm e → calm f → rec_ e.rows f.rows = some (cmpT e f)) (hK : K = (if (a.len : Int) < b.len then some (-1) else some 0)) :
    ∀ (t : T) (i : Nat), drop a i = t → i ≤ a.len → i ≤ b.len → spec_odCmp_l0 rec_ a.rows b.rows K t.rows i = some (cmpT t (drop b i))
  | nil, i, hd, ha', hb' => by
    simp only [rows, spec_odCmp_l0, hK]
    have h1 := drop_ge hd
    by_cases h2 : i < b.len
    · cases hq : drop b i with
      | nil => have := drop_ge hq; omega
      | cons f d m => rw [if_pos (by omega)]; rfl
    · rw [drop_of_ge (t := b) (by omega), if_neg (by
        intro q
        omega)]; rfl
  | cons e c l, i, hd, ha', hb' => by
    simp only [rows, spec_odCmp_l0, cell_T]
    have hs := drop_cons_size hd
    have hca := calm_drop ha (i := i)
    rw [hd] at hca
    by_cases h2 : i = b.len
    · rw [if_pos (by rw [lenI]; omega), drop_of_ge (by omega)]; rfl
    · rw [if_neg (by rw [lenI]; omega)]
      cases hq : drop b i with
      | nil => have := drop_ge hq; omega
      | cons f d m =>
        have hcb := calm_drop hb (i := i)
        rw [hq] at hcb
        rw [row_T rfl hq]
        simp only [hr e f (by omega) hca.1 hcb.1, Option.bind_some]
        by_cases h3 : cmpT e f = 0
        · rw [if_pos h3]
          by_cases h4 : c = d
          · subst h4
            rw [if_pos rfl, odCmp_loop ha hb hr hK l (i + 1) (drop_succ hd) (drop_lt hd) (drop_lt hq), drop_succ hq]
            simp [cmpT, h3, cmpI_refl]
          · rw [if_neg h4, sign_eq hca.2.1 hcb.2.1]
            have : cmpI c d ≠ 0 := fun q => h4 (cmpI_eq.1 q)
            simp [cmpT, h3, this]
        · rw [if_neg h3]; simp [cmpT, h3]
theorem odCmp_eq : ∀ (k : Nat) (a b : T), calm a → calm b → a.size < k → a.size ≤ cap → spec_odCmp k a.rows b.rows = some (cmpT a b)
  | 0, _, _, _, _, h, _ => absurd h (Nat.not_lt_zero _)
  | k + 1, a, b, ha, hb, h, hc => by
    have hl := a.len_size
    simp only [spec_odCmp, spec_odCmp_b]
    rw [if_pos (by rw [rows_len]; omega)]
    have := odCmp_loop (rec_ := spec_odCmp k) (a := a) (b := b) (K := spec_odCmp_p2 a.rows b.rows) ha hb (fun e f he h1 h2 => odCmp_eq k e f h1 h2 (by omega) (by omega)) (by unfold spec_odCmp_p2; rw [lenI, lenI]) a 0 (drop_zero a) (by omega) (by omega)
    rw [this, drop_zero]
end Go.Proofs.Try

namespace Go.Proofs.Try
open Go Go.AX T
theorem impl_in_eq (n a b : Int) : impl_in n a b = some (decide (a ≤ n) && decide (n ≤ b)) := by
  unfold impl_in
  by_cases h1 : a ≤ n <;> by_cases h2 : n ≤ b <;> simp [h1, h2]
theorem l1In_eq (n a b : Int) : spec_l1In n a b = some (decide (a ≤ n) && decide (n ≤ b)) := by
  unfold spec_l1In
  by_cases h1 : a ≤ n <;> by_cases h2 : n ≤ b <;> simp [h1, h2]
/-- The exponent of the term ahead of the i-th. -/
def ahead (t : T) : Nat → Option T
  | 0 => none
  | i + 1 => match drop t i with
    | cons e _ _ => some e
    | nil => none
theorem ahead_succ {t : T} {i : Nat} {e : T} {c : Int} {l : T} (h : drop t i = cons e c l) : ahead t (i + 1) = some e := by simp [ahead, h]
theorem ahead_some {t : T} {i : Nat} (h0 : 0 < i) (h : i ≤ t.len) : ∃ q c l, drop t (i - 1) = cons q c l ∧ ahead t i = some q := by
  obtain ⟨j, rfl⟩ : ∃ j, i = j + 1 := ⟨i - 1, by omega⟩
  cases hq : drop t j with
  | nil => have := drop_ge hq; omega
  | cons q c l => exact ⟨q, c, l, hq, ahead_succ hq⟩
theorem dp_drop {t : T} : ∀ {i : Nat}, dp (drop t i) ≤ dp t := by
  induction t with
  | nil => intro i; simp
  | cons e c l _ ih => intro i; cases i with
    | zero => simp
    | succ i => have := ih (i := i); simp only [drop, dp]; omega
/-- What a check of a tree tells. -/
def Tells (r : Bool × Int) (n : Int) (ok : Prop) (m : Int) : Prop := (r.1 = true ↔ ok) ∧ (r.1 = true → r.2 = m) ∧ 0 ≤ r.2 ∧ r.2 ≤ 61 ∧ n ≤ r.2
theorem at2_loop {k : Nat} {rec_ : Rw → Int → Int → Int → Option (Bool × Int)} {a : T} {d1 deep : Int} (hd : 0 ≤ deep ∧ deep ≤ 6) (hk : a.size ≤ k) (hc : a.size ≤ cap)
    (hr : ∀ (e : T) (x n : Int), e.size < a.size → 0 ≤ n → n ≤ 60 → ∃ r, rec_ e.rows x (deep + 1) n = some r ∧ Tells r n (n + 1 + nodesL e ≤ 60 ∧ deep + 1 + dp e ≤ 6 ∧ formA none e = true) (n + 1 + nodesL e)) :
    ∀ (t : T) (i : Nat) (m : Int), drop a i = t → i ≤ a.len → 0 ≤ m → m ≤ 60 → ∃ r, impl_ordinalAt_2_l0 k rec_ a.rows d1 deep (fun v => impl_ordinalAt_2_p3 v) t.rows i m = some r ∧ Tells r m (m + nodesL t ≤ 60 ∧ deep + dp t ≤ 6 ∧ formA (ahead a i) t = true) (m + nodesL t)
  | nil, i, m, hdr, hi, h0, h60 => by
    refine ⟨(true, m), rfl, ?_⟩
    simp only [Tells, nodesL, dp, formA]
    refine ⟨⟨fun _ => ⟨by omega, by omega, trivial⟩, fun _ => trivial⟩, fun _ => by omega, h0, by omega, by omega⟩
  | cons e c l, i, m, hdr, hi, h0, h60 => by
    have hs := drop_cons_size hdr
    simp only [rows, impl_ordinalAt_2_l0, cell_T]
    rw [wid (n := m + 1) (by omega) (by omega)]
    by_cases h1 : 60 < m + 1
    · rw [if_pos h1]
      refine ⟨_, rfl, ?_⟩
      simp only [Tells, nodesL]
      refine ⟨⟨fun h => (by cases h), fun h => by omega⟩, fun h => (by cases h), by omega, by omega, by omega⟩
    · rw [if_neg h1, impl_in_eq, Option.bind_some]
      by_cases h2 : (decide (1 ≤ c) && decide (c ≤ 1000000)) = true
      · rw [if_pos h2, wid (n := deep + 1) (by omega) (by omega)]
        obtain ⟨r1, e1, t1, t2, t3, t4, t5⟩ := hr e c (m + 1) (by omega) (by omega) (by omega)
        rw [e1, Option.bind_some]
        obtain ⟨b1, m1⟩ := r1
        dsimp only at t1 t2 t3 t4 t5 ⊢
        cases b1 with
        | false =>
          rw [if_neg (by simp)]
          refine ⟨_, rfl, ?_⟩
          simp only [Tells]
          refine ⟨⟨fun h => (by cases h), fun h => ?_⟩, fun h => (by cases h), t3, t4, by omega⟩
          obtain ⟨q1, q2, q3⟩ := h
          simp only [nodesL, dp, formA, Bool.and_eq_true] at q1 q2 q3
          exact t1.2 ⟨by omega, by omega, q3.1.1.2⟩
        | true =>
          obtain ⟨u1, u2, u3⟩ := t1.1 rfl
          obtain rfl := t2 rfl
          rw [if_pos rfl]
          have go : ∀ (hp : (match ahead a i with | none => true | some q => decide (0 < cmpT q e)) = true), ∃ r, impl_ordinalAt_2_l0 k rec_ a.rows d1 deep (fun v => impl_ordinalAt_2_p3 v) l.rows (i + 1) (m + 1 + 1 + nodesL e) = some r ∧ Tells r m (m + nodesL (cons e c l) ≤ 60 ∧ deep + dp (cons e c l) ≤ 6 ∧ formA (ahead a i) (cons e c l) = true) (m + nodesL (cons e c l)) := by
            intro hp
            obtain ⟨r, er, s1, s2, s3, s4, s5⟩ := at2_loop hd hk hc hr l (i + 1) (m + 1 + 1 + nodesL e) (drop_succ hdr) (drop_lt hdr) (by omega) (by omega)
            refine ⟨r, er, ?_⟩
            rw [ahead_succ hdr] at s1
            simp only [Tells, nodesL, dp, formA, Bool.and_eq_true]
            refine ⟨s1.trans ⟨fun q => ⟨by have := q.1; omega, by have := q.2.1; omega, ⟨⟨(by simpa using h2), u3⟩, hp⟩, q.2.2⟩, fun q => ⟨by have := q.1; omega, by have := q.2.1; omega, q.2.2.2⟩⟩, fun q => by rw [s2 q]; omega, s3, s4, by omega⟩
          by_cases h3 : (0 : Int) < (i : Int)
          · obtain ⟨q, qc, ql, hq, ha⟩ := ahead_some (t := a) (i := i) (by omega) hi
            have hqs := drop_cons_size hq
            rw [if_pos h3, wid (n := (i : Int) - 1) (by omega) (by have := a.len_size; have : cap = 1099511627776 := rfl; omega), row_T (n := i - 1) (by omega) hq, impl_cmp_eq k q e (by omega) (by omega), Option.bind_some]
            by_cases h4 : cmpT q e ≤ 0
            · rw [if_pos h4]
              refine ⟨_, rfl, ?_⟩
              simp only [Tells]
              refine ⟨⟨fun h => (by cases h), fun h => ?_⟩, fun h => (by cases h), t3, t4, by omega⟩
              obtain ⟨_, _, q3⟩ := h
              simp only [formA, ha, Bool.and_eq_true, decide_eq_true_eq] at q3
              have := q3.1.2
              omega
            · rw [if_neg h4]
              exact go (by rw [ha]; simp; omega)
          · rw [if_neg h3]
            have : i = 0 := by omega
            subst this
            exact go rfl
      · rw [if_neg h2]
        refine ⟨_, rfl, ?_⟩
        simp only [Tells]
        refine ⟨⟨fun h => (by cases h), fun h => ?_⟩, fun h => (by cases h), by omega, by omega, by omega⟩
        obtain ⟨_, _, q3⟩ := h
        simp only [formA, Bool.and_eq_true] at q3 h2
        exact absurd q3.1.1.1 h2
theorem at2_eq : ∀ (k : Nat) (a : T) (x deep n : Int), a.size < k → a.size ≤ cap → 0 ≤ deep → deep ≤ 7 → 0 ≤ n → n ≤ 60 →
    ∃ r, impl_ordinalAt_2 k a.rows x deep n = some r ∧ Tells r n (n + 1 + nodesL a ≤ 60 ∧ deep + dp a ≤ 6 ∧ formA none a = true) (n + 1 + nodesL a)
  | 0, _, _, _, _, h, _, _, _, _, _ => absurd h (Nat.not_lt_zero _)
  | k + 1, a, x, deep, n, h, hc, h0, h7, n0, n60 => by
    have hl := a.len_size
    simp only [impl_ordinalAt_2, impl_ordinalAt_2_b]
    rw [wid (n := n + 1) (by omega) (by omega)]
    by_cases h1 : 60 < n + 1
    · rw [if_pos h1]
      refine ⟨_, rfl, ?_⟩
      simp only [Tells]
      exact ⟨⟨fun h => (by cases h), fun h => by omega⟩, fun h => (by cases h), by omega, by omega, by omega⟩
    · rw [if_neg h1]
      by_cases h2 : 6 < deep
      · rw [if_pos h2]
        refine ⟨_, rfl, ?_⟩
        simp only [Tells]
        exact ⟨⟨fun h => (by cases h), fun h => by omega⟩, fun h => (by cases h), by omega, by omega, by omega⟩
      · rw [if_neg h2, if_pos (by rw [rows_len]; omega)]
        obtain ⟨r, e, s1, s2, s3, s4, s5⟩ := at2_loop (k := k) (rec_ := impl_ordinalAt_2 k) (a := a) (d1 := x) (deep := deep) (by omega) (by omega) hc (fun e y m he m0 m60 => at2_eq k e y (deep + 1) m (by omega) (by omega) (by omega) (by omega) m0 m60) a 0 (n + 1) (drop_zero a) (by omega) (by omega) (by omega)
        exact ⟨r, e, s1, s2, s3, s4, by omega⟩
theorem at1_loop {k : Nat} {a : T} (hk : a.size < k) (hc : a.size ≤ cap) :
    ∀ (t : T) (i : Nat) (m : Int), drop a i = t → i ≤ a.len → 0 ≤ m → m ≤ 60 → ∃ r : Bool × Int, impl_ordinalAt_l0 k a.rows 0 (fun v => impl_ordinalAt_p3 a.rows v) t.rows i m = some (r.1, a.rows, r.2) ∧ (r.1 = true ↔ m + nodesL t ≤ 60 ∧ dp t ≤ 6 ∧ formA (ahead a i) t = true) ∧ (r.1 = true → r.2 = m + nodesL t)
  | nil, i, m, hdr, hi, h0, h60 => by
    refine ⟨(true, m), rfl, ?_⟩
    simp only [nodesL, dp, formA]
    exact ⟨⟨fun _ => ⟨by omega, by omega, trivial⟩, fun _ => trivial⟩, fun _ => by omega⟩
  | cons e c l, i, m, hdr, hi, h0, h60 => by
    have hs := drop_cons_size hdr
    simp only [rows, impl_ordinalAt_l0, cell_T]
    rw [wid (n := m + 1) (by omega) (by omega)]
    by_cases h1 : 60 < m + 1
    · rw [if_pos h1]
      exact ⟨(false, _), rfl, ⟨fun h => (by cases h), fun h => by simp only [nodesL] at h; omega⟩, fun h => (by cases h)⟩
    · rw [if_neg h1, impl_in_eq, Option.bind_some]
      by_cases h2 : (decide (1 ≤ c) && decide (c ≤ 1000000)) = true
      · rw [if_pos h2, wid (n := 0 + 1) (by omega) (by omega)]
        obtain ⟨r1, e1, t1, t2, t3, t4, t5⟩ := at2_eq k e c (0 + 1) (m + 1) (by omega) (by omega) (by omega) (by omega) (by omega) (by omega)
        rw [e1, Option.bind_some]
        obtain ⟨b1, m1⟩ := r1
        dsimp only at t1 t2 t3 t4 t5 ⊢
        cases b1 with
        | false =>
          rw [if_neg (by simp)]
          refine ⟨(false, _), rfl, ⟨fun h => (by cases h), fun h => ?_⟩, fun h => (by cases h)⟩
          obtain ⟨q1, q2, q3⟩ := h
          simp only [nodesL, dp, formA, Bool.and_eq_true] at q1 q2 q3
          exact t1.2 ⟨by omega, by omega, q3.1.1.2⟩
        | true =>
          obtain ⟨u1, u2, u3⟩ := t1.1 rfl
          obtain rfl := t2 rfl
          rw [if_pos rfl]
          have go : ∀ (hp : (match ahead a i with | none => true | some q => decide (0 < cmpT q e)) = true), ∃ r : Bool × Int, impl_ordinalAt_l0 k a.rows 0 (fun v => impl_ordinalAt_p3 a.rows v) l.rows (i + 1) (m + 1 + 1 + nodesL e) = some (r.1, a.rows, r.2) ∧ (r.1 = true ↔ m + nodesL (cons e c l) ≤ 60 ∧ dp (cons e c l) ≤ 6 ∧ formA (ahead a i) (cons e c l) = true) ∧ (r.1 = true → r.2 = m + nodesL (cons e c l)) := by
            intro hp
            obtain ⟨r, er, s1, s2⟩ := at1_loop hk hc l (i + 1) (m + 1 + 1 + nodesL e) (drop_succ hdr) (drop_lt hdr) (by omega) (by omega)
            refine ⟨r, er, ?_⟩
            rw [ahead_succ hdr] at s1
            simp only [nodesL, dp, formA, Bool.and_eq_true]
            exact ⟨s1.trans ⟨fun q => ⟨by have := q.1; omega, by have := q.2.1; omega, ⟨⟨(by simpa using h2), u3⟩, hp⟩, q.2.2⟩, fun q => ⟨by have := q.1; omega, by have := q.2.1; omega, q.2.2.2⟩⟩, fun q => by rw [s2 q]; omega⟩
          by_cases h3 : (0 : Int) < (i : Int)
          · obtain ⟨q, qc, ql, hq, ha⟩ := ahead_some (t := a) (i := i) (by omega) hi
            have hqs := drop_cons_size hq
            rw [if_pos h3, wid (n := (i : Int) - 1) (by omega) (by have := a.len_size; have : cap = 1099511627776 := rfl; omega), row_T (n := i - 1) (by omega) hq, impl_cmp_eq k q e (by omega) (by omega), Option.bind_some]
            by_cases h4 : cmpT q e ≤ 0
            · rw [if_pos h4]
              refine ⟨(false, _), rfl, ⟨fun h => (by cases h), fun h => ?_⟩, fun h => (by cases h)⟩
              obtain ⟨_, _, q3⟩ := h
              simp only [formA, ha, Bool.and_eq_true, decide_eq_true_eq] at q3
              have := q3.1.2
              omega
            · rw [if_neg h4]
              exact go (by rw [ha]; simp; omega)
          · rw [if_neg h3]
            have : i = 0 := by omega
            subst this
            exact go rfl
      · rw [if_neg h2]
        refine ⟨(false, _), rfl, ⟨fun h => (by cases h), fun h => ?_⟩, fun h => (by cases h)⟩
        obtain ⟨_, _, q3⟩ := h
        simp only [formA, Bool.and_eq_true] at q3 h2
        exact absurd q3.1.1.1 h2
theorem at1_eq (k : Nat) (a : T) (hk : a.size < k) (hc : a.size ≤ cap) : ∃ r : Bool × Int, impl_ordinalAt k a.rows 0 0 = some (r.1, a.rows, r.2) ∧ (r.1 = true ↔ ordP a = true) ∧ (r.1 = true → r.2 = 1 + nodesL a) := by
  have hl := a.len_size
  unfold impl_ordinalAt
  rw [wid (n := 0 + 1) (by omega) (by omega), if_neg (by omega), if_neg (by omega), if_pos (by rw [rows_len]; omega)]
  obtain ⟨r, e, s, v⟩ := at1_loop hk hc a 0 (0 + 1) (drop_zero a) (by omega) (by omega) (by omega)
  refine ⟨r, e, s.trans ?_, fun q => by rw [v q]; omega⟩
  simp only [ordP, Bool.and_eq_true, decide_eq_true_eq, ahead]
  exact ⟨fun q => ⟨⟨by have := q.1; omega, q.2.1⟩, q.2.2⟩, fun q => ⟨by have := q.1.1; omega, q.1.2, q.2⟩⟩
theorem IsOrdinal_eq (k : Nat) (a : T) (hk : a.size < k) (hc : a.size ≤ cap) : impl_IsOrdinal k a.rows = some (ordP a) := by
  obtain ⟨r, e, s, _⟩ := at1_eq k a hk hc
  unfold impl_IsOrdinal
  rw [e, Option.bind_some]
  cases hb : ordP a with
  | true => rw [if_pos (s.2 hb)]
  | false => rw [if_neg (fun q => by rw [s.1 q] at hb; cases hb)]
theorem clone_loop {rec_ : Rw → Option Rw} {a : T} {K : Rw → Option Rw} (hr : ∀ e : T, e.size < a.size → rec_ e.rows = some e.rows) : ∀ (t : T) (acc : Rw), t.size ≤ a.size → acc.length + t.len ≤ cap → impl_cloneOrdinal_l0 rec_ a.rows K t.rows acc = K (acc ++ t.rows)
  | nil, acc, _, _ => by simp [rows, impl_cloneOrdinal_l0]
  | cons e c l, acc, hs, hl => by
    simp only [size, len] at hs hl
    simp only [rows, impl_cloneOrdinal_l0, cell_T, hr e (by omega), Option.bind_some]
    rw [if_pos (by omega), clone_loop hr l _ (by omega) (by simp; omega)]
    simp
theorem clone_eq : ∀ (k : Nat) (a : T), a.size < k → a.size ≤ cap → impl_cloneOrdinal k a.rows = some a.rows
  | 0, _, h, _ => absurd h (Nat.not_lt_zero _)
  | k + 1, a, h, hc => by
    have hl := a.len_size
    simp only [impl_cloneOrdinal, impl_cloneOrdinal_b]
    rw [if_pos (by rw [rows_len]; omega), clone_loop (fun e he => clone_eq k e (by omega) (by omega)) a [] (Nat.le_refl _) (by simp; omega)]
    simp
def toldT (t : T) : T × Bool := if ordP t then (t, true) else (nil, false)
theorem own_loop {rec_ : Rw → Option Rw} {a : T} {K : Rw → Option Rw} (hr : ∀ e : T, e.size < a.size → rec_ e.rows = some e.rows) : ∀ (t : T) (acc : Rw), t.size ≤ a.size → acc.length + t.len ≤ cap → spec_odOwn_l0 rec_ a.rows K t.rows acc = K (acc ++ t.rows)
  | nil, acc, _, _ => by simp [rows, spec_odOwn_l0]
  | cons e c l, acc, hs, hl => by
    simp only [size, len] at hs hl
    simp only [rows, spec_odOwn_l0, cell_T, hr e (by omega), Option.bind_some]
    rw [if_pos (by omega), own_loop hr l _ (by omega) (by simp; omega)]
    simp
theorem own_eq : ∀ (k : Nat) (a : T), a.size < k → a.size ≤ cap → spec_odOwn k a.rows = some a.rows
  | 0, _, h, _ => absurd h (Nat.not_lt_zero _)
  | k + 1, a, h, hc => by
    have hl := a.len_size
    simp only [spec_odOwn, spec_odOwn_b]
    rw [if_pos (by rw [rows_len]; omega), own_loop (fun e he => own_eq k e (by omega) (by omega)) a [] (Nat.le_refl _) (by simp; omega)]
    simp
/-! ### spec's check -/
theorem left_loop {rec_ : Rw → Int → Int → Option Int} {a : T} {depth : Int} (hd : 0 ≤ depth ∧ depth ≤ 6) (hr : ∀ (e : T) (v : Int), e.size < a.size → 0 < depth → -1 ≤ v → v ≤ 60 → ∃ r, rec_ e.rows (depth - 1) v = some r ∧ -2 ≤ r ∧ r ≤ 60 ∧ (1 + nodesL e ≤ v ∧ dp e ≤ depth - 1 → r = v - 1 - nodesL e) ∧ (¬ (1 + nodesL e ≤ v ∧ dp e ≤ depth - 1) → r < 0)) :
    ∀ (t : T) (v : Int), t.size ≤ a.size → -2 ≤ v → v ≤ 60 → ∃ r, spec_odLeft_l0 rec_ a.rows depth (fun v => some v) t.rows v = some r ∧ -2 ≤ r ∧ r ≤ 60 ∧ (nodesL t ≤ v ∧ dp t ≤ depth → r = v - nodesL t) ∧ (¬ (nodesL t ≤ v ∧ dp t ≤ depth) → r < 0)
  | nil, v, _, v0, v60 => ⟨v, rfl, v0, v60, fun _ => by simp [nodesL], fun h => by simp only [nodesL, dp] at h; omega⟩
  | cons e c l, v, hs, v0, v60 => by
    simp only [size] at hs
    simp only [rows, spec_odLeft_l0, cell_T]
    by_cases h1 : v < 0
    · rw [if_pos h1]
      exact ⟨-1, rfl, by omega, by omega, fun h => by simp only [nodesL] at h; omega, fun _ => by omega⟩
    · rw [if_neg h1]
      by_cases h2 : depth = 0
      · rw [if_pos h2]
        exact ⟨-1, rfl, by omega, by omega, fun h => by simp only [dp] at h; omega, fun _ => by omega⟩
      · rw [if_neg h2, wid (n := depth - 1) (by omega) (by omega), wid (n := v - 1) (by omega) (by omega)]
        obtain ⟨r1, e1, p1, p2, p3, p4⟩ := hr e (v - 1) (by omega) (by omega) (by omega) (by omega)
        rw [e1, Option.bind_some]
        obtain ⟨r, er, q1, q2, q3, q4⟩ := left_loop hd hr l r1 (by omega) p1 p2
        refine ⟨r, er, q1, q2, fun h => ?_, fun h => ?_⟩
        · simp only [nodesL, dp] at h ⊢
          have e2 := p3 ⟨by omega, by omega⟩
          rw [q3 ⟨by omega, by omega⟩, e2]; omega
        · by_cases h3 : 1 + (nodesL e : Int) ≤ v - 1 ∧ dp e ≤ depth - 1
          · have e2 := p3 h3
            refine q4 fun q => h ?_
            simp only [nodesL, dp]
            omega
          · exact q4 fun q => by have := p4 h3; omega
theorem left_eq : ∀ (k : Nat) (a : T) (depth v : Int), a.size < k → a.size ≤ cap → 0 ≤ depth → depth ≤ 6 → -1 ≤ v → v ≤ 60 →
    ∃ r, spec_odLeft k a.rows depth v = some r ∧ -2 ≤ r ∧ r ≤ 60 ∧ (1 + nodesL a ≤ v ∧ dp a ≤ depth → r = v - 1 - nodesL a) ∧ (¬ (1 + nodesL a ≤ v ∧ dp a ≤ depth) → r < 0)
  | 0, _, _, _, h, _, _, _, _, _ => absurd h (Nat.not_lt_zero _)
  | k + 1, a, depth, v, h, hc, d0, d6, v0, v60 => by
    have hl := a.len_size
    simp only [spec_odLeft, spec_odLeft_b]
    rw [if_pos (by rw [rows_len]; omega), wid (n := v - 1) (by omega) (by omega)]
    obtain ⟨r, er, q1, q2, q3, q4⟩ := left_loop (rec_ := spec_odLeft k) (a := a) (depth := depth) ⟨d0, d6⟩ (fun e u he hd u0 u60 => left_eq k e (depth - 1) u (by omega) (by omega) (by omega) (by omega) u0 u60) a (v - 1) (Nat.le_refl _) (by omega) (by omega)
    exact ⟨r, er, q1, q2, fun q => q3 ⟨by omega, q.2⟩, fun q => q4 fun u => q ⟨by omega, u.2⟩⟩
theorem form_loop {k : Nat} {rec_ : Rw → Int → Option Bool} {a : T} {depth : Int} (hd : 0 ≤ depth ∧ depth ≤ 6) (hk : a.size ≤ k) (hc : a.size ≤ cap) (ha : calm a)
    (hr : ∀ e : T, e.size < a.size → calm e → rec_ e.rows (depth - 1) = some (decide ((dp e : Int) ≤ depth - 1) && formA none e)) :
    ∀ (t : T) (i : Nat), drop a i = t → i ≤ a.len → spec_odForm_l0 k rec_ a.rows depth spec_odForm_p3 t.rows i = some (decide ((dp t : Int) ≤ depth) && formA (ahead a i) t)
  | nil, i, hdr, hi => by
    have : decide ((dp nil : Int) ≤ depth) = true := decide_eq_true (by simp only [dp]; omega)
    rw [this]; rfl
  | cons e c l, i, hdr, hi => by
    have hs := drop_cons_size hdr
    have hca := calm_drop ha (i := i)
    rw [hdr] at hca
    simp only [rows, spec_odForm_l0, cell_T, l1In_eq, Option.bind_some]
    by_cases h2 : (decide (1 ≤ c) && decide (c ≤ 1000000)) = true
    · rw [if_pos h2, wid (n := depth - 1) (by omega) (by omega), hr e (by omega) hca.1, Option.bind_some]
      by_cases h3 : (decide ((dp e : Int) ≤ depth - 1) && formA none e) = true
      · rw [if_pos h3]
        simp only [Bool.and_eq_true, decide_eq_true_eq] at h3
        have go : ∀ (hp : (match ahead a i with | none => true | some q => decide (0 < cmpT q e)) = true), spec_odForm_l0 k rec_ a.rows depth spec_odForm_p3 l.rows (i + 1) = some (decide ((dp (cons e c l) : Int) ≤ depth) && formA (ahead a i) (cons e c l)) := by
          intro hp
          rw [form_loop hd hk hc ha hr l (i + 1) (drop_succ hdr) (drop_lt hdr), ahead_succ hdr]
          have e1 : decide ((dp (cons e c l) : Int) ≤ depth) = decide ((dp l : Int) ≤ depth) := by simp only [dp]; congr 1; apply propext; omega
          have h6 : formA (ahead a i) (cons e c l) = formA (some e) l := by
            simp only [formA, h2, h3.2, Bool.true_and]
            cases hq : ahead a i with
            | none => simp
            | some q => rw [hq] at hp; simp only at hp; simp [hp]
          rw [e1, h6]
        by_cases h4 : (0 : Int) < (i : Int)
        · obtain ⟨q, qc, ql, hq, ha'⟩ := ahead_some (t := a) (i := i) (by omega) hi
          have hqs := drop_cons_size hq
          have hcq := calm_drop ha (i := i - 1)
          rw [hq] at hcq
          rw [if_pos h4, wid (n := (i : Int) - 1) (by omega) (by have := a.len_size; have : cap = 1099511627776 := rfl; omega), row_T (n := i - 1) (by omega) hq, odCmp_eq k q e hcq.1 hca.1 (by omega) (by omega), Option.bind_some]
          by_cases h5 : cmpT q e ≤ 0
          · rw [if_pos h5]
            have : decide (0 < cmpT q e) = false := by simpa using h5
            simp [formA, ha', this]
          · rw [if_neg h5]
            exact go (by rw [ha']; simp; omega)
        · rw [if_neg h4]
          have : i = 0 := by omega
          subst this
          exact go rfl
      · rw [if_neg h3]
        have : (decide ((dp (cons e c l) : Int) ≤ depth) && formA (ahead a i) (cons e c l)) = false := by
          refine Bool.eq_false_iff.2 fun hx => h3 ?_
          rw [Bool.and_eq_true, decide_eq_true_eq] at hx ⊢
          obtain ⟨x1, x2⟩ := hx
          simp only [dp] at x1
          simp only [formA, Bool.and_eq_true] at x2
          exact ⟨by omega, x2.1.1.2⟩
        rw [this]
    · rw [if_neg h2]
      have : formA (ahead a i) (cons e c l) = false := by
        simp only [formA]
        cases hx : (decide (1 ≤ c) && decide (c ≤ 1000000)) with
        | true => exact absurd hx h2
        | false => simp
      rw [this, Bool.and_false]
theorem form_eq : ∀ (k : Nat) (a : T) (depth : Int), a.size < k → a.size ≤ cap → calm a → -1 ≤ depth → depth ≤ 6 → spec_odForm k a.rows depth = some (decide ((dp a : Int) ≤ depth) && formA none a)
  | 0, _, _, h, _, _, _, _ => absurd h (Nat.not_lt_zero _)
  | k + 1, a, depth, h, hc, ha, d0, d6 => by
    have hl := a.len_size
    simp only [spec_odForm, spec_odForm_b]
    by_cases h1 : depth < 0
    · rw [if_pos h1]
      have : decide ((dp a : Int) ≤ depth) = false := by simp; omega
      rw [this, Bool.false_and]
    · rw [if_neg h1, if_pos (by rw [rows_len]; omega), form_loop (a := a) (by omega) (by omega) hc ha (fun e he hce => form_eq k e (depth - 1) (by omega) (by omega) hce (by omega) (by omega)) a 0 (drop_zero a) (by omega)]
      rfl
theorem odGood_eq (k : Nat) (a : T) (h : a.size < k) (hc : a.size ≤ cap) (ha : calm a) : spec_odGood k a.rows = some (ordP a) := by
  unfold spec_odGood
  obtain ⟨r, er, q1, q2, q3, q4⟩ := left_eq k a 6 60 h hc (by omega) (by omega) (by omega) (by omega)
  rw [er, Option.bind_some]
  by_cases h1 : 1 + nodesL a ≤ 60 ∧ dp a ≤ 6
  · have := q3 ⟨by omega, by omega⟩
    rw [if_pos (by omega), form_eq k a 6 h hc ha (by omega) (by omega), Option.bind_some]
    have h2 : decide ((dp a : Int) ≤ 6) = true := by simp; omega
    simp only [ordP, h2, h1.1, h1.2, decide_true, Bool.true_and]
    cases formA none a <;> rfl
  · have := q4 (by omega)
    rw [if_neg (by omega)]
    have : ordP a = false := by
      cases hx : ordP a with
      | false => rfl
      | true => simp only [ordP, Bool.and_eq_true, decide_eq_true_eq] at hx; exact absurd hx.1 h1
    rw [this]
end Go.Proofs.Try

namespace Go.Proofs.Try
open Go Go.AX T
theorem fr_snocLen (l e : T) (c : Int) : (app l (cons e c nil)).len = l.len + 1 := by rw [len_app]; rfl
theorem toOrd_loop {rec_ : Rw → Option Rw} {a : T} {K : Rw → Option Rw} (hr : ∀ e : T, e.size < a.size → rec_ e.rows = some e.rows) :
    ∀ (t : T) (i : Nat) (done : T), t.size ≤ a.size → done.len = i → laws_toOrdinalTermS_l0 rec_ a.rows K t.rows i (done.rows ++ List.replicate t.len [D.sl ([]), D.int .i64 0]) = K (app done t).rows
  | nil, i, done, _, hd => by
    simp only [rows, laws_toOrdinalTermS_l0, len, List.replicate_zero, List.append_nil, rows_app]
  | cons e c l, i, done, hs, hd => by
    simp only [size] at hs
    simp only [rows, laws_toOrdinalTermS_l0, cell_T, laws_toOrdinalTerm, len]
    rw [hr e (by omega), Option.bind_some]
    have hlen : (done.rows ++ List.replicate (l.len + 1) [D.sl ([]), D.int .i64 0]).length = i + (l.len + 1) := by rw [List.length_append, rows_len, hd, List.length_replicate]
    rw [Option.bind_some, if_pos ⟨by omega, by rw [hlen]; omega⟩]
    have hrow : ∀ {α : Type} (K : Rw → Int → Option α), row_si (done.rows ++ List.replicate (l.len + 1) [D.sl ([]), D.int .i64 0]) (i : Int) K = K [] 0 := by
      intro α K
      unfold row_si
      rw [if_pos (by omega), Int.toNat_natCast, List.getElem?_append_right (by rw [rows_len]; omega), rows_len, hd, Nat.sub_self, List.replicate_succ]
      rfl
    rw [hrow]
    have hset : (done.rows ++ List.replicate (l.len + 1) [D.sl ([]), D.int .i64 0]).set (i : Int).toNat [D.sl e.rows, D.int .i64 c] = (app done (cons e c nil)).rows ++ List.replicate l.len [D.sl ([]), D.int .i64 0] := by
      rw [Int.toNat_natCast, List.set_append_right (h := by rw [rows_len]; omega), rows_len, hd, Nat.sub_self, List.replicate_succ, rows_app]
      simp [rows]
    rw [hset, toOrd_loop hr l (i + 1) (app done (cons e c nil)) (by omega) (by rw [fr_snocLen, hd]), app_assoc]
    rfl
theorem toOrd_eq : ∀ (k : Nat) (a : T), a.size < k → a.size ≤ cap → laws_toOrdinal k a.rows = some a.rows
  | 0, _, h, _ => absurd h (Nat.not_lt_zero _)
  | k + 1, a, h, hc => by
    have h3 : cap = 1099511627776 := rfl
    have hl := a.len_size
    simp only [laws_toOrdinal, laws_toOrdinal_b, laws_toOrdinalTermS]
    rw [if_pos (by rw [lenI]; omega), if_pos (by rw [rows_len]; omega), lenI, Int.toNat_natCast]
    have := toOrd_loop (rec_ := laws_toOrdinal k) (a := a) (K := fun v29 => some v29) (fun e he => toOrd_eq k e (by omega) (by omega)) a 0 nil (Nat.le_refl _) rfl
    simp only [rows, List.nil_append, app] at this
    rw [this]; rfl
theorem eqOrd_loop {rec_ : Rw → Rw → Option Bool} {a : T} (hr : ∀ e : T, e.size < a.size → rec_ e.rows e.rows = some true) : ∀ (t : T) (i : Nat), drop a i = t → laws_eqOrdinalTermS_l0 rec_ a.rows a.rows (some true) t.rows i = some true
  | nil, i, _ => rfl
  | cons e c l, i, hd => by
    have hs := drop_cons_size hd
    simp only [rows, laws_eqOrdinalTermS_l0, cell_T, laws_eqOrdinalTerm]
    rw [row_T rfl hd, hr e (by omega), Option.bind_some, if_pos rfl, if_pos rfl, Option.bind_some, if_pos rfl]
    exact eqOrd_loop hr l (i + 1) (drop_succ hd)
theorem eqOrd_refl : ∀ (k : Nat) (a : T), a.size < k → a.size ≤ cap → laws_eqOrdinal k a.rows a.rows = some true
  | 0, _, h, _ => absurd h (Nat.not_lt_zero _)
  | k + 1, a, h, hc => by
    have hl := a.len_size
    simp only [laws_eqOrdinal, laws_eqOrdinal_b, laws_eqOrdinalTermS]
    rw [if_pos True.intro, if_pos (by rw [rows_len]; omega), eqOrd_loop (a := a) (fun e he => eqOrd_refl k e (by omega) (by omega)) a 0 (drop_zero a)]
    rfl
/-- Slices no longer than a machine has. -/
def fitT : T → Prop
  | nil => True
  | cons e c l => fitT e ∧ (e.len : Int) ≤ 9223372036854775807 ∧ fitT l
theorem sz_loop {rec_ : Rw → Int → Option Int} {a : T} {K : Int → Option Int} (hr : ∀ (e : T) (v : Int), e.size < a.size → fitT e → (e.len : Int) ≤ 9223372036854775807 → 0 ≤ v → v ≤ 1048576 → ∃ r : Int, rec_ e.rows v = some r ∧ r ≤ v ∧ -1 ≤ r ∧ (0 ≤ r → r + e.size ≤ v)) :
    ∀ (t : T) (v : Int), t.size ≤ a.size → fitT t → 0 ≤ v → v ≤ 1048576 → (laws_szOrdinalTermS_l0 rec_ a.rows K t.rows v = some (-1)) ∨ ∃ r : Int, laws_szOrdinalTermS_l0 rec_ a.rows K t.rows v = K r ∧ 0 ≤ r ∧ r + t.size ≤ v + t.len
  | nil, v, _, _, h0, h1 => Or.inr ⟨v, rfl, h0, by simp [size, len]⟩
  | cons e c l, v, hs, hf, h0, h1 => by
    simp only [size] at hs
    obtain ⟨r, e1, q1, q2, q3⟩ := hr e v (by omega) hf.1 hf.2.1 h0 h1
    simp only [rows, laws_szOrdinalTermS_l0, cell_T, laws_szOrdinalTerm]
    rw [e1, Option.bind_some]
    by_cases g : r < 0
    · left; rw [if_pos g, Option.bind_some, if_pos (by omega)]
    · rw [if_neg g, Option.bind_some, if_neg g]
      rcases sz_loop hr l r (by omega) hf.2.2 (by omega) (by omega) with h | ⟨u, h, p1, p2⟩
      · left; exact h
      · right; exact ⟨u, h, p1, by simp only [size, len]; omega⟩
theorem sz_eq : ∀ (k : Nat) (a : T) (v : Int), a.size < k → fitT a → (a.len : Int) ≤ 9223372036854775807 → 0 ≤ v → v ≤ 1048576 → ∃ r : Int, laws_szOrdinal k a.rows v = some r ∧ r ≤ v ∧ -1 ≤ r ∧ (0 ≤ r → r + a.size ≤ v)
  | 0, _, _, h, _, _, _, _ => absurd h (Nat.not_lt_zero _)
  | k + 1, a, v, h, hf, hl, h0, h1 => by
    have h3 : cap = 1099511627776 := rfl
    simp only [laws_szOrdinal, laws_szOrdinal_b, laws_szOrdinalTermS]
    have e1 : IntKind.i64.wrap (v - (a.rows.length : Int)) = v - (a.len : Int) := by rw [lenI, wid (by omega) (by omega)]
    rw [e1]
    by_cases g : v - (a.len : Int) < 0
    · rw [if_pos g, Option.bind_some, if_pos (by omega)]
      exact ⟨-1, rfl, by omega, by omega, fun h => by omega⟩
    · rw [if_neg g, if_pos (by rw [rows_len]; omega)]
      rcases sz_loop (rec_ := laws_szOrdinal k) (a := a) (K := fun v22 => some v22) (fun e v he hf hl h0 h1 => sz_eq k e v (by omega) hf hl h0 h1) a (v - (a.len : Int)) (Nat.le_refl _) hf (by omega) (by omega) with q | ⟨r, q, p1, p2⟩
      · rw [q, Option.bind_some, if_pos (by omega)]
        exact ⟨-1, rfl, by omega, by omega, fun h => by omega⟩
      · rw [q, Option.bind_some, if_neg (by omega)]
        exact ⟨r, rfl, by omega, by omega, fun _ => by omega⟩
end Go.Proofs.Try

namespace Go.Proofs.Try
open Go Go.AX T
theorem fr_drop_app (l r : T) : drop (app l r) l.len = r := by
  induction l with
  | nil => simp [app, len]
  | cons e c l _ ih => exact ih
def mkT : T → Int → T
  | nil, _ => nil
  | cons e _ l, k => cons (mkT e k) (k + size e) (mkT l (k + size e + 1))
theorem mkT_len (t : T) (k : Int) : (mkT t k).len = t.len := by
  induction t generalizing k with
  | nil => rfl
  | cons e c l _ ih => simp [mkT, len, ih]
theorem mkT_size (t : T) (k : Int) : (mkT t k).size = t.size := by
  induction t generalizing k with
  | nil => rfl
  | cons e c l ihe ih => simp [mkT, size, ihe, ih]
theorem set_rows (l e e' r : T) (c c' : Int) : (app l (cons e c r)).rows.set l.len [D.sl e'.rows, D.int .i64 c'] = (app l (cons e' c' r)).rows := by
  rw [rows_app, rows_app, ← rows_len l, List.set_append_right (h := Nat.le_refl _), Nat.sub_self]; rfl
theorem mark_loop {rec_ : Rw → Int → Option (Int × Rw)} {K0 : Int → Rw → Option (Int × Rw)} {N : Nat} (hr : ∀ (e : T) (k : Int), e.size < N → 0 ≤ k → k + e.size ≤ 4000000000000000000 → rec_ e.rows k = some (k + e.size, (mkT e k).rows)) :
    ∀ (t done : T) (n : Nat) (k : Int), t.size ≤ N → t.len < n → 0 ≤ k → k + t.size ≤ 4000000000000000000 → done.len + t.len ≤ 4000000000000000000 → laws_markOrdinalTermS_l0 rec_ K0 n (app done t).rows k done.len = K0 (k + t.size) (app done (mkT t k)).rows
  | _, _, 0, _, _, h, _, _, _ => absurd h (Nat.not_lt_zero _)
  | nil, done, n + 1, k, _, _, _, _, _ => by
    simp only [laws_markOrdinalTermS_l0]
    rw [if_neg (by rw [app_nil, lenI]; omega)]
    simp [size, mkT]
  | cons e c l, done, n + 1, k, hs, hn, h0, hk, hl => by
    simp only [size] at hs hk
    simp only [len] at hn hl
    have hlen : ((app done (cons e c l)).rows.length : Int) = done.len + l.len + 1 := by rw [lenI, len_app]; simp only [len]; omega
    have hd : ∀ (e' : T) (c' : Int), drop (app done (cons e' c' l)) done.len = cons e' c' l := fun e' c' => fr_drop_app done _
    simp only [laws_markOrdinalTermS_l0]
    rw [if_pos (by omega), if_pos (by omega), row_T rfl (hd e c), hr e k (by omega) h0 (by omega), Option.bind_some, Int.toNat_natCast]
    simp only
    rw [set_rows, row_T rfl (hd (mkT e k) c), set_rows, wid (by omega) (by omega), wid (by omega) (by omega)]
    have e1 : app done (cons (mkT e k) (k + e.size) l) = app (app done (cons (mkT e k) (k + e.size) nil)) l := by rw [app_assoc]; rfl
    have e2 : ((done.len : Int) + 1) = ((app done (cons (mkT e k) (k + e.size) nil)).len : Int) := by rw [fr_snocLen]; rfl
    rw [e1, e2, mark_loop hr l _ n (k + e.size + 1) (by omega) (by omega) (by omega) (by omega) (by rw [fr_snocLen]; omega), app_assoc]
    have e3 : k + (e.size : Int) + 1 + (l.size : Int) = k + ((cons e c l).size : Int) := by simp only [size]; omega
    rw [e3]; rfl
theorem markS_eq : ∀ (K : Nat) (t : T) (k : Int), t.size + 1 < K → 0 ≤ k → k + t.size ≤ 4000000000000000000 → laws_markOrdinalTermS K t.rows k = some (k + t.size, (mkT t k).rows)
  | 0, _, _, h, _, _ => absurd h (Nat.not_lt_zero _)
  | K + 1, nil, k, h, _, _ => by
    obtain ⟨m, rfl⟩ : ∃ m, K = m + 1 := ⟨K - 1, by omega⟩
    simp only [laws_markOrdinalTermS, laws_markOrdinalTermS_b, laws_markOrdinalTermS_2, laws_markOrdinalTermS_2_l0]
    simp [rows, mkT, size]
  | K + 1, cons e c l, k, h, h0, hk => by
    have hl := (cons e c l).len_size
    simp only [laws_markOrdinalTermS, laws_markOrdinalTermS_b]
    rw [if_neg (by simp [rows])]
    have := mark_loop (rec_ := laws_markOrdinalTermS K) (K0 := fun (v30 : Int) (v31 : Rw) => (if v31.length = (cons e c l).rows.length then some (v30, v31) else none)) (N := (cons e c l).size) (fun e' k' he h0' hk' => markS_eq K e' k' (by omega) h0' hk') (cons e c l) nil K k (Nat.le_refl _) (by omega) h0 hk (by simp only [len] at hl ⊢; omega)
    refine this.trans ?_
    show (if (mkT (cons e c l) k).rows.length = (cons e c l).rows.length then _ else _) = _
    rw [if_pos (by rw [rows_len, rows_len, mkT_len])]
    rfl
theorem mark_eq (K : Nat) (t : T) (k : Int) (h : t.size + 1 < K) (h0 : 0 ≤ k) (hk : k + t.size ≤ 4000000000000000000) : laws_markOrdinal K t.rows k = some (k + t.size, (mkT t k).rows) := by
  unfold laws_markOrdinal
  cases t with
  | nil =>
    obtain ⟨m, rfl⟩ : ∃ m, K = m + 1 := ⟨K - 1, by omega⟩
    simp [rows, mkT, size, laws_markOrdinal_2, laws_markOrdinalTermS_2, laws_markOrdinalTermS_2_l0]
  | cons e c l =>
    rw [if_neg (by simp [rows]), markS_eq K _ k h h0 hk, Option.bind_some]
    simp only
    rw [if_pos (by rw [rows_len, rows_len, mkT_len])]
theorem held_loop {rec_ : Rw → Int → Option Int} {a : Rw} {K0 : Int → Option Int} {N : Nat} (hr : ∀ (e : T) (k : Int), e.size < N → 0 ≤ k → k + e.size ≤ 4000000000000000000 → rec_ (mkT e k).rows k = some (k + e.size)) :
    ∀ (t : T) (k : Int), t.size ≤ N → 0 ≤ k → k + t.size ≤ 4000000000000000000 → laws_heldOrdinalTermS_l0 rec_ a K0 (mkT t k).rows k = K0 (k + t.size)
  | nil, k, _, _, _ => by simp [mkT, rows, laws_heldOrdinalTermS_l0, size]
  | cons e c l, k, hs, h0, hk => by
    simp only [size] at hs hk
    simp only [mkT, rows, laws_heldOrdinalTermS_l0, cell_T]
    rw [hr e k (by omega) h0 (by omega), Option.bind_some, if_neg (by omega), if_pos rfl, wid (by omega) (by omega), held_loop hr l _ (by omega) (by omega) (by omega)]
    congr 1; simp only [size]; omega
theorem heldS_eq : ∀ (K : Nat) (t : T) (k : Int), t.size < K → t.size ≤ cap → 0 ≤ k → k + t.size ≤ 4000000000000000000 → laws_heldOrdinalTermS K (mkT t k).rows k = some (k + t.size)
  | 0, _, _, h, _, _, _ => absurd h (Nat.not_lt_zero _)
  | K + 1, t, k, h, hc, h0, hk => by
    have hl := t.len_size
    simp only [laws_heldOrdinalTermS, laws_heldOrdinalTermS_b]
    rw [if_pos (by rw [rows_len, mkT_len]; omega), held_loop (N := t.size) (fun e' k' he h0' hk' => heldS_eq K e' k' (by omega) (by omega) h0' hk') t k (Nat.le_refl _) h0 hk]
theorem held_eq (K : Nat) (t : T) (k : Int) (h : t.size < K) (hc : t.size ≤ cap) (h0 : 0 ≤ k) (hk : k + t.size ≤ 4000000000000000000) : laws_heldOrdinal K (mkT t k).rows k = some (k + t.size) := by
  unfold laws_heldOrdinal
  rw [heldS_eq K t k h hc h0 hk, Option.bind_some, if_neg (by omega)]
end Go.Proofs.Try

namespace Go.Proofs.Try
open Go Go.AX T
abbrev w (n : Int) : Int := IntKind.i64.wrap n
theorem drop_app (l r : T) : drop (app l r) l.len = r := by
  induction l with
  | nil => simp [app, len]
  | cons e c l _ ih => exact ih
theorem T.snoc (t : T) : t = nil ∨ ∃ l x c, t = app l (cons x c nil) := by
  induction t with
  | nil => exact .inl rfl
  | cons e c l _ ih =>
    rcases ih with rfl | ⟨l', x, d, rfl⟩
    · exact .inr ⟨nil, e, c, rfl⟩
    · exact .inr ⟨cons e c l', x, d, rfl⟩
theorem calm_app {a b : T} : calm (app a b) ↔ calm a ∧ calm b := by
  induction a with
  | nil => simp [app, calm]
  | cons e c l _ ih => simp only [app, calm, ih, and_assoc]
/-! ### impl's sum -/
def goP : T → T → Int → T → T
  | nil, f, d, m => cons f d m
  | cons e c l, f, d, m => if cmpT e f = 1 then cons e c (goP l f d m) else if cmpT e f = 0 then cons e (w (c + d)) m else goP l f d m
def plusT : T → T → T
  | a, nil => a
  | a, cons f d m => goP a f d m
theorem goP_size (a f : T) (d : Int) (m : T) : (goP a f d m).size ≤ a.size + f.size + m.size + 1 := by
  induction a with
  | nil => simp [goP, size]
  | cons e c l _ ih =>
    simp only [goP]
    split
    · simp only [size]; omega
    · split
      · simp only [size]; omega
      · simp only [size]; omega
theorem plusT_size (a b : T) : (plusT a b).size ≤ a.size + b.size := by
  cases b with
  | nil => simp [plusT]
  | cons f d m => simp only [plusT, size]; have := goP_size a f d m; omega
theorem impl_isZero_eq (t : T) : impl_isZero t.rows = some (match t with | nil => true | cons _ _ _ => false) := by
  unfold impl_isZero
  cases t with
  | nil => rfl
  | cons e c l => rw [if_neg (by rw [lenI]; simp only [len]; omega)]
theorem plus_loop {k : Nat} {a b f m : T} {d : Int} (hb : b = cons f d m) (hk : a.size < k) (hc : a.size + b.size + 1 ≤ cap) : ∀ (t acc : T), t.size ≤ a.size → acc.len + t.len ≤ a.len →
    impl_plus_l0 k a.rows b.rows (fun v => impl_plus_p4 b.rows v) t.rows acc.rows = some (app acc (goP t f d m)).rows
  | nil, acc, _, hl => by
    have h1 := a.len_size
    have h2 := b.len_size
    have h3 : cap = 1099511627776 := rfl
    simp only [len] at hl
    show impl_plus_p4 b.rows acc.rows = _
    unfold impl_plus_p4
    rw [if_pos ⟨by rw [rows_len, rows_len]; omega, rowsWide _⟩, rows_app, hb]; rfl
  | cons e c l, acc, hs, hl => by
    have h1 := a.len_size
    have h2 := b.len_size
    have h3 : cap = 1099511627776 := rfl
    have h4 : b.len = m.len + 1 := by rw [hb]; rfl
    simp only [size] at hs
    simp only [len] at hl
    have hq : drop b 0 = cons f d m := by rw [hb]; rfl
    simp only [rows, impl_plus_l0, cell_T]
    rw [row_T (t := b) (i := 0) (n := 0) rfl hq, impl_cmp_eq k e f (by omega) (by omega), Option.bind_some]
    by_cases g1 : cmpT e f = 1
    · rw [if_pos g1, if_pos (by rw [rows_len]; omega)]
      have e1 : acc.rows ++ [[D.sl e.rows, D.int .i64 c]] = (app acc (cons e c nil)).rows := by rw [rows_app]; rfl
      have := plus_loop hb hk hc l (app acc (cons e c nil)) (by omega) (by rw [len_app]; simp only [len]; omega)
      rw [e1, this, app_assoc]
      simp [goP, g1, app]
    · rw [if_neg g1]
      by_cases g2 : cmpT e f = 0
      · rw [if_pos g2, if_pos (by rw [rows_len]; omega), if_pos ⟨by omega, by rw [lenI]; omega, rowsWide b⟩]
        have e3 : b.rows.drop (Int.toNat 1) = m.rows := by rw [hb]; rfl
        rw [e3, if_pos ⟨by simp only [List.length_append, rows_len, List.length_cons, List.length_nil]; omega, rowsWide m⟩]
        have g1' : ¬ (0 : Int) = 1 := by omega
        simp only [goP, g2, if_neg g1', if_true, rows_app, rows]
        rw [List.append_assoc]; rfl
      · rw [if_neg g2]
        have := plus_loop hb hk hc l acc (by omega) (by omega)
        rw [this]
        simp [goP, g1, g2]
theorem plus_eq (k : Nat) (a b : T) (hk : a.size < k) (hc : a.size + b.size + 1 ≤ cap) : impl_plus k a.rows b.rows = some (plusT a b).rows := by
  unfold impl_plus
  have h1 := a.len_size
  rw [impl_isZero_eq, Option.bind_some]
  cases b with
  | nil => rfl
  | cons f d m =>
    simp only
    rw [if_neg (by simp)]
    unfold impl_plus_p2
    rw [if_pos (by rw [rows_len]; omega)]
    have := plus_loop (b := cons f d m) rfl hk hc a nil (Nat.le_refl _) (by simp [len])
    exact this
theorem calm_less {a b : T} (h : ordP a = true) : True := trivial
theorem form_calm {p : Option T} {t : T} (h : formA p t = true) : calm t := by
  induction t generalizing p with
  | nil => trivial
  | cons e c l ihe ihl =>
    simp only [formA, Bool.and_eq_true, decide_eq_true_eq] at h
    obtain ⟨⟨⟨⟨h1, h2⟩, h3⟩, _⟩, h5⟩ := h
    exact ⟨ihe h3, by omega, ihl h5⟩
theorem ordP_form {t : T} (h : ordP t = true) : formA none t = true := by
  simp only [ordP, Bool.and_eq_true] at h; exact h.2
theorem form_any {p : Option T} {t : T} (h : formA p t = true) : formA none t = true := by
  cases t with
  | nil => rfl
  | cons e c l =>
    simp only [formA, Bool.and_eq_true] at h ⊢
    exact ⟨⟨⟨h.1.1.1, h.1.1.2⟩, trivial⟩, h.2⟩
end Go.Proofs.Try

namespace Go.Proofs.Try
open Go Go.AX T
/-- Without the terms at the end that are less than w^e. -/
def popT : T → T → T
  | nil, _ => nil
  | cons x c l, e => match popT l e with
    | nil => if cmpT x e < 0 then nil else cons x c nil
    | cons y d m => cons x c (cons y d m)
/-- A term added at the end. -/
def addL : T → T → Int → T
  | nil, e, d => cons e d nil
  | cons x c l, e, d => match l with
    | nil => if cmpT x e = 0 then cons x (w (c + d)) nil else cons x c (cons e d nil)
    | cons _ _ _ => cons x c (addL l e d)
def splus : T → T → T
  | a, nil => a
  | a, cons f d m => splus (addL (popT a f) f d) m
theorem popT_snoc (l x : T) (c : Int) (e : T) : popT (app l (cons x c nil)) e = if cmpT x e < 0 then popT l e else app l (cons x c nil) := by
  induction l with
  | nil => simp [app, popT]
  | cons y d l _ ih =>
    by_cases h : cmpT x e < 0
    · rw [if_pos h] at ih ⊢
      simp only [app, popT]
      rw [ih]
    · rw [if_neg h] at ih ⊢
      simp only [app, popT]
      rw [ih]
      cases l <;> simp [app]
theorem addL_snoc (l x : T) (c : Int) (e : T) (d : Int) : addL (app l (cons x c nil)) e d = if cmpT x e = 0 then app l (cons x (w (c + d)) nil) else app (app l (cons x c nil)) (cons e d nil) := by
  induction l with
  | nil => simp only [app, addL]
  | cons y k l _ ih =>
    have : app l (cons x c nil) ≠ nil := by cases l <;> simp [app]
    simp only [app, addL]
    split
    · rename_i h; exact absurd h this
    · rename_i h
      rw [ih]
      split <;> rfl
theorem popT_size (a e : T) : (popT a e).size ≤ a.size := by
  induction a with
  | nil => simp [popT, size]
  | cons x c l _ ih =>
    simp only [popT]
    split
    · split <;> simp [size]
    · rename_i h; rw [h] at ih; simp only [size] at ih ⊢; omega
theorem addL_size (a e : T) (d : Int) : (addL a e d).size ≤ a.size + e.size + 1 := by
  induction a with
  | nil => simp [addL, size]
  | cons x c l _ ih =>
    simp only [addL]
    split
    · split <;> simp [size] <;> omega
    · simp only [size] at ih ⊢; omega
theorem splus_size (a b : T) : (splus a b).size ≤ a.size + b.size := by
  induction b generalizing a with
  | nil => simp [splus, size]
  | cons f d m _ ih =>
    have h1 := ih (addL (popT a f) f d)
    have h2 := addL_size (popT a f) f d
    have h3 := popT_size a f
    simp only [splus, size] at *; omega
/-- Coefficients within a bound. -/
def sm (B : Int) : T → Prop
  | nil => True
  | cons e c l => sm B e ∧ (-B ≤ c ∧ c ≤ B) ∧ sm B l
theorem sm_calm {B : Int} {t : T} (h : sm B t) (hB : B ≤ 1000000000000000) : calm t := by
  induction t with
  | nil => trivial
  | cons e c l ihe ihl => exact ⟨ihe h.1, by have := h.2.1; omega, ihl h.2.2⟩
theorem sm_mono {B C : Int} {t : T} (h : sm B t) (hB : B ≤ C) : sm C t := by
  induction t with
  | nil => trivial
  | cons e c l ihe ihl => exact ⟨ihe h.1, by have := h.2.1; omega, ihl h.2.2⟩
theorem sm_app {B : Int} {a b : T} : sm B (app a b) ↔ sm B a ∧ sm B b := by
  induction a with
  | nil => simp [app, sm]
  | cons e c l _ ih => simp only [app, sm, ih, and_assoc]
theorem sm_pop {B : Int} {a e : T} (h : sm B a) : sm B (popT a e) := by
  induction a with
  | nil => trivial
  | cons x c l _ ih =>
    have ih := ih h.2.2
    simp only [popT]
    split
    · split
      · trivial
      · exact ⟨h.1, h.2.1, trivial⟩
    · rename_i hq; rw [hq] at ih; exact ⟨h.1, h.2.1, ih⟩
theorem sm_addL {B C : Int} {a e : T} {d : Int} (h : sm B a) (he : sm C e) (hd : -C ≤ d ∧ d ≤ C) (hB : 0 ≤ B ∧ 0 ≤ C ∧ B + C ≤ 1000000000000000) : sm (B + C) (addL a e d) := by
  induction a with
  | nil => exact ⟨sm_mono he (by omega), by omega, trivial⟩
  | cons x c l _ ih =>
    obtain ⟨h1, h2, h3⟩ := h
    simp only [addL]
    split
    · split
      · refine ⟨sm_mono h1 (by omega), ?_, trivial⟩
        show _ ≤ w (c + d) ∧ w (c + d) ≤ _
        rw [show w (c + d) = c + d from wid (by omega) (by omega)]; omega
      · exact ⟨sm_mono h1 (by omega), by omega, sm_mono he (by omega), by omega, trivial⟩
    · exact ⟨sm_mono h1 (by omega), by omega, ih h3⟩
theorem snoc_last (l x : T) (c : Int) : drop (app l (cons x c nil)) l.len = cons x c nil := drop_app l _
theorem pop_loop {k : Nat} {b f : T} {i : Nat} {d : Int} {K : Rw → Option Rw} (qf : calm f) : ∀ (n : Nat) (x : T), x.len < n → x.size < k → x.size ≤ cap → calm x → spec_odPlus_l1 k b.rows i f.rows d K n x.rows = K (popT x f).rows
  | 0, x, h, _, _, _ => absurd h (Nat.not_lt_zero _)
  | n + 1, x, h, hk, hc, hq => by
    have h3 : cap = 1099511627776 := rfl
    have hl := x.len_size
    rcases T.snoc x with rfl | ⟨l, e, c, rfl⟩
    · simp [rows, spec_odPlus_l1, popT]
    · have hlen : (app l (cons e c nil)).len = l.len + 1 := by rw [len_app]; rfl
      have hsz : (app l (cons e c nil)).size = l.size + e.size + 1 := by rw [size_app]; simp [size]; omega
      rw [hlen] at h hl
      rw [calm_app] at hq
      have e1 : w (((app l (cons e c nil)).rows.length : Int) - 1) = (l.len : Int) := by rw [lenI, hlen]; show w _ = _; rw [show w (((l.len + 1 : Nat) : Int) - 1) = ((l.len + 1 : Nat) : Int) - 1 from wid (by omega) (by omega)]; omega
      simp only [spec_odPlus_l1]
      rw [if_pos (by rw [lenI, hlen]; omega)]
      simp only [w] at e1
      rw [e1, if_pos (by rw [lenI, hlen]; omega), row_T rfl (snoc_last l e c), odCmp_eq k e f hq.2.1 qf (by omega) (by omega), Option.bind_some, popT_snoc]
      by_cases g : cmpT e f < 0
      · rw [if_pos g, if_pos g, if_pos (by rw [lenI, hlen]; omega), Int.toNat_natCast, if_pos (by rw [rows_len, hlen]; omega)]
        have e2 : (app l (cons e c nil)).rows.take l.len = l.rows := by rw [rows_app, ← rows_len l]; exact List.take_left
        rw [e2]
        exact pop_loop qf n l (by omega) (by omega) (by omega) hq.1
      · rw [if_neg g, if_neg g]
theorem splus_loop {k : Nat} {b : T} {B : Int} : ∀ (t : T) (i : Nat) (acc : T) (C : Int), drop b i = t → acc.size + t.size < k → acc.size + t.size ≤ cap → sm C acc → sm B t → 0 ≤ B → 0 ≤ C → C + B * t.len + B ≤ 1000000000000000 →
    spec_odPlus_l0 k b.rows (fun v => spec_odPlus_p3 v) t.rows i acc.rows = some (splus acc t).rows
  | nil, i, acc, C, _, _, _, _, _, _, _, _ => rfl
  | cons f d m, i, acc, C, hd, hk, hc, sa, st, hB, hC, hs => by
    have h3 : cap = 1099511627776 := rfl
    simp only [size] at hk hc
    simp only [len] at hs
    have hs' : C + B + B * m.len + B ≤ 1000000000000000 := by
      have e : B * ((m.len + 1 : Nat) : Int) = B * m.len + B := by rw [Int.natCast_add, Int.mul_add]; omega
      rw [e] at hs; omega
    have hnn : 0 ≤ B * (m.len : Int) := Int.mul_nonneg hB (by omega)
    have ca := sm_calm sa (by omega)
    have cf := sm_calm st.1 (by omega)
    have hl := acc.len_size
    simp only [rows, spec_odPlus_l0, cell_T]
    rw [pop_loop cf k acc (by omega) (by omega) (by omega) ca]
    have hps := popT_size acc f
    have hpc := sm_pop (e := f) sa
    have hal := addL_size (popT acc f) f d
    have hsm : sm (C + B) (addL (popT acc f) f d) := sm_addL hpc st.1 st.2.1 ⟨hC, hB, by omega⟩
    have go := splus_loop (k := k) (b := b) (B := B) m (i + 1) (addL (popT acc f) f d) (C + B) (drop_succ hd) (by omega) (by omega) hsm st.2.2 hB (by omega) hs'
    have e0 : splus acc (cons f d m) = splus (addL (popT acc f) f d) m := rfl
    rw [e0, ← go]
    have hpl := (popT acc f).len_size
    rcases T.snoc (popT acc f) with hn | ⟨l, x, c, hn⟩
    · rw [hn]
      have e1 : IntKind.i64.wrap (((nil : T).rows.length : Int) - 1) = -1 := by rw [lenI]; simp only [len]; exact wid (by omega) (by omega)
      rw [e1, if_neg (by omega), if_pos (by rw [rows_len]; simp only [len]; omega)]
      rfl
    · rw [hn] at hpc hps hpl ⊢
      have hlen : (app l (cons x c nil)).len = l.len + 1 := by rw [len_app]; rfl
      have hsz : (app l (cons x c nil)).size = l.size + x.size + 1 := by rw [size_app]; simp [size]; omega
      have hpc' := (calm_app.1 (sm_calm hpc (by omega))).2
      have e1 : IntKind.i64.wrap (((app l (cons x c nil)).rows.length : Int) - 1) = (l.len : Int) := by rw [lenI, hlen, wid (by omega) (by omega)]; omega
      rw [e1, if_pos (by omega), if_pos (by rw [lenI, hlen]; omega), row_T rfl (snoc_last l x c), odCmp_eq k x f hpc'.1 cf (by omega) (by omega), Option.bind_some, addL_snoc]
      by_cases g : cmpT x f = 0
      · rw [if_pos g, if_pos g]
        have e2 : (app l (cons x c nil)).rows.set (Int.toNat (l.len : Int)) [D.sl x.rows, D.int .i64 (IntKind.i64.wrap (c + d))] = (app l (cons x (w (c + d)) nil)).rows := by
          rw [Int.toNat_natCast, rows_app, rows_app, ← rows_len l, List.set_append_right (h := Nat.le_refl _), Nat.sub_self]; rfl
        rw [e2]
      · rw [if_neg g, if_neg g, if_pos (by rw [rows_len]; omega)]
        have e2 : (app l (cons x c nil)).rows ++ [[D.sl f.rows, D.int .i64 d]] = (app (app l (cons x c nil)) (cons f d nil)).rows := by rw [rows_app (app l _)]; rfl
        rw [e2]
theorem odPlus_eq {B C : Int} (k : Nat) (a b : T) (hk : a.size + b.size < k) (hc : a.size + b.size ≤ cap) (sa : sm C a) (sb : sm B b) (hB : 0 ≤ B) (hC : 0 ≤ C) (hs : C + B * b.len + B ≤ 1000000000000000) : spec_odPlus k a.rows b.rows = some (splus a b).rows := by
  have h1 := a.len_size
  have h2 := b.len_size
  unfold spec_odPlus
  rw [if_pos ⟨by rw [rows_len]; omega, rowsWide a⟩, if_pos (by rw [rows_len]; omega)]
  exact splus_loop b 0 a C (drop_zero b) hk hc sa sb hB hC hs
/-! ### right ones -/
theorem form_sm {p : Option T} {t : T} (h : formA p t = true) : sm 1000000 t := by
  induction t generalizing p with
  | nil => trivial
  | cons e c l ihe ihl =>
    simp only [formA, Bool.and_eq_true, decide_eq_true_eq] at h
    obtain ⟨⟨⟨⟨h1, h2⟩, h3⟩, _⟩, h5⟩ := h
    exact ⟨ihe h3, by omega, ihl h5⟩
/-- Exponents that fall, from below p on. -/
def falls : Option T → T → Prop
  | _, nil => True
  | p, cons e _ l => (∀ q, p = some q → 0 < cmpT q e) ∧ falls (some e) l
theorem form_falls {p : Option T} {t : T} (h : formA p t = true) : falls p t := by
  induction t generalizing p with
  | nil => trivial
  | cons e c l _ ihl =>
    simp only [formA, Bool.and_eq_true, decide_eq_true_eq] at h
    refine ⟨fun q hq => ?_, ihl h.2⟩
    subst hq
    simpa using h.1.2
theorem cmp_lt_of {a b c : T} (h1 : 0 < cmpT a b) (h2 : cmpT b c = 1 ∨ cmpT b c = 0) : 0 < cmpT a c := by
  rcases h2 with h2 | h2
  · have q1 : cmpT b a < 0 := by rw [cmpT_neg a b]; omega
    have q2 : cmpT c b < 0 := by rw [cmpT_neg b c]; omega
    have := cmpT_trans q2 q1
    rw [cmpT_neg c a]; omega
  · obtain rfl := cmpT_eq.1 h2; exact h1
/-- In falling terms, those ahead of a greater one are greater. -/
theorem goP_pop {a f : T} {d : Int} : ∀ {p : Option T}, falls p a → addL (popT a f) f d = goP a f d nil
  | p, h => by
    induction a generalizing p with
    | nil => rfl
    | cons e c l _ ih =>
      have h2 := h.2
      have key : ∀ {x : T}, falls (some x) l → cmpT x f ≤ 0 → popT l f = nil := by
        intro x hx hxf
        clear ih h h2
        induction l generalizing x with
        | nil => rfl
        | cons y k m _ ihm =>
          have hy := hx.1 x rfl
          have hyf : cmpT y f < 0 := by
            rcases cmpT_range x f with q | q | q
            · have q2 : cmpT y x < 0 := by rw [cmpT_neg x y]; omega
              exact cmpT_trans q2 (by omega)
            · obtain rfl := cmpT_eq.1 q
              rw [cmpT_neg x y]; omega
            · omega
          simp only [popT, ihm hx.2 (by omega), if_pos hyf]
      have ih := ih _ h2
      simp only [popT, goP]
      rcases cmpT_range e f with q | q | q
      · rw [key h2 (by omega)]
        have e1 : ¬ cmpT e f = 1 := by omega
        have e2 : ¬ cmpT e f = 0 := by omega
        simp only [if_neg e1, if_neg e2, if_pos (by omega : cmpT e f < 0)]
        rw [← ih, key h2 (by omega)]
      · rw [key h2 (by omega)]
        have e1 : ¬ cmpT e f = 1 := by omega
        simp only [if_neg e1, if_pos q, if_neg (by omega : ¬ cmpT e f < 0), addL]
      · simp only [if_pos q]
        rw [← ih]
        cases hq : popT l f with
        | nil =>
          simp only [if_neg (by omega : ¬ cmpT e f < 0), addL, if_neg (by omega : ¬ cmpT e f = 0)]
        | cons y k m => simp only [addL]
theorem goP_app {a f : T} {d : Int} {m : T} : goP a f d m = app (goP a f d nil) m := by
  induction a with
  | nil => rfl
  | cons e c l _ ih =>
    simp only [goP]
    split
    · simp only [app, ih]
    · split
      · rfl
      · exact ih
/-- What is less than all ahead of it is only added at the end. -/
theorem splus_end {a x : T} {c : Int} : ∀ {m : T}, falls (some x) m → splus (app a (cons x c nil)) m = app (app a (cons x c nil)) m
  | nil, _ => by simp [splus]
  | cons g k m, h => by
    have h1 := h.1 x rfl
    simp only [splus]
    rw [popT_snoc, if_neg (by omega), addL_snoc, if_neg (by omega)]
    rw [splus_end (a := app a (cons x c nil)) h.2, app_assoc (app a (cons x c nil))]
    rfl
theorem goP_snoc {a f : T} {d : Int} : ∃ l c, goP a f d nil = app l (cons f c nil) := by
  induction a with
  | nil => exact ⟨nil, d, rfl⟩
  | cons e c l _ ih =>
    obtain ⟨l', c', h⟩ := ih
    simp only [goP]
    split
    · exact ⟨cons e c l', c', by rw [h]; rfl⟩
    · split
      · rename_i q; obtain rfl := cmpT_eq.1 q; exact ⟨nil, _, rfl⟩
      · exact ⟨l', c', h⟩
theorem splus_plus {a b : T} (ha : falls none a) (hb : falls none b) : splus a b = plusT a b := by
  cases b with
  | nil => cases a <;> rfl
  | cons f d m =>
    simp only [splus, plusT]
    rw [goP_pop ha, goP_app (m := m)]
    obtain ⟨l, c, h⟩ := goP_snoc (a := a) (f := f) (d := d)
    rw [h]
    exact splus_end hb.2
theorem plusT_sm {B C : Int} {a b : T} (ha : sm B a) (hb : sm C b) (hB : 0 ≤ B ∧ 0 ≤ C ∧ B + C ≤ 1000000000000000) : sm (B + C) (plusT a b) := by
  cases b with
  | nil => exact sm_mono ha (by omega)
  | cons f d m =>
    simp only [plusT]
    have hm : sm (B + C) m := sm_mono hb.2.2 (by omega)
    induction a with
    | nil => exact ⟨sm_mono hb.1 (by omega), by have := hb.2.1; omega, hm⟩
    | cons e c l _ ih =>
      have h1 := ha.2.1
      have h2 := hb.2.1
      simp only [goP]
      split
      · exact ⟨sm_mono ha.1 (by omega), by omega, ih ha.2.2⟩
      · split
        · refine ⟨sm_mono ha.1 (by omega), ?_, hm⟩
          show _ ≤ w (c + d) ∧ w (c + d) ≤ _
          rw [show w (c + d) = c + d from wid (by omega) (by omega)]; omega
        · exact ih ha.2.2
def intT (n : Int) : T := if n = 0 then nil else cons nil n nil
theorem intT_size (n : Int) : (intT n).size ≤ 1 := by unfold intT; split <;> simp [size]
theorem intT_sm {n B : Int} (h : -B ≤ n ∧ n ≤ B) : sm B (intT n) := by
  unfold intT; split
  · trivial
  · exact ⟨trivial, h, trivial⟩
theorem snocRows (l e : T) (c : Int) : l.rows ++ [[D.sl e.rows, D.int .i64 c]] = (app l (cons e c nil)).rows := by rw [rows_app]; rfl
end Go.Proofs.Try

namespace Go.Proofs.Try
open Go Go.AX T
theorem form_loop_all {k : Nat} {rec_ : Rw → Int → Option Bool} {a : T} {depth : Int} (hd : 0 ≤ depth ∧ depth ≤ 6) (hk : a.size ≤ k) (hc : a.size ≤ cap)
    (hr : ∀ e : T, e.size < a.size → rec_ e.rows (depth - 1) = some (decide ((dp e : Int) ≤ depth - 1) && formA none e)) :
    ∀ (t : T) (i : Nat), drop a i = t → i ≤ a.len → (∀ q, ahead a i = some q → calm q) → spec_odForm_l0 k rec_ a.rows depth spec_odForm_p3 t.rows i = some (decide ((dp t : Int) ≤ depth) && formA (ahead a i) t)
  | nil, i, hdr, hi, _ => by
    have : decide ((dp nil : Int) ≤ depth) = true := decide_eq_true (by simp only [dp]; omega)
    rw [this]; rfl
  | cons e c l, i, hdr, hi, hcalm => by
    have hs := drop_cons_size hdr
    simp only [rows, spec_odForm_l0, cell_T, l1In_eq, Option.bind_some]
    by_cases h2 : (decide (1 ≤ c) && decide (c ≤ 1000000)) = true
    · rw [if_pos h2, wid (n := depth - 1) (by omega) (by omega), hr e (by omega), Option.bind_some]
      by_cases h3 : (decide ((dp e : Int) ≤ depth - 1) && formA none e) = true
      · rw [if_pos h3]
        simp only [Bool.and_eq_true, decide_eq_true_eq] at h3
        have hce := form_calm h3.2
        have go : ∀ (hp : (match ahead a i with | none => true | some q => decide (0 < cmpT q e)) = true), spec_odForm_l0 k rec_ a.rows depth spec_odForm_p3 l.rows (i + 1) = some (decide ((dp (cons e c l) : Int) ≤ depth) && formA (ahead a i) (cons e c l)) := by
          intro hp
          rw [form_loop_all hd hk hc hr l (i + 1) (drop_succ hdr) (drop_lt hdr) (by rw [ahead_succ hdr]; intro q hq; cases hq; exact hce), ahead_succ hdr]
          have e1 : decide ((dp (cons e c l) : Int) ≤ depth) = decide ((dp l : Int) ≤ depth) := by simp only [dp]; congr 1; apply propext; omega
          have h6 : formA (ahead a i) (cons e c l) = formA (some e) l := by
            simp only [formA, h2, h3.2, Bool.true_and]
            cases hq : ahead a i with
            | none => simp
            | some q => rw [hq] at hp; simp only at hp; simp [hp]
          rw [e1, h6]
        by_cases h4 : (0 : Int) < (i : Int)
        · obtain ⟨q, qc, ql, hq, ha'⟩ := ahead_some (t := a) (i := i) (by omega) hi
          have hqs := drop_cons_size hq
          have hcq := hcalm q ha'
          rw [if_pos h4, wid (n := (i : Int) - 1) (by omega) (by have := a.len_size; have : cap = 1099511627776 := rfl; omega), row_T (n := i - 1) (by omega) hq, odCmp_eq k q e hcq hce (by omega) (by omega), Option.bind_some]
          by_cases h5 : cmpT q e ≤ 0
          · rw [if_pos h5]
            have : decide (0 < cmpT q e) = false := by simpa using h5
            simp [formA, ha', this]
          · rw [if_neg h5]
            exact go (by rw [ha']; simp; omega)
        · rw [if_neg h4]
          have : i = 0 := by omega
          subst this
          exact go rfl
      · rw [if_neg h3]
        have : (decide ((dp (cons e c l) : Int) ≤ depth) && formA (ahead a i) (cons e c l)) = false := by
          refine Bool.eq_false_iff.2 fun hx => h3 ?_
          rw [Bool.and_eq_true, decide_eq_true_eq] at hx ⊢
          obtain ⟨x1, x2⟩ := hx
          simp only [dp] at x1
          simp only [formA, Bool.and_eq_true] at x2
          exact ⟨by omega, x2.1.1.2⟩
        rw [this]
    · rw [if_neg h2]
      have : formA (ahead a i) (cons e c l) = false := by
        simp only [formA]
        cases hx : (decide (1 ≤ c) && decide (c ≤ 1000000)) with
        | true => exact absurd hx h2
        | false => simp
      rw [this, Bool.and_false]
theorem form_all : ∀ (k : Nat) (a : T) (depth : Int), a.size < k → a.size ≤ cap → -1 ≤ depth → depth ≤ 6 → spec_odForm k a.rows depth = some (decide ((dp a : Int) ≤ depth) && formA none a)
  | 0, _, _, h, _, _, _ => absurd h (Nat.not_lt_zero _)
  | k + 1, a, depth, h, hc, d0, d6 => by
    have hl := a.len_size
    simp only [spec_odForm, spec_odForm_b]
    by_cases h1 : depth < 0
    · rw [if_pos h1]
      have : decide ((dp a : Int) ≤ depth) = false := by simp; omega
      rw [this, Bool.false_and]
    · rw [if_neg h1, if_pos (by rw [rows_len]; omega), form_loop_all (a := a) (by omega) (by omega) hc (fun e he => form_all k e (depth - 1) (by omega) (by omega) (by omega) (by omega)) a 0 (drop_zero a) (by omega) (by intro q hq; cases hq)]
      rfl
theorem odGood_all (k : Nat) (a : T) (h : a.size < k) (hc : a.size ≤ cap) : spec_odGood k a.rows = some (ordP a) := by
  unfold spec_odGood
  obtain ⟨r, er, q1, q2, q3, q4⟩ := left_eq k a 6 60 h hc (by omega) (by omega) (by omega) (by omega)
  rw [er, Option.bind_some]
  by_cases h1 : 1 + nodesL a ≤ 60 ∧ dp a ≤ 6
  · have := q3 ⟨by omega, by omega⟩
    rw [if_pos (by omega), form_all k a 6 h hc (by omega) (by omega), Option.bind_some]
    have h2 : decide ((dp a : Int) ≤ 6) = true := by simp; omega
    simp only [ordP, h2, h1.1, h1.2, decide_true, Bool.true_and]
    cases formA none a <;> rfl
  · have := q4 (by omega)
    rw [if_neg (by omega)]
    have : ordP a = false := by
      cases hx : ordP a with
      | false => rfl
      | true => simp only [ordP, Bool.and_eq_true, decide_eq_true_eq] at hx; exact absurd hx.1 h1
    rw [this]
end Go.Proofs.Try

namespace Go.Proofs.Try
open Go Go.AX T
theorem told_eq (k : Nat) (a : T) (h : a.size < k) (hc : a.size ≤ cap) : impl_told k a.rows = some ((toldT a).1.rows, (toldT a).2) := by
  unfold impl_told toldT
  rw [IsOrdinal_eq k a h hc, Option.bind_some]
  cases ordP a with
  | false => rfl
  | true => rw [if_pos rfl, clone_eq k a h hc]; rfl
end Go.Proofs.Try

namespace Go.Proofs.Try
open Go Go.AX T
theorem odIf_eq (k : Nat) (a : T) (h : a.size < k) (hc : a.size ≤ cap) (ha : calm a) : spec_odIf k a.rows = some ((toldT a).1.rows, (toldT a).2) := by
  unfold spec_odIf toldT
  rw [odGood_eq k a h hc ha, Option.bind_some]
  cases ordP a with
  | false => rfl
  | true => rw [if_pos rfl, own_eq k a h hc]; rfl
theorem odIf_all (k : Nat) (a : T) (h : a.size < k) (hc : a.size ≤ cap) : spec_odIf k a.rows = some ((toldT a).1.rows, (toldT a).2) := by
  unfold spec_odIf toldT
  rw [odGood_all k a h hc]
  simp only [Option.bind_some]
  cases ordP a with
  | false => rfl
  | true => rw [if_pos rfl, own_eq k a h hc]; rfl
end Go.Proofs.Try

namespace Go.Proofs.Try
open Go Go.AX T
/-! ### what is left -/
def lessT : T → T → T
  | a, nil => a
  | nil, cons _ _ _ => nil
  | cons e c l, cons f d m => if cmpT e f = 0 then (if c = d then lessT l m else cons e (w (c - d)) l) else cons e c l
theorem lessT_nil (a : T) : lessT a nil = a := by cases a <;> rfl
theorem lessT_size (a b : T) : (lessT a b).size ≤ a.size := by
  induction a generalizing b with
  | nil => cases b <;> simp [lessT]
  | cons e c l _ ih =>
    cases b with
    | nil => simp [lessT]
    | cons f d m =>
      simp only [lessT]
      split
      · split
        · have := ih m; simp only [size]; omega
        · simp [size]
      · simp
theorem rows_cons_drop {a : T} {i : Nat} {e : T} {c : Int} {l : T} (h : drop a i = cons e c l) : a.rows.drop (i + 1) = l.rows := by rw [← rows_drop, drop_succ h]
theorem lessT_calm {a b : T} (ha : formA none a = true) (hb : formA none b = true) : calm (lessT a b) := by
  induction a generalizing b with
  | nil => cases b <;> trivial
  | cons e c l _ ih =>
    cases b with
    | nil => rw [lessT_nil]; exact form_calm ha
    | cons f d m =>
      have h1 := form_calm ha
      have h2 := form_calm hb
      simp only [formA, Bool.and_eq_true, decide_eq_true_eq] at ha hb
      simp only [lessT]
      split
      · split
        · exact ih (form_any ha.2) (form_any hb.2)
        · refine ⟨h1.1, ?_, h1.2.2⟩
          show _ ≤ w (c - d) ∧ w (c - d) ≤ _
          rw [show w (c - d) = c - d from wid (by omega) (by omega)]; omega
      · exact h1
end Go.Proofs.Try

namespace Go.Proofs.Try
open Go Go.AX T
theorem gt_of {e f : T} (h : ¬ cmpT e f = 1) (h0 : ¬ cmpT e f = 0) : cmpT e f < 0 := by
  rcases cmpT_range e f with q | q | q <;> omega
theorem gt_trans {e f g : T} (h1 : cmpT e f = 1) (h2 : cmpT f g = 1) : cmpT e g = 1 := by
  have q1 : cmpT f e < 0 := by rw [cmpT_neg e f]; omega
  have q2 : cmpT g f < 0 := by rw [cmpT_neg f g]; omega
  have := cmpT_trans q2 q1
  have q3 := cmpT_neg g e
  rcases cmpT_range e g with q | q | q <;> omega
theorem goP_low {m f g n : T} {h : Int} (hf : falls (some f) m) (hfg : cmpT f g < 0) : goP m g h n = cons g h n := by
  induction m generalizing f with
  | nil => rfl
  | cons x c l _ ih =>
    have h1 := hf.1 f rfl
    have h2 : cmpT x g < 0 := by
      have : cmpT x f < 0 := by rw [cmpT_neg f x]; omega
      exact cmpT_trans this hfg
    simp only [goP]
    rw [if_neg (by omega), if_neg (by omega)]
    exact ih hf.2 h2
theorem goP_A {a f g m n : T} {d h : Int} (hfg : cmpT f g = 1) : goP (goP a f d m) g h n = goP a f d (goP m g h n) := by
  induction a with
  | nil => simp only [goP, if_pos hfg]
  | cons e c l _ ih =>
    simp only [goP]
    split
    · rename_i q; simp only [goP]; rw [if_pos (gt_trans q hfg), ih]
    · split
      · rename_i q; obtain rfl := cmpT_eq.1 q; simp only [goP]; rw [if_pos hfg]
      · exact ih
theorem goP_BX {a f m n : T} {d h : Int} (ha : sm 1000000000000000 a) (hd : -1000000000000000 ≤ d ∧ d ≤ 1000000000000000) (hh : -1000000000000000 ≤ h ∧ h ≤ 1000000000000000) : goP (goP a f d m) f h n = goP a f (w (d + h)) n := by
  have r : cmpT f f = 0 := cmpT_refl f
  induction a with
  | nil => simp only [goP]; rw [if_neg (by omega), if_pos r]
  | cons e c l _ ih =>
    simp only [goP]
    split
    · rename_i q; simp only [goP]; rw [if_pos q, ih ha.2.2]
    · rename_i q0
      split
      · rename_i q; simp only [goP]; rw [if_neg q0, if_pos q]
        have hc := ha.2.1
        have e1 : w (c + d) = c + d := wid (by omega) (by omega)
        have e2 : w (d + h) = d + h := wid (by omega) (by omega)
        rw [e1, e2, Int.add_assoc]
      · exact ih ha.2.2
theorem goP_C {a f g m n : T} {d h : Int} : ∀ {p : Option T}, falls p a → falls (some f) m → cmpT f g < 0 → goP (goP a f d m) g h n = goP a g h n := by
  induction a with
  | nil =>
    intro p _ hm hfg
    simp only [goP]
    rw [if_neg (by omega), if_neg (by omega), goP_low hm hfg]
  | cons e c l _ ih =>
    intro p ha hm hfg
    have ih := ih ha.2 hm hfg
    by_cases q : cmpT e f = 1
    · simp only [goP, if_pos q]
      rw [ih]
    · by_cases q0 : cmpT e f = 0
      · obtain rfl := cmpT_eq.1 q0
        simp only [goP, if_neg q, if_pos q0]
        rw [if_neg (by omega), if_neg (by omega), if_neg (by omega), if_neg (by omega), goP_low hm hfg, goP_low ha.2 hfg]
      · have lt := gt_of q q0
        have lt2 := cmpT_trans lt hfg
        simp only [goP, if_neg q, if_neg q0]
        rw [if_neg (by omega), if_neg (by omega)]
        exact ih
theorem plusT_assocX {a b c : T} (sa : sm 1000000000000000 a) (sb : sm 1000000000000000 b) (sc : sm 1000000000000000 c) (fa : falls none a) (fb : falls none b) : plusT a (plusT b c) = plusT (plusT a b) c := by
  cases c with
  | nil => rfl
  | cons g h n =>
    cases b with
    | nil => rfl
    | cons f d m =>
      show plusT a (goP (cons f d m) g h n) = goP (goP a f d m) g h n
      by_cases q : cmpT f g = 1
      · rw [goP_A q]; simp only [goP, if_pos q]; rfl
      · by_cases q0 : cmpT f g = 0
        · obtain rfl := cmpT_eq.1 q0
          rw [goP_BX sa sb.2.1 sc.2.1]
          simp only [goP, if_neg q, if_pos q0]; rfl
        · have lt := gt_of q q0
          rw [goP_C fa fb.2 lt]
          simp only [goP, if_neg q, if_neg q0]
          rw [goP_low fb.2 lt]
          rfl
theorem plusT_assocB {a b c : T} (sa : sm 1000000000 a) (sb : sm 1000000000 b) (sc : sm 1000000000 c) (fa : falls none a) (fb : falls none b) : plusT a (plusT b c) = plusT (plusT a b) c :=
  plusT_assocX (sm_mono sa (by omega)) (sm_mono sb (by omega)) (sm_mono sc (by omega)) fa fb
theorem cmpT_cons_eq {e : T} {c : Int} {x y : T} : cmpT (cons e c x) (cons e c y) = cmpT x y := by
  simp only [cmpT, cmpT_refl, cmpI_refl, if_true]
theorem lessT_self {a : T} : lessT a a = nil := by
  induction a with
  | nil => rfl
  | cons e c l _ ih => simp only [lessT, cmpT_refl, if_true, ih]
theorem sub_goPB {a f m : T} {d : Int} (hd : 1 ≤ d ∧ d ≤ 1000000000) : ∀ {p : Option T}, falls p a → sm 1000000000 a → lessT (goP a f d m) a = cons f d m ∧ 0 ≤ cmpT (goP a f d m) a := by
  induction a with
  | nil => intro p _ _; exact ⟨rfl, by simp [goP, cmpT]⟩
  | cons e c l _ ih =>
    intro p hf hs
    have ih := ih hf.2 hs.2.2
    have hc := hs.2.1
    by_cases q : cmpT e f = 1
    · simp only [goP, if_pos q, lessT, cmpT_refl, if_true, cmpT_cons_eq]
      exact ih
    · by_cases q0 : cmpT e f = 0
      · obtain rfl := cmpT_eq.1 q0
        have e1 : w (c + d) = c + d := wid (by omega) (by omega)
        have e2 : w (c + d - c) = d := by rw [show w (c + d - c) = c + d - c from wid (by omega) (by omega)]; omega
        simp only [goP, if_neg q, if_pos q0, e1]
        refine ⟨?_, ?_⟩
        · simp only [lessT, cmpT_refl, if_true]
          rw [if_neg (by omega), e2]
        · have e3 : cmpI (c + d) c = 1 := by unfold cmpI; rw [if_neg (by omega), if_pos (by omega)]
          simp only [cmpT, cmpT_refl, e3]
          simp
      · have lt := gt_of q q0
        have e1 : cmpT f e = 1 := by rw [cmpT_neg e f]; rcases cmpT_range e f with z | z | z <;> omega
        have e2 : goP (cons e c l) f d m = cons f d m := by
          simp only [goP, if_neg q, if_neg q0]; exact goP_low hf.2 lt
        rw [e2]
        refine ⟨?_, ?_⟩
        · simp only [lessT]; rw [if_neg (by omega)]
        · simp only [cmpT, e1]; simp
theorem sub_plusB {a b : T} (fa : falls none a) (sa : sm 1000000000 a) (sb : sm 1000000000 b) (pb : ∀ f d m, b = cons f d m → 1 ≤ d) : lessT (plusT a b) a = b ∧ 0 ≤ cmpT (plusT a b) a := by
  cases b with
  | nil => exact ⟨lessT_self, by show 0 ≤ cmpT a a; rw [cmpT_refl]; omega⟩
  | cons f d m => exact sub_goPB ⟨pb f d m rfl, sb.2.1.2⟩ fa sa
end Go.Proofs.Try

namespace Go.Proofs.Try
open Go Go.AX T
theorem falls_weak {q e l : T} {p : Option T} (h : falls (some e) l) (hp : ∀ q, p = some q → 0 < cmpT q e) : falls p l := by
  cases l with
  | nil => trivial
  | cons x c m =>
    refine ⟨fun r hr => ?_, h.2⟩
    have h1 := hp r hr
    have h2 := h.1 e rfl
    have := cmpT_range e x
    exact cmp_lt_of h1 (by omega)
theorem falls_goP {a f m : T} {d : Int} {p : Option T} (ha : falls p a) (hp : ∀ q, p = some q → 0 < cmpT q f) (hm : falls (some f) m) : falls p (goP a f d m) := by
  induction a generalizing p with
  | nil => exact ⟨hp, hm⟩
  | cons e c l _ ih =>
    simp only [goP]
    split
    · rename_i q
      exact ⟨ha.1, ih ha.2 fun r hr => by cases hr; omega⟩
    · split
      · rename_i q; obtain rfl := cmpT_eq.1 q; exact ⟨ha.1, hm⟩
      · exact ih (falls_weak (q := e) ha.2 ha.1) hp
theorem falls_plusT {a b : T} (ha : falls none a) (hb : falls none b) : falls none (plusT a b) := by
  cases b with
  | nil => exact ha
  | cons f d m => exact falls_goP ha (fun q hq => by cases hq) hb.2
/-- Coefficients above nothing. -/
def posT : T → Prop
  | .nil => True
  | .cons _ c l => 1 ≤ c ∧ posT l
/-- Terms as those of a right ordinal, but for its nodes. -/
def okT (B : Int) (Z : Nat) (n : T) : Prop := falls none n ∧ posT n ∧ sm B n ∧ n.size ≤ Z
theorem ordP_okT {t : T} (h : ordP t = true) : okT 1000000 30 t := by
  refine ⟨form_falls (ordP_form h), ?_, form_sm (ordP_form h), ordP_size h⟩
  have key : ∀ (p : Option T) (t : T), formA p t = true → posT t := by
    intro p t
    induction t generalizing p with
    | nil => intro _; trivial
    | cons e c l _ ih =>
      intro h
      simp only [formA, Bool.and_eq_true, decide_eq_true_eq] at h
      exact ⟨h.1.1.1.1, ih _ h.2⟩
  exact key _ _ (ordP_form h)
theorem okT_calm {B : Int} {Z : Nat} {n : T} (h : okT B Z n) (hB : B ≤ 1000000000000000) : calm n := sm_calm h.2.2.1 hB
theorem okT_mono {B C : Int} {Z Y : Nat} {n : T} (h : okT B Z n) (hB : B ≤ C) (hZ : Z ≤ Y) : okT C Y n := ⟨h.1, h.2.1, sm_mono h.2.2.1 hB, by have := h.2.2.2; omega⟩
theorem less_parts {B : Int} (hB : B ≤ 1000000000000000) {a : T} : ∀ {b : T} {p : Option T}, falls p a → posT a → posT b → sm B a → 0 ≤ cmpT a b → falls none (lessT a b) ∧ posT (lessT a b) ∧ sm B (lessT a b) := by
  induction a with
  | nil =>
    intro b p _ _ _ _ _
    have : lessT .nil b = .nil := by cases b <;> rfl
    rw [this]
    exact ⟨trivial, trivial, trivial⟩
  | cons e c l _ ih =>
    intro b p fa pa pb sa h
    have f0 : ∀ x, falls none (.cons e x l) := fun x => ⟨fun _ h => (by cases h), fa.2⟩
    cases b with
    | nil => exact ⟨f0 c, pa, sa⟩
    | cons f d m =>
      simp only [lessT]
      simp only [cmpT] at h
      split
      · rename_i q1
        rw [if_pos q1] at h
        split
        · rename_i q2
          rw [if_pos (cmpI_eq.2 q2)] at h
          exact ih (p := some e) fa.2 pa.2 pb.2 sa.2.2 h
        · rename_i q2
          rw [if_neg (fun q => q2 (cmpI_eq.1 q))] at h
          have hcd : d < c := by
            unfold cmpI at h
            split at h
            · omega
            · omega
          have b1 := sa.2.1
          have b2 := pb.1
          have e1 : w (c - d) = c - d := wid (by omega) (by omega)
          rw [e1]
          exact ⟨f0 _, ⟨by omega, pa.2⟩, sa.1, by omega, sa.2.2⟩
      · exact ⟨f0 c, pa, sa⟩
theorem less_ok {B C : Int} {Z Y : Nat} {a b : T} (hB : B ≤ 1000000000000000) (ha : okT B Z a) (hb : okT C Y b) (h : 0 ≤ cmpT a b) : okT B Z (lessT a b) := by
  obtain ⟨h1, h2, h3⟩ := less_parts hB ha.1 ha.2.1 hb.2.1 ha.2.2.1 h
  have := lessT_size a b
  exact ⟨h1, h2, h3, by have := ha.2.2.2; omega⟩
theorem lessT_same (a : T) : lessT a a = .nil := by
  induction a with
  | nil => rfl
  | cons e c l _ ih => simp [lessT, cmpT_refl, ih]
theorem plusT_nilL (x : T) : plusT .nil x = x := by cases x <;> rfl
theorem posT_goP {a f m : T} {d : Int} (sa : sm 1000000000 a) (pa : posT a) (hd : 1 ≤ d ∧ d ≤ 1000000000) (pm : posT m) : posT (goP a f d m) := by
  induction a with
  | nil => exact ⟨hd.1, pm⟩
  | cons e c l _ ih =>
    have := ih sa.2.2 pa.2
    simp only [goP]
    split
    · exact ⟨pa.1, this⟩
    · split
      · have b1 := sa.2.1
        have b2 := pa.1
        refine ⟨?_, pm⟩
        rw [show w (c + d) = c + d from wid (by omega) (by omega)]; omega
      · exact this
theorem posT_plus {a b : T} (sa : sm 1000000000 a) (sb : sm 1000000000 b) (pa : posT a) (pb : posT b) : posT (plusT a b) := by
  cases b with
  | nil => exact pa
  | cons f d m => exact posT_goP sa pa ⟨pb.1, sb.2.1.2⟩ pb.2
/-- Exponents that are so. -/
def exOk (B : Int) : T → Prop
  | .nil => True
  | .cons e _ l => (falls none e ∧ posT e ∧ sm B e) ∧ exOk B l
theorem form_posT {p : Option T} {t : T} (h : formA p t = true) : posT t := by
  induction t generalizing p with
  | nil => trivial
  | cons e c l _ ih =>
    simp only [formA, Bool.and_eq_true, decide_eq_true_eq] at h
    exact ⟨h.1.1.1.1, ih h.2⟩
theorem form_exOk {p : Option T} {t : T} (h : formA p t = true) : exOk 1000000 t := by
  induction t generalizing p with
  | nil => trivial
  | cons e c l _ ih =>
    simp only [formA, Bool.and_eq_true, decide_eq_true_eq] at h
    exact ⟨⟨form_falls h.1.1.2, form_posT h.1.1.2, form_sm h.1.1.2⟩, ih h.2⟩
theorem exOk_mono {B C : Int} {t : T} (h : exOk B t) (hB : B ≤ C) : exOk C t := by
  induction t with
  | nil => trivial
  | cons e c l _ ih => exact ⟨⟨h.1.1, h.1.2.1, sm_mono h.1.2.2 hB⟩, ih h.2⟩
theorem exOk_app {B : Int} {a b : T} : exOk B (app a b) ↔ exOk B a ∧ exOk B b := by
  induction a with
  | nil => simp [app, exOk]
  | cons e c l _ ih => simp only [app, exOk, ih, and_assoc]
theorem exOk_goP {B : Int} {a f m : T} {d : Int} (ha : exOk B a) (hf : falls none f ∧ posT f ∧ sm B f) (hm : exOk B m) : exOk B (goP a f d m) := by
  induction a with
  | nil => exact ⟨hf, hm⟩
  | cons e c l _ ih =>
    simp only [goP]
    split
    · exact ⟨ha.1, ih ha.2⟩
    · split
      · exact ⟨ha.1, hm⟩
      · exact ih ha.2
theorem exOk_plus {B : Int} {a b : T} (ha : exOk B a) (hb : exOk B b) : exOk B (plusT a b) := by
  cases b with
  | nil => exact ha
  | cons f d m => exact exOk_goP ha hb.1 hb.2
/-- What is added on the right decides. -/
theorem plus_lt {a g n : T} {h : Int} {p : Option T} (fa : falls p a) (sa : sm 1000000000 a) (hh : 1 ≤ h ∧ h ≤ 1000000000) : cmpT (goP a g h n) a = 1 := by
  obtain ⟨k1, k2⟩ := sub_goPB (f := g) (m := n) hh fa sa
  rcases cmpT_range (goP a g h n) a with q | q | q
  · omega
  · rw [cmpT_eq.1 q, lessT_same] at k1; cases k1
  · exact q
theorem plus_mono {a : T} : ∀ {p : Option T} {f g m n : T} {d h : Int}, falls p a → sm 1000000000 a → (1 ≤ d ∧ d ≤ 1000000000) → (1 ≤ h ∧ h ≤ 1000000000) → cmpT (goP a f d m) (goP a g h n) = cmpT (cons f d m) (cons g h n) := by
  induction a with
  | nil => intros; rfl
  | cons e c l _ ih =>
    intro p f g m n d h fa sa hd hh
    have b1 := sa.2.1
    have wd : w (c + d) = c + d := wid (by omega) (by omega)
    have wh : w (c + h) = c + h := wid (by omega) (by omega)
    have n1 := cmpT_neg e f
    have n2 := cmpT_neg e g
    have n3 := cmpT_neg f g
    have r3 := cmpT_range f g
    have same : ∀ x y : T, cmpT (cons e c x) (cons e c y) = cmpT x y := fun x y => by simp [cmpT, cmpT_refl, cmpI_refl]
    have cI1 : cmpI c (c + h) = -1 := by unfold cmpI; rw [if_pos (by omega)]
    have cI2 : cmpI (c + d) c = 1 := by unfold cmpI; rw [if_neg (by omega), if_pos (by omega)]
    have cI3 : cmpI (c + d) (c + h) = cmpI d h := by
      unfold cmpI
      by_cases q1 : d < h
      · rw [if_pos (by omega), if_pos q1]
      · by_cases q2 : h < d
        · rw [if_neg (by omega), if_pos (by omega), if_neg q1, if_pos q2]
        · rw [if_neg (by omega), if_neg (by omega), if_neg q1, if_neg q2]
    rcases cmpT_range e f with rf | rf | rf <;> rcases cmpT_range e g with rg | rg | rg
    · -- both are greater
      have z1 : goP (cons e c l) f d m = cons f d m := by simp only [goP]; rw [if_neg (by omega), if_neg (by omega)]; exact goP_low fa.2 (by omega)
      have z2 : goP (cons e c l) g h n = cons g h n := by simp only [goP]; rw [if_neg (by omega), if_neg (by omega)]; exact goP_low fa.2 (by omega)
      rw [z1, z2]
    · have z1 : goP (cons e c l) f d m = cons f d m := by simp only [goP]; rw [if_neg (by omega), if_neg (by omega)]; exact goP_low fa.2 (by omega)
      obtain rfl := cmpT_eq.1 rg
      have z2 : goP (cons e c l) e h n = cons e (c + h) n := by simp only [goP]; rw [if_neg (by omega), if_pos rg, wh]
      rw [z1, z2]
      simp only [cmpT]
      rw [if_neg (by omega), if_neg (by omega)]
    · have z1 : goP (cons e c l) f d m = cons f d m := by simp only [goP]; rw [if_neg (by omega), if_neg (by omega)]; exact goP_low fa.2 (by omega)
      have z2 : goP (cons e c l) g h n = cons e c (goP l g h n) := by simp only [goP]; rw [if_pos rg]
      have fg : cmpT f g = 1 := gt_trans (e := f) (f := e) (by omega) rg
      rw [z1, z2]
      simp only [cmpT]
      rw [if_neg (by omega), if_neg (by omega)]; omega
    · obtain rfl := cmpT_eq.1 rf
      have z1 : goP (cons e c l) e d m = cons e (c + d) m := by simp only [goP]; rw [if_neg (by omega), if_pos rf, wd]
      have z2 : goP (cons e c l) g h n = cons g h n := by simp only [goP]; rw [if_neg (by omega), if_neg (by omega)]; exact goP_low fa.2 (by omega)
      rw [z1, z2]
      simp only [cmpT]
      rw [if_neg (by omega), if_neg (by omega)]
    · obtain rfl := cmpT_eq.1 rf
      obtain rfl := cmpT_eq.1 rg
      have z1 : ∀ (x : Int) (y : T), w (c + x) = c + x → goP (cons e c l) e x y = cons e (c + x) y := fun x y hx => by simp only [goP]; rw [if_neg (by omega), if_pos rf, hx]
      rw [z1 d m wd, z1 h n wh]
      simp only [cmpT, cI3]
    · obtain rfl := cmpT_eq.1 rf
      have z1 : goP (cons e c l) e d m = cons e (c + d) m := by simp only [goP]; rw [if_neg (by omega), if_pos rf, wd]
      have z2 : goP (cons e c l) g h n = cons e c (goP l g h n) := by simp only [goP]; rw [if_pos rg]
      rw [z1, z2]
      simp only [cmpT, cI2, cmpT_refl]
      rw [if_neg (show ¬ cmpT e g = 0 by omega)]
      simp; omega
    · have z1 : goP (cons e c l) f d m = cons e c (goP l f d m) := by simp only [goP]; rw [if_pos rf]
      have z2 : goP (cons e c l) g h n = cons g h n := by simp only [goP]; rw [if_neg (by omega), if_neg (by omega)]; exact goP_low fa.2 (by omega)
      have fg : cmpT g f = 1 := gt_trans (e := g) (f := e) (by omega) rf
      rw [z1, z2]
      simp only [cmpT]
      rw [if_neg (by omega), if_neg (by omega)]; omega
    · obtain rfl := cmpT_eq.1 rg
      have z1 : goP (cons e c l) f d m = cons e c (goP l f d m) := by simp only [goP]; rw [if_pos rf]
      have z2 : goP (cons e c l) e h n = cons e (c + h) n := by simp only [goP]; rw [if_neg (by omega), if_pos rg, wh]
      rw [z1, z2]
      simp only [cmpT, cI1, cmpT_refl]
      rw [if_neg (show ¬ cmpT f e = 0 by omega)]
      simp; omega
    · have z1 : goP (cons e c l) f d m = cons e c (goP l f d m) := by simp only [goP]; rw [if_pos rf]
      have z2 : goP (cons e c l) g h n = cons e c (goP l g h n) := by simp only [goP]; rw [if_pos rg]
      rw [z1, z2, same]
      exact ih fa.2 sa.2.2 hd hh
/-- A sum is monotone in what is added on the right. -/
theorem plusT_cmp {a x y : T} (fa : falls none a) (sa : sm 1000000000 a) (px : posT x) (py : posT y) (sx : sm 1000000000 x) (sy : sm 1000000000 y) : cmpT (plusT a x) (plusT a y) = cmpT x y := by
  cases x with
  | nil =>
    cases y with
    | nil => exact cmpT_refl _
    | cons g h n =>
      have := plus_lt (g := g) (n := n) fa sa ⟨py.1, sy.2.1.2⟩
      show cmpT a (goP a g h n) = _
      rw [cmpT_neg (goP a g h n) a, this]; rfl
  | cons f d m =>
    cases y with
    | nil =>
      have := plus_lt (g := f) (n := m) fa sa ⟨px.1, sx.2.1.2⟩
      show cmpT (goP a f d m) a = _
      rw [this]; rfl
    | cons g h n => exact plus_mono fa sa ⟨px.1, sx.2.1.2⟩ ⟨py.1, sy.2.1.2⟩
end Go.Proofs.Try

namespace Go.Proofs.Try
open Go Go.AX T
def lastE : T → T
  | nil => nil
  | cons e _ nil => e
  | cons _ _ (cons f d m) => lastE (cons f d m)
def befT : T → T
  | nil => nil
  | cons e c nil => if 1 < c then cons e (w (c - 1)) nil else nil
  | cons e c (cons f d m) => cons e c (befT (cons f d m))
def limT (t : T) : Bool := match lastE t with
  | nil => false
  | cons _ _ _ => true
def powT (e : T) (n : Int) : T := if n = 0 then nil else cons e n nil
def fund : Nat → Int → T → T
  | 0, _, _ => nil
  | k + 1, n, a => plusT (befT a) (cond (limT (lastE a)) (powT (fund k n (lastE a)) 1) (powT (befT (lastE a)) n))
theorem lastE_snoc (l e : T) (c : Int) : lastE (app l (cons e c nil)) = e := by
  induction l with
  | nil => rfl
  | cons x d m _ ih =>
    cases m with
    | nil => rfl
    | cons y g r => simp only [app, lastE] at ih ⊢; exact ih
theorem befT_snoc (l e : T) (c : Int) : befT (app l (cons e c nil)) = app l (if 1 < c then cons e (w (c - 1)) nil else nil) := by
  induction l with
  | nil => simp only [app, befT]
  | cons x d m _ ih =>
    cases m with
    | nil => simp only [app, befT]
    | cons y g r => simp only [app, befT] at ih ⊢; rw [ih]
theorem form_snoc {p : Option T} {l e : T} {c : Int} (h : formA p (app l (cons e c nil)) = true) : 1 ≤ c ∧ c ≤ 1000000 ∧ formA none e = true := by
  induction l generalizing p with
  | nil =>
    simp only [app, formA, Bool.and_eq_true, decide_eq_true_eq] at h
    exact ⟨h.1.1.1.1, h.1.1.1.2, h.1.1.2⟩
  | cons x d m _ ih =>
    simp only [app, formA, Bool.and_eq_true] at h
    exact ih h.2
theorem falls_app {p : Option T} {l x : T} (h : falls p (app l x)) : falls p l := by
  induction l generalizing p with
  | nil => cases p <;> trivial
  | cons y d m _ ih => exact ⟨h.1, ih h.2⟩
theorem falls_gt {x l e : T} {c : Int} (h : falls (some x) (app l (cons e c nil))) : 0 < cmpT x e := by
  induction l generalizing x with
  | nil => exact h.1 x rfl
  | cons y d m _ ih => exact cmp_lt_of (h.1 x rfl) (by have := ih h.2; rcases cmpT_range y e with q | q | q <;> omega)
theorem goP_end {l e m : T} {c d : Int} {p : Option T} (h : falls p (app l (cons e c nil))) : goP l e d m = app l (cons e d m) := by
  induction l generalizing p with
  | nil => rfl
  | cons y g r _ ih =>
    have := falls_gt h.2
    have r1 := cmpT_range y e
    simp only [goP, app]
    rw [if_pos (by omega), ih h.2]
theorem falls_bef {p : Option T} {l e : T} {c d : Int} (h : falls p (app l (cons e c nil))) : falls p (app l (cons e d nil)) := by
  induction l generalizing p with
  | nil => exact ⟨h.1, trivial⟩
  | cons y g r _ ih => exact ⟨h.1, ih h.2⟩
theorem app_nil (a : T) : app a nil = a := by
  induction a with
  | nil => rfl
  | cons e c l _ ih => simp only [app, ih]
theorem befT_falls {p : Option T} {a : T} (h : falls p a) : falls p (befT a) := by
  rcases T.snoc a with rfl | ⟨l, e, c, rfl⟩
  · exact h
  · rw [befT_snoc]
    split
    · exact falls_bef h
    · rw [app_nil]; exact falls_app h
theorem befT_size (a : T) : (befT a).size ≤ a.size := by
  rcases T.snoc a with rfl | ⟨l, e, c, rfl⟩
  · simp [befT]
  · rw [befT_snoc]
    split <;> simp [size_app, size]
theorem befT_sm {B : Int} {a : T} (h : sm B a) (hB : B ≤ 1000000000000) : sm B (befT a) := by
  rcases T.snoc a with rfl | ⟨l, e, c, rfl⟩
  · exact h
  · rw [befT_snoc]
    obtain ⟨h1, h2, h3, _⟩ := sm_app.1 h
    split
    · refine sm_app.2 ⟨h1, h2, ?_, trivial⟩
      rw [show w (c - 1) = c - 1 from wid (by omega) (by omega)]; omega
    · exact sm_app.2 ⟨h1, trivial⟩
theorem lastE_size {a : T} (h : a ≠ nil) : (lastE a).size + 1 ≤ a.size := by
  rcases T.snoc a with rfl | ⟨l, e, c, rfl⟩
  · exact absurd rfl h
  · rw [lastE_snoc, size_app]; simp only [size]; omega
/-! ### the program's own -/
def zer (t : T) : Bool := match t with
  | nil => true
  | cons _ _ _ => false
theorem isZ (t : T) : impl_isZero t.rows = some (zer t) := by rw [impl_isZero_eq]; cases t <;> rfl
theorem odZ (t : T) : spec_odZero t.rows = some (zer t) := by
  unfold spec_odZero
  cases t with
  | nil => rfl
  | cons e c l =>
    rw [if_neg (by rw [lenI]; simp only [len]; omega)]; rfl
theorem snocLen (l e : T) (c : Int) : (app l (cons e c nil)).len = l.len + 1 := by rw [len_app]; rfl
theorem lastI {l e : T} {c : Int} (h : l.len ≤ cap) : IntKind.i64.wrap (((app l (cons e c nil)).rows.length : Int) - 1) = (l.len : Int) := by
  have h3 : cap = 1099511627776 := rfl
  rw [lenI, snocLen, wid (by omega) (by omega)]; omega
theorem takeS (l e : T) (c : Int) : (app l (cons e c nil)).rows.take (l.len : Int).toNat = l.rows := by
  rw [Int.toNat_natCast, rows_app, ← rows_len l]; exact List.take_left
theorem nilI : IntKind.i64.wrap (((nil : T).rows.length : Int) - 1) = -1 := by rw [lenI]; simp only [len]; exact wid (by omega) (by omega)
theorem parted_snoc {l e : T} {c : Int} (h : l.len ≤ cap) : impl_parted (app l (cons e c nil)).rows = some (cond (zer e) (l.rows, c) ((app l (cons e c nil)).rows, 0)) := by
  unfold impl_parted
  rw [lastI h, if_pos (by omega), row_T rfl (snoc_last l e c), isZ, Option.bind_some]
  cases zer e with
  | false => rfl
  | true => rw [if_pos rfl, if_pos ⟨by omega, by rw [lenI, snocLen]; omega, rowsWide _⟩, takeS]; rfl
theorem finite_snoc {l e : T} {c : Int} (h : l.len ≤ cap) : spec_odFinite (app l (cons e c nil)).rows = some (cond (zer e) (c, l.rows) (0, (app l (cons e c nil)).rows)) := by
  unfold spec_odFinite
  rw [lastI h, if_pos (by omega), row_T rfl (snoc_last l e c), odZ, Option.bind_some]
  cases zer e with
  | false => rfl
  | true => rw [if_pos rfl, if_pos ⟨by omega, by rw [lenI, snocLen]; omega, rowsWide _⟩, takeS]; rfl
theorem zer_snoc (l e : T) (c : Int) : zer (app l (cons e c nil)) = false := by cases l <;> rfl
theorem isLimit_eq {a : T} (h : a.len ≤ cap) (hf : formA none a = true) : impl_isLimit a.rows = some (limT a) := by
  unfold impl_isLimit
  rcases T.snoc a with rfl | ⟨l, e, c, rfl⟩
  · unfold impl_parted; rw [nilI, if_neg (by omega)]; rfl
  · rw [snocLen] at h
    have hc := form_snoc hf
    rw [parted_snoc (by omega), Option.bind_some, isZ, Option.bind_some, zer_snoc, if_neg (by decide)]
    unfold limT
    rw [lastE_snoc]
    cases e with
    | nil => show (if c = 0 then some true else some false) = some false; exact if_neg (by omega)
    | cons x y z => rfl
theorem odLimit_eq {a : T} (h : a.len ≤ cap) (hf : formA none a = true) : spec_odLimit a.rows = some (limT a) := by
  unfold spec_odLimit
  rcases T.snoc a with rfl | ⟨l, e, c, rfl⟩
  · unfold spec_odFinite; rw [nilI, if_neg (by omega)]; rfl
  · rw [snocLen] at h
    have hc := form_snoc hf
    rw [finite_snoc (by omega), Option.bind_some, odZ, Option.bind_some, zer_snoc, if_neg (by decide)]
    unfold limT
    rw [lastE_snoc]
    cases e with
    | nil => show (if c = 0 then some true else some false) = some false; exact if_neg (by omega)
    | cons x y z => rfl
theorem odBefore_eq {a : T} (hz : a ≠ nil) (h : a.len < cap) : spec_odBefore a.rows = some (befT a).rows := by
  rcases T.snoc a with rfl | ⟨l, e, c, rfl⟩
  · exact absurd rfl hz
  · rw [snocLen] at h
    unfold spec_odBefore
    rw [lastI (by omega), row_T rfl (snoc_last l e c), if_pos ⟨by omega, by rw [lenI, snocLen]; omega, rowsWide _⟩, takeS, if_pos ⟨by rw [rows_len]; omega, rowsWide _⟩, befT_snoc]
    by_cases g : 1 < c
    · rw [if_pos g, if_pos g, if_pos (by rw [List.nil_append, rows_len]; omega), List.nil_append, snocRows]
    · rw [if_neg g, if_neg g, app_nil, List.nil_append]
theorem before_eq {k : Nat} {a : T} (hz : a ≠ nil) (hl : limT a = false) (hk : a.size + 1 < k) (hc : a.size + 2 ≤ cap) (hf : formA none a = true) : impl_before k a.rows = some (befT a).rows := by
  have h3 : cap = 1099511627776 := rfl
  rcases T.snoc a with rfl | ⟨l, e, c, rfl⟩
  · exact absurd rfl hz
  · have hcc := form_snoc hf
    have hfa := form_falls hf
    have hs : (app l (cons e c nil)).size = l.size + e.size + 1 := by rw [size_app]; simp only [size]; omega
    rw [hs] at hk hc
    have hll := l.len_size
    unfold limT at hl
    rw [lastE_snoc] at hl
    cases e with
    | cons x y z => cases hl
    | nil =>
      unfold impl_before
      rw [parted_snoc (by omega), Option.bind_some]
      simp only [zer, cond]
      have e1 : IntKind.i64.wrap (c - 1) = c - 1 := wid (by omega) (by omega)
      have e2 : impl_finite (IntKind.i64.wrap (c - 1)) = some (intT (c - 1)).rows := by
        rw [e1]; unfold impl_finite intT
        by_cases q : c - 1 = 0
        · rw [if_pos q, if_pos q]; rfl
        · rw [if_neg q, if_neg q]; rfl
      have z := intT_size (c - 1)
      rw [e2, Option.bind_some, plus_eq k l _ (by omega) (by omega), Option.bind_some, befT_snoc]
      by_cases g : 1 < c
      · have : intT (c - 1) = cons nil (w (c - 1)) nil := by
          show intT (c - 1) = cons nil (IntKind.i64.wrap (c - 1)) nil
          rw [e1]; unfold intT; rw [if_neg (by omega)]
        rw [this, if_pos g]
        show some (goP l nil (w (c - 1)) nil).rows = _
        rw [goP_end hfa]
      · have : intT (c - 1) = nil := by unfold intT; rw [if_pos (by omega)]
        rw [this, if_neg g, app_nil]
        cases l <;> rfl
theorem power_eq (e : T) (n : Int) : impl_power e.rows n = some (powT e n).rows := by
  unfold impl_power powT
  by_cases h : n = 0
  · rw [if_pos h, if_pos h]; rfl
  · rw [if_neg h, if_neg h]; rfl
theorem odTerm_eq (e : T) (n : Int) : spec_odTerm e.rows n = some (powT e n).rows := by
  unfold spec_odTerm powT
  by_cases h : n = 0
  · rw [if_pos h, if_pos h]; rfl
  · rw [if_neg h, if_neg h]; rfl
theorem powT_size (e : T) (n : Int) : (powT e n).size ≤ e.size + 1 := by unfold powT; split <;> simp [size]
theorem powT_falls (e : T) (n : Int) : falls none (powT e n) := by
  unfold powT; split
  · trivial
  · exact ⟨fun q hq => (by cases hq), trivial⟩
theorem powT_sm {B : Int} {e : T} {n : Int} (h : sm B e) (hn : -B ≤ n ∧ n ≤ B) : sm B (powT e n) := by
  unfold powT; split
  · trivial
  · exact ⟨h, hn, trivial⟩

/-! ### elements of fundamental sequences -/
theorem fund_size : ∀ (k : Nat) (n : Int) (a : T), (fund k n a).size ≤ (a.size + 1) * (a.size + 1)
  | 0, _, _ => Nat.zero_le _
  | k + 1, n, a => by
    have h1 := befT_size a
    by_cases hz : a = nil
    · subst hz
      have : (fund (k + 1) n nil).size ≤ 1 := by
        simp only [fund, limT, lastE, cond, befT]
        have := plusT_size nil (powT nil n)
        have := powT_size nil n
        simp only [size] at *; omega
      simpa [size] using this
    · have h2 := lastE_size hz
      have e : (a.size + 1) * (a.size + 1) = a.size * a.size + 2 * a.size + 1 := by rw [Nat.add_mul, Nat.mul_add]; omega
      rw [e]
      simp only [fund]
      generalize lastE a = x at *
      have m : (x.size + 1) * (x.size + 1) ≤ a.size * a.size := Nat.mul_le_mul h2 h2
      have ih := fund_size k n x
      have b := befT_size x
      cases limT x with
      | true =>
        simp only [cond]
        have := plusT_size (befT a) (powT (fund k n x) 1)
        have := powT_size (fund k n x) 1
        omega
      | false =>
        simp only [cond]
        have := plusT_size (befT a) (powT (befT x) n)
        have := powT_size (befT x) n
        omega
theorem fund_sm (n : Int) (hn : 0 ≤ n ∧ n ≤ 1000) : ∀ (k : Nat) (a : T), sm 1000000 a → a.size ≤ 100 → sm (1000000 * ((a.size : Int) + 1)) (fund k n a)
  | 0, _, _, _ => trivial
  | k + 1, a, ha, hs => by
    have hb := befT_sm ha (by omega)
    by_cases hz : a = nil
    · subst hz
      simp only [fund, limT, lastE, cond, befT]
      have : sm 1000000 (powT (nil : T) n) := powT_sm trivial (by omega)
      have := plusT_sm (a := nil) (B := 0) trivial this (by omega)
      exact sm_mono this (by simp [size])
    · have h2 := lastE_size hz
      have hx : sm 1000000 (lastE a) := by
        rcases T.snoc a with rfl | ⟨l, e, c, rfl⟩
        · exact absurd rfl hz
        · rw [lastE_snoc]; exact (sm_app.1 ha).2.1
      simp only [fund]
      generalize lastE a = x at *
      have ih := fund_sm n hn k x hx (by omega)
      have b := befT_sm hx (by omega)
      cases limT x with
      | true =>
        simp only [cond]
        exact sm_mono (plusT_sm hb (powT_sm (n := 1) ih (by omega)) (by omega)) (by omega)
      | false =>
        simp only [cond]
        exact sm_mono (plusT_sm hb (powT_sm (B := 1000000) (n := n) b (by omega)) (by omega)) (by omega)
theorem lim_ne {a : T} (h : limT a = true) : a ≠ nil ∧ lastE a ≠ nil := by
  unfold limT at h
  refine ⟨?_, ?_⟩
  · rintro rfl; cases h
  · intro e; rw [e] at h; cases h
theorem form_lastE {a : T} (h : formA none a = true) : formA none (lastE a) = true := by
  rcases T.snoc a with rfl | ⟨l, e, c, rfl⟩
  · rfl
  · rw [lastE_snoc]; exact (form_snoc h).2.2
theorem clone_rows (t : T) (h : t.len ≤ cap) : slices_Clone t.rows = some t.rows := by
  unfold slices_Clone nilD
  have h2 := rowsWide t
  rw [if_pos ⟨by omega, h2⟩]
  have e : (if t.rows.length ≤ cap ∧ (∀ cs ∈ t.rows, cs.length = 2) then some ([] ++ t.rows : Rw) else none) = some t.rows := by
    rw [if_pos ⟨by rw [rows_len]; exact h, h2⟩, List.nil_append]
  rw [e]
  by_cases q : t.rows = []
  · rw [if_pos q, q, if_pos rfl]
  · rw [if_neg q]
theorem fundamental_eq (n : Int) (hn : 0 ≤ n ∧ n ≤ 1000) : ∀ (k : Nat) (a : T), limT a = true → formA none a = true → a.size ≤ 100 → 20000 + a.size < k → impl_fundamental k a.rows n = some (fund k n a).rows
  | 0, _, _, _, _, h => absurd h (Nat.not_lt_zero _)
  | k + 1, a, hl, hf, hs, hk => by
    have h3 : cap = 1099511627776 := rfl
    obtain ⟨hz, hx⟩ := lim_ne hl
    have h2 := lastE_size hz
    have fx := form_lastE hf
    have ff := fund_size k n (lastE a)
    have m : ((lastE a).size + 1) * ((lastE a).size + 1) ≤ 101 * 101 := Nat.mul_le_mul (by omega) (by omega)
    have hbs := befT_size a
    have hbx := befT_size (lastE a)
    have hal := a.len_size
    simp only [impl_fundamental, impl_fundamental_b, fund]
    have ih := fundamental_eq n hn k (lastE a)
    have il := isLimit_eq (a := lastE a) (by have := (lastE a).len_size; omega) fx
    have bx : limT (lastE a) = false → impl_before k (lastE a).rows = some (befT (lastE a)).rows := fun q => before_eq hx q (by omega) (by omega) fx
    have p1 := powT_size (fund k n (lastE a)) 1
    have p2 := powT_size (befT (lastE a)) n
    rcases T.snoc a with rfl | ⟨l, e, c, rfl⟩
    · exact absurd rfl hz
    · rw [snocLen] at hal
      have hcc := form_snoc hf
      have hsz : (app l (cons e c nil)).size = l.size + e.size + 1 := by rw [size_app]; simp only [size]; omega
      rw [lastI (by omega), row_T rfl (snoc_last l e c), if_pos ⟨by omega, by rw [lenI, snocLen]; omega, rowsWide _⟩, takeS, clone_rows l (by omega), Option.bind_some]
      rw [befT_snoc] at hbs ⊢
      rw [lastE_snoc] at *
      have fin : ∀ o : T, o.size ≤ 101 → (((impl_isLimit e.rows).bind fun y => if y = true then (impl_fundamental k e.rows n).bind fun y2 => (impl_power y2 1).bind fun y3 => (impl_plus k o.rows y3).bind fun y4 => some y4 else (impl_before k e.rows).bind fun y5 => (impl_power y5 n).bind fun y6 => (impl_plus k o.rows y6).bind fun y7 => some y7) = some (plusT o (cond (limT e) (powT (fund k n e) 1) (powT (befT e) n))).rows) := by
        intro o ho
        rw [il, Option.bind_some]
        cases q : limT e with
        | true =>
          rw [if_pos rfl, ih q fx (by omega) (by omega), Option.bind_some, power_eq, Option.bind_some, plus_eq k o _ (by omega) (by omega)]; rfl
        | false =>
          rw [if_neg (by decide), bx q, Option.bind_some, power_eq, Option.bind_some, plus_eq k o _ (by omega) (by omega)]; rfl
      unfold impl_fundamental_p4
      by_cases g : 1 < c
      · rw [if_pos g, if_pos (by rw [rows_len]; omega), snocRows]
        rw [if_pos g] at hbs
        rw [if_pos g]
        exact fin (app l (cons e (w (c - 1)) nil)) (by omega)
      · rw [if_neg g]
        rw [if_neg g, app_nil] at hbs
        rw [if_neg g, app_nil]
        exact fin _ (by omega)
theorem odAt_eq (n : Int) (hn : 0 ≤ n ∧ n ≤ 1000) : ∀ (k : Nat) (a : T), limT a = true → formA none a = true → a.size ≤ 100 → 20000 + a.size < k → spec_odAt k a.rows n = some (fund k n a).rows
  | 0, _, _, _, _, h => absurd h (Nat.not_lt_zero _)
  | k + 1, a, hl, hf, hs, hk => by
    have h3 : cap = 1099511627776 := rfl
    obtain ⟨hz, hx⟩ := lim_ne hl
    have h2 := lastE_size hz
    have fx := form_lastE hf
    have ff := fund_size k n (lastE a)
    have m : ((lastE a).size + 1) * ((lastE a).size + 1) ≤ 101 * 101 := Nat.mul_le_mul (by omega) (by omega)
    have hbs := befT_size a
    have hbx := befT_size (lastE a)
    have hal := a.len_size
    have hxl := (lastE a).len_size
    simp only [spec_odAt, spec_odAt_b, fund]
    have ih := odAt_eq n hn k (lastE a)
    have il := odLimit_eq (a := lastE a) (by omega) fx
    have bx := odBefore_eq (a := lastE a) hx (by omega)
    have ba := odBefore_eq (a := a) hz (by omega)
    have p1 := powT_size (fund k n (lastE a)) 1
    have p2 := powT_size (befT (lastE a)) n
    have sa := form_sm hf
    have sx := form_sm fx
    have sba := befT_sm sa (by omega)
    have sbx := befT_sm sx (by omega)
    have sf := fund_sm n hn k (lastE a) sx (by omega)
    have fb := befT_falls (form_falls hf)
    have hlast : ∀ {α : Type} (K : Rw → Int → Option α), ∃ c, row_si a.rows (IntKind.i64.wrap ((a.rows.length : Int) - 1)) K = K (lastE a).rows c := by
      intro α K
      rcases T.snoc a with rfl | ⟨l, e, c, rfl⟩
      · exact absurd rfl hz
      · rw [snocLen] at hal
        rw [lastI (by omega), row_T rfl (snoc_last l e c), lastE_snoc]; exact ⟨c, rfl⟩
    obtain ⟨c, hc⟩ := hlast (fun x3 x4 => ((spec_odLimit x3).bind fun y7 => (if y7 = true then ((spec_odBefore a.rows).bind fun y10 => ((spec_odAt k x3 n).bind fun y12 => ((spec_odTerm y12 1).bind fun y14 => ((spec_odPlus k y10 y14).bind fun y16 => some y16)))) else ((spec_odBefore a.rows).bind fun y18 => ((spec_odBefore x3).bind fun y20 => ((spec_odTerm y20 n).bind fun y22 => ((spec_odPlus k y18 y22).bind fun y24 => some y24)))))))
    rw [hc, il, Option.bind_some]
    have pl : ∀ (B : Int) (x : T) (i : Int), 0 ≤ B → B ≤ 1000000000 → sm B (powT x i) → (powT x i).size ≤ 11000 → spec_odPlus k (befT a).rows (powT x i).rows = some (plusT (befT a) (powT x i)).rows := by
      intro B x i hB hB2 sp zp
      have hlen : (powT x i).len ≤ 1 := by unfold powT; split <;> simp [len]
      have hm : B * ((powT x i).len : Int) ≤ B := by
        have : B * ((powT x i).len : Int) ≤ B * 1 := Int.mul_le_mul_of_nonneg_left (by omega) hB
        omega
      rw [odPlus_eq (B := B) (C := 1000000) k _ _ (by omega) (by omega) sba sp hB (by omega) (by omega), splus_plus fb (powT_falls x i)]
    cases q : limT (lastE a) with
    | true =>
      rw [if_pos rfl, ba, Option.bind_some, ih q fx (by omega) (by omega), Option.bind_some, odTerm_eq, Option.bind_some, pl (1000000 * (((lastE a).size : Int) + 1)) _ _ (by omega) (by omega) (powT_sm sf (by omega)) (by omega)]; rfl
    | false =>
      rw [if_neg (by decide), ba, Option.bind_some, bx, Option.bind_some, odTerm_eq, Option.bind_some, pl 1000000 _ _ (by omega) (by omega) (powT_sm sbx (by omega)) (by omega)]; rfl
end Go.Proofs.Try

namespace Go.Proofs.Try
open Go Go.AX T
theorem cmp_app (p x y : T) : cmpT (app p x) (app p y) = cmpT x y := by
  induction p with
  | nil => rfl
  | cons e c l _ ih => simp only [app, cmpT, cmpT_refl, cmpI_refl, if_true, ih]
theorem goP_above {a x m : T} {d : Int} (h : falls none a) (hx : a ≠ nil → 0 < cmpT (lastE a) x) : goP a x d m = app a (cons x d m) := by
  rcases T.snoc a with rfl | ⟨l, e, c, rfl⟩
  · rfl
  · have hx := hx (by cases l <;> simp [app])
    rw [lastE_snoc] at hx
    have key : ∀ (l : T) (p : Option T), falls p (app l (cons e c nil)) → goP (app l (cons e c nil)) x d m = app (app l (cons e c nil)) (cons x d m) := by
      intro l
      induction l with
      | nil =>
        intro p _
        have r := cmpT_range e x
        simp only [app, goP]
        rw [if_pos (by omega)]
      | cons y g q _ ih =>
        intro p hp
        have h1 := falls_gt hp.2
        have r := cmpT_range e x
        have h2 := cmp_lt_of h1 (show cmpT e x = 1 ∨ cmpT e x = 0 by omega)
        have r2 := cmpT_range y x
        simp only [app, goP]
        rw [if_pos (by omega), ih _ hp.2]
    exact key l none h
theorem bef_lt {a : T} (h : a ≠ nil) (hf : formA none a = true) : cmpT (befT a) a < 0 := by
  rcases T.snoc a with rfl | ⟨l, e, c, rfl⟩
  · exact absurd rfl h
  · have hc := form_snoc hf
    rw [befT_snoc, cmp_app]
    by_cases g : 1 < c
    · have e1 : w (c - 1) = c - 1 := wid (by omega) (by omega)
      have e2 : cmpI (c - 1) c = -1 := by unfold cmpI; rw [if_pos (by omega)]
      rw [if_pos g, e1]
      simp only [cmpT, cmpT_refl, e2]
      decide
    · rw [if_neg g]; simp [cmpT]
/-- The exponent of what is added. -/
def fexp (k : Nat) (n : Int) (a : T) : T := cond (limT (lastE a)) (fund k n (lastE a)) (befT (lastE a))
def fcoe (n : Int) (a : T) : Int := cond (limT (lastE a)) 1 n
theorem fund_step (k : Nat) (n : Int) (a : T) : fund (k + 1) n a = plusT (befT a) (powT (fexp k n a) (fcoe n a)) := by
  simp only [fund, fexp, fcoe]
  cases limT (lastE a) <;> rfl
/-- Behind what is before a limit, less than its last term. -/
theorem plus_pow {a x : T} {d : Int} (hf : formA none a = true) (hx : cmpT x (lastE a) < 0) : plusT (befT a) (powT x d) = app (befT a) (powT x d) := by
  unfold powT
  by_cases h : d = 0
  · rw [if_pos h, app_nil]; cases befT a <;> rfl
  · rw [if_neg h]
    show goP (befT a) x d nil = _
    have hfa := form_falls hf
    refine goP_above (befT_falls hfa) fun hb => ?_
    rcases T.snoc a with rfl | ⟨l, e, c, rfl⟩
    · exact absurd rfl hb
    · rw [lastE_snoc] at hx
      rw [befT_snoc] at hb ⊢
      have q := cmpT_neg x e
      by_cases g : 1 < c
      · rw [if_pos g, lastE_snoc]; omega
      · rw [if_neg g, app_nil] at hb ⊢
        rcases T.snoc l with rfl | ⟨l', e', c', rfl⟩
        · exact absurd rfl hb
        · rw [lastE_snoc]
          have key : ∀ (l : T) (p : Option T), falls p (app (app l (cons e' c' nil)) (cons e c nil)) → 0 < cmpT e' e := by
            intro l
            induction l with
            | nil => intro p hp; exact hp.2.1 e' rfl
            | cons y g r _ ih => intro p hp; exact ih _ hp.2
          have h1 := key l' none hfa
          have r := cmpT_range e x
          exact cmp_lt_of h1 (by omega)
theorem app_lt {a y : T} (hz : a ≠ nil) (hf : formA none a = true) (hy : y = nil ∨ ∃ x d, y = cons x d nil ∧ cmpT x (lastE a) < 0) : cmpT (app (befT a) y) a < 0 := by
  rcases T.snoc a with rfl | ⟨l, e, c, rfl⟩
  · exact absurd rfl hz
  · have hc := form_snoc hf
    rw [lastE_snoc] at hy
    rw [befT_snoc, app_assoc, cmp_app]
    by_cases g : 1 < c
    · have e1 : w (c - 1) = c - 1 := wid (by omega) (by omega)
      have e2 : cmpI (c - 1) c = -1 := by unfold cmpI; rw [if_pos (by omega)]
      rw [if_pos g, e1]
      simp only [app, cmpT, cmpT_refl, e2]
      simp
    · rw [if_neg g]
      rcases hy with rfl | ⟨x, d, rfl, hx⟩
      · simp [app, cmpT]
      · simp only [app, cmpT]
        rw [if_neg (by omega)]; exact hx
theorem fund_lt (n : Int) : ∀ (k : Nat) (a : T), limT a = true → formA none a = true → a.size < k → cmpT (fund k n a) a < 0 ∧ fund k n a = app (befT a) (powT (fexp (k - 1) n a) (fcoe n a))
  | 0, _, _, _, h => absurd h (Nat.not_lt_zero _)
  | k + 1, a, hl, hf, hk => by
    obtain ⟨hz, hx⟩ := lim_ne hl
    have h2 := lastE_size hz
    have fx := form_lastE hf
    have lt : cmpT (fexp k n a) (lastE a) < 0 := by
      unfold fexp
      cases q : limT (lastE a) with
      | true => exact (fund_lt n k (lastE a) q fx (by omega)).1
      | false => exact bef_lt hx fx
    rw [fund_step, plus_pow hf lt]
    refine ⟨app_lt hz hf ?_, rfl⟩
    unfold powT
    split
    · exact Or.inl rfl
    · exact Or.inr ⟨_, _, rfl, lt⟩
theorem fund_mono (n : Int) (hn : 0 ≤ n ∧ n < 1000) : ∀ (k : Nat) (a : T), limT a = true → formA none a = true → a.size < k → cmpT (fund k n a) (fund k (n + 1) a) < 0
  | 0, _, _, _, h => absurd h (Nat.not_lt_zero _)
  | k + 1, a, hl, hf, hk => by
    obtain ⟨hz, hx⟩ := lim_ne hl
    have h2 := lastE_size hz
    have fx := form_lastE hf
    rw [(fund_lt n (k + 1) a hl hf hk).2, (fund_lt (n + 1) (k + 1) a hl hf hk).2, cmp_app]
    simp only [Nat.add_sub_cancel]
    unfold fexp fcoe powT
    cases q : limT (lastE a) with
    | true =>
      have ih := fund_mono n hn k (lastE a) q fx (by omega)
      simp only [cond]
      rw [if_neg (by decide), if_neg (by decide)]
      simp only [cmpT]
      rw [if_neg (by omega)]; exact ih
    | false =>
      simp only [cond]
      rw [if_neg (show ¬ n + 1 = 0 by omega)]
      by_cases g : n = 0
      · rw [if_pos g]; simp [cmpT]
      · rw [if_neg g]
        have e2 : cmpI n (n + 1) = -1 := by unfold cmpI; rw [if_pos (by omega)]
        simp only [cmpT, cmpT_refl, e2]
        decide
/-- A predecessor and one. -/
theorem bef_one {a : T} (hz : a ≠ nil) (hl : limT a = false) (hf : formA none a = true) : plusT (befT a) (cons nil 1 nil) = a := by
  rcases T.snoc a with rfl | ⟨l, e, c, rfl⟩
  · exact absurd rfl hz
  · have hc := form_snoc hf
    have hfa := form_falls hf
    unfold limT at hl
    rw [lastE_snoc] at hl
    cases e with
    | cons x y z => cases hl
    | nil =>
      rw [befT_snoc]
      show goP _ nil 1 nil = _
      by_cases g : 1 < c
      · have e1 : w (c - 1) = c - 1 := wid (by omega) (by omega)
        have e2 : w (c - 1 + 1) = c := by rw [show w (c - 1 + 1) = c - 1 + 1 from wid (by omega) (by omega)]; omega
        rw [if_pos g, e1]
        have key : ∀ (l : T) (p : Option T), falls p (app l (cons nil c nil)) → goP (app l (cons nil (c - 1) nil)) nil 1 nil = app l (cons nil c nil) := by
          intro l
          induction l with
          | nil => intro p _; simp only [app, goP, cmpT]; rw [if_neg (by decide), if_pos True.intro, e2]
          | cons y g r _ ih =>
            intro p hp
            have h1 := falls_gt hp.2
            have r2 := cmpT_range y nil
            simp only [app, goP]
            rw [if_pos (by omega), ih _ hp.2]
        exact key l none hfa
      · have : c = 1 := by omega
        subst this
        rw [if_neg g, app_nil, goP_end hfa]
end Go.Proofs.Try

namespace Go.Proofs.Try
open Go Go.AX T
/-! ### copies -/
def addT (a b : T) : T × Bool := if ordP a && ordP b then toldT (plusT a b) else (nil, false)
def cmpO (a b : T) : Int × Bool := if ordP a && ordP b then (cmpT a b, true) else (0, false)
/-! ### the same -/
theorem addT_ok {a b : T} (h : (addT a b).2 = true) : ordP a = true ∧ ordP b = true ∧ ordP (plusT a b) = true ∧ (addT a b).1 = plusT a b := by
  unfold addT toldT at *
  cases ha : ordP a <;> cases hb : ordP b <;> simp only [ha, hb, Bool.and_self, Bool.and_true, Bool.and_false, if_true] at h ⊢ <;> try (simp at h)
  cases hs : ordP (plusT a b) <;> simp [hs] at h ⊢
theorem addT_of {a b : T} (ha : ordP a = true) (hb : ordP b = true) (hs : ordP (plusT a b) = true) : addT a b = (plusT a b, true) := by
  unfold addT toldT
  rw [ha, hb, Bool.and_self, if_pos rfl, if_pos hs]
end Go.Proofs.Try

namespace Go.Proofs.Try
open Go Go.AX T
def bytes (x : Rw) : Prop := ∀ r ∈ x, ∃ b : Int, r = [.int .u8 b] ∧ 0 ≤ b ∧ b < 256
/-- A drawn value: its place moves on by at most n. -/
def Drew {α : Type} (x : Rw) (a n : Int) (r : Option (α × Rw × Int × Int)) (Q : α → Prop) : Prop :=
  ∃ v a' c', r = some (v, x, a', c') ∧ 0 ≤ a' ∧ a' ≤ a + n ∧ Q v
theorem Drew.mono {α : Type} {x : Rw} {a n m : Int} {r : Option (α × Rw × Int × Int)} {Q : α → Prop} (h : Drew x a n r Q) (hn : n ≤ m) : Drew x a m r Q := by
  obtain ⟨v, a', c', e, h1, h2, h3⟩ := h
  exact ⟨v, a', c', e, h1, by omega, h3⟩
theorem Drew.bind {α β : Type} {x : Rw} {a n m : Int} {r : Option (α × Rw × Int × Int)} {Q : α → Prop} {S : β → Prop} {F : α × Rw × Int × Int → Option (β × Rw × Int × Int)} (h : Drew x a n r Q)
    (hF : ∀ v a' c', 0 ≤ a' → a' ≤ a + n → Q v → Drew x a' m (F (v, x, a', c')) S) : Drew x a (n + m) (r.bind F) S := by
  obtain ⟨v, a', c', e, h1, h2, h3⟩ := h
  obtain ⟨u, a2, c2, e2, q1, q2, q3⟩ := hF v a' c' h1 h2 h3
  exact ⟨u, a2, c2, by rw [e, Option.bind_some, e2], q1, by omega, q3⟩
theorem and255 (n : Nat) (b : BitVec n) : (b &&& BitVec.ofInt n 255).toNat ≤ 255 := by
  rw [BitVec.toNat_and]
  refine Nat.le_trans Nat.and_le_right ?_
  rw [BitVec.toNat_ofInt]
  show (((255 : Nat) : Int) % ((2 ^ n : Nat) : Int)).toNat ≤ 255
  rw [← Int.natCast_emod, Int.toNat_natCast]
  exact Nat.mod_le _ _
theorem odTerm_ok (e : T) {n : Int} (hn : n ≠ 0) : spec_odTerm e.rows n = some (cons e n nil).rows := by
  unfold spec_odTerm; rw [if_neg hn]; rfl
/-- What meet has yet to add. -/
def due (f : Bool) (e : T) : Nat := cond f 0 (e.size + 1)
end Go.Proofs.Try

namespace Go.Proofs.Try
open Go Go.AX T
def IsT (S : Nat) (B : Int) (r : Rw) : Prop := ∃ t : T, r = t.rows ∧ t.size ≤ S ∧ sm B t
def zS : Nat → Nat
  | 0 => 1
  | d + 1 => 3 * (zS d + 2)
def zB : Nat → Int
  | 0 => 3
  | d + 1 => 3 * (zB d + 1000)
def zN : Nat → Int
  | 0 => 2
  | d + 1 => 2 + 3 * (8 + zN d)
theorem splus_sm {B : Int} : ∀ (b a : T) (C : Int), sm C a → sm B b → 0 ≤ B → 0 ≤ C → C + B * b.len ≤ 1000000000000 → sm (C + B * b.len) (splus a b)
  | nil, a, C, sa, _, _, _, _ => sm_mono sa (by simp [len])
  | cons f d m, a, C, sa, sb, hB, hC, hs => by
    have e : B * ((m.len + 1 : Nat) : Int) = B * m.len + B := by rw [Int.natCast_add, Int.mul_add]; omega
    simp only [len] at hs ⊢
    have hnn : 0 ≤ B * (m.len : Int) := Int.mul_nonneg hB (by omega)
    rw [e] at hs ⊢
    have := splus_sm m (addL (popT a f) f d) (C + B) (sm_addL (sm_pop sa) sb.1 sb.2.1 ⟨hC, hB, by omega⟩) sb.2.2 hB (by omega) (by omega)
    exact sm_mono this (by omega)
end Go.Proofs.Try

namespace Go.Proofs.Try
open Go Go.AX T
def fundA (k : Nat) (a : T) (n : Int) : T × Bool := cond (ordP a && (limT a && (decide (0 ≤ n) && decide (n ≤ 1000)))) (toldT (fund k n a)) (nil, false)
def predA (a : T) : T × Bool := cond (ordP a && (!zer a && !limT a)) (toldT (befT a)) (nil, false)
theorem fund_both {k : Nat} {a : T} {n : Int} (hk : 30000 < k) (ha : a.size < k) (hc : a.size + 2 ≤ cap) : impl_FundamentalAt k a.rows n = some ((fundA k a n).1.rows, (fundA k a n).2) ∧ spec_FundamentalAt k a.rows n = some ((fundA k a n).1.rows, (fundA k a n).2) := by
  have h3 : cap = 1099511627776 := rfl
  have hal := a.len_size
  unfold impl_FundamentalAt spec_FundamentalAt fundA
  rw [IsOrdinal_eq k a ha (by omega), odGood_all k a ha (by omega)]
  simp only [Option.bind_some]
  cases oa : ordP a with
  | false => exact ⟨rfl, rfl⟩
  | true =>
    have hf := ordP_form oa
    have hs := ordP_size oa
    simp only [if_true]
    rw [isLimit_eq (by omega) hf, odLimit_eq (by omega) hf, impl_in_eq, l1In_eq]
    simp only [Option.bind_some, Bool.true_and]
    cases hl : limT a with
    | false => exact ⟨rfl, rfl⟩
    | true =>
      simp only [if_true, Bool.true_and]
      cases hn : (decide (0 ≤ n) && decide (n ≤ 1000)) with
      | false => exact ⟨rfl, rfl⟩
      | true =>
        simp only [Bool.and_eq_true, decide_eq_true_eq] at hn
        have m : (a.size + 1) * (a.size + 1) ≤ 31 * 31 := Nat.mul_le_mul (by omega) (by omega)
        have fs := fund_size k n a
        simp only [if_true, cond]
        rw [fundamental_eq n hn k a hl hf (by omega) (by omega), odAt_eq n hn k a hl hf (by omega) (by omega)]
        simp only [Option.bind_some]
        rw [told_eq k _ (by omega) (by omega), odIf_all k _ (by omega) (by omega)]
        simp only [Option.bind_some]
        cases (toldT (fund k n a)).2 <;> exact ⟨rfl, rfl⟩
theorem told_fst {t : T} (h : (toldT t).2 = true) : (toldT t).1 = t ∧ ordP t = true := by
  unfold toldT at *
  split
  · rename_i q; exact ⟨rfl, q⟩
  · rename_i q; rw [if_neg q] at h; cases h
theorem fundA_ok {k : Nat} {a : T} {n : Int} (h : (fundA k a n).2 = true) : ordP a = true ∧ limT a = true ∧ (0 ≤ n ∧ n ≤ 1000) ∧ (fundA k a n).1 = fund k n a ∧ ordP (fund k n a) = true := by
  unfold fundA at *
  cases q : (ordP a && (limT a && (decide (0 ≤ n) && decide (n ≤ 1000)))) with
  | false => rw [q] at h; cases h
  | true =>
    rw [q] at h
    simp only [Bool.and_eq_true, decide_eq_true_eq] at q
    obtain ⟨e1, e2⟩ := told_fst (t := fund k n a) h
    exact ⟨q.1, q.2.1, q.2.2, e1, e2⟩
theorem predA_ok {a : T} (h : (predA a).2 = true) : ordP a = true ∧ a ≠ nil ∧ limT a = false ∧ (predA a).1 = befT a ∧ ordP (befT a) = true := by
  unfold predA at *
  cases q : (ordP a && (!zer a && !limT a)) with
  | false => rw [q] at h; cases h
  | true =>
    rw [q] at h
    simp only [Bool.and_eq_true, Bool.not_eq_true'] at q
    obtain ⟨e1, e2⟩ := told_fst (t := befT a) h
    refine ⟨q.1, ?_, q.2.2, e1, e2⟩
    intro e
    rw [e] at q
    exact absurd q.2.1 (by decide)
theorem toldT_size (t : T) : (toldT t).1.size ≤ 30 := by
  unfold toldT; split
  · rename_i q; exact ordP_size q
  · simp [size]
theorem fundA_size (k : Nat) (a : T) (n : Int) : (fundA k a n).1.size ≤ 30 := by
  unfold fundA
  cases (ordP a && (limT a && (decide (0 ≤ n) && decide (n ≤ 1000)))) with
  | false => simp [cond, size]
  | true => exact toldT_size _
theorem predA_size (a : T) : (predA a).1.size ≤ 30 := by
  unfold predA
  cases (ordP a && (!zer a && !limT a)) with
  | false => simp [cond, size]
  | true => exact toldT_size _
end Go.Proofs.Try

namespace Go.Proofs.Try
open Go Go.AX T
theorem fundx_both {k : Nat} {a : T} {n : Int} (hk : 30000 < k) (ha : a.size < k) (hc : a.size + 2 ≤ cap) : ∃ (r : T) (ok : Bool), impl_FundamentalAt k a.rows n = some (r.rows, ok) ∧ spec_FundamentalAt k a.rows n = some (r.rows, ok) ∧ r.size ≤ 30 :=
  ⟨(fundA k a n).1, (fundA k a n).2, (fund_both hk ha hc).1, (fund_both hk ha hc).2, fundA_size k a n⟩
end Go.Proofs.Try
