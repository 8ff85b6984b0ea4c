/- What the printed functions compute: plain data. -/
import Derived.Test.YthboihanakagnaaSW0
import Derived.Lib.Strings
import Derived.Lib.Join
import Derived.Lib.ItoaLen
set_option linter.unusedVariables false
set_option linter.unusedSimpArgs false
namespace Go.Proofs.Try
open Go Go.AX

theorem wid {n : Int} (h1 : -9223372036854775808 ≤ n) (h2 : n < 9223372036854775808) : IntKind.i64.wrap n = n := wrap_in h1 h2
/-- An ordinal: its terms, exponents and coefficients. -/
inductive T where
  | nil
  | cons (e : T) (c : Int) (l : T)
namespace T
def rows : T → Rw
  | nil => []
  | cons e c l => [.sl (rows e), .int .i64 c] :: rows l
def size : T → Nat
  | nil => 0
  | cons e _ l => size e + size l + 1
def len : T → Nat
  | nil => 0
  | cons _ _ l => len l + 1
def drop : T → Nat → T
  | t, 0 => t
  | nil, _ + 1 => nil
  | cons _ _ l, n + 1 => drop l n
def app : T → T → T
  | nil, b => b
  | cons e c l, b => cons e c (app l b)
@[simp] theorem drop_zero (t : T) : drop t 0 = t := by cases t <;> rfl
@[simp] theorem drop_nil (n : Nat) : drop nil n = nil := by cases n <;> rfl
@[simp] theorem rows_len (t : T) : (rows t).length = len t := by
  induction t with
  | nil => rfl
  | cons e c l _ ih => simp [rows, len, ih]
theorem len_size (t : T) : len t ≤ size t := by
  induction t with
  | nil => simp [len]
  | cons e c l _ ih => simp [len, size]; omega
@[simp] theorem rows_app (a b : T) : rows (app a b) = rows a ++ rows b := by
  induction a with
  | nil => rfl
  | cons e c l _ ih => simp [app, rows, ih]
theorem rows_drop (t : T) (i : Nat) : rows (drop t i) = (rows t).drop i := by
  induction t generalizing i with
  | nil => cases i <;> simp [drop, rows]
  | cons e c l _ ih => cases i with
    | zero => simp [drop]
    | succ i => simp [drop, rows, ih]
theorem rowsWide (t : T) : ∀ cs ∈ rows t, cs.length = 2 := by
  induction t with
  | nil => intro cs h; cases h
  | cons e c l _ ih =>
    intro cs h
    simp only [rows, List.mem_cons] at h
    rcases h with rfl | h
    · rfl
    · exact ih cs h
theorem rowsWide_drop (t : T) (i : Nat) : ∀ cs ∈ (rows t).drop i, cs.length = 2 := fun cs h => rowsWide t cs (List.mem_of_mem_drop h)
theorem drop_len (t : T) (i : Nat) : len (drop t i) = len t - i := by rw [← rows_len, rows_drop, List.length_drop, rows_len]
theorem drop_succ {t : T} {i : Nat} {e : T} {c : Int} {l : T} (h : drop t i = cons e c l) : drop t (i + 1) = l := by
  induction t generalizing i with
  | nil => simp at h
  | cons e' c' l' _ ih =>
    cases i with
    | zero => simp only [drop, cons.injEq] at h ⊢; simp [h.2.2]
    | succ i => exact ih h
theorem drop_size {t : T} {i : Nat} : size (drop t i) ≤ size t := by
  induction t generalizing i with
  | nil => simp
  | cons e c l _ ih =>
    cases i with
    | zero => simp
    | succ i => simp only [drop, size]; have := ih (i := i); omega
theorem drop_cons_size {t : T} {i : Nat} {e : T} {c : Int} {l : T} (h : drop t i = cons e c l) : size e + size l + 1 ≤ size t := by
  have := drop_size (t := t) (i := i); rw [h] at this; exact this
theorem drop_lt {t : T} {i : Nat} {e : T} {c : Int} {l : T} (h : drop t i = cons e c l) : i < len t := by
  have := drop_len t i; rw [h] at this; simp only [len] at this; omega
theorem drop_ge {t : T} {i : Nat} (h : drop t i = nil) : len t ≤ i := by
  have := drop_len t i; rw [h] at this; simp only [len] at this; omega
theorem drop_of_ge {t : T} {i : Nat} (h : len t ≤ i) : drop t i = nil := by
  have := drop_len t i
  cases hd : drop t i with
  | nil => rfl
  | cons e c l => rw [hd] at this; simp only [len] at this; omega
theorem rows_get {t : T} {i : Nat} {e : T} {c : Int} {l : T} (h : drop t i = cons e c l) : (rows t)[i]? = some [.sl (rows e), .int .i64 c] := by
  have := rows_drop t i
  rw [h] at this
  have h2 : ((rows t).drop i)[0]? = some [.sl (rows e), .int .i64 c] := by rw [← this]; rfl
  rwa [List.getElem?_drop, Nat.add_zero] at h2
@[simp] theorem app_nil (t : T) : app t nil = t := by
  induction t with
  | nil => rfl
  | cons e c l _ ih => simp [app, ih]
theorem app_assoc (a b c : T) : app (app a b) c = app a (app b c) := by
  induction a with
  | nil => rfl
  | cons e k l _ ih => simp [app, ih]
theorem size_app (a b : T) : (app a b).size = a.size + b.size := by
  induction a with
  | nil => simp [app, size]
  | cons e c l _ ih => simp [app, size, ih]; omega
theorem len_app (a b : T) : (app a b).len = a.len + b.len := by
  induction a with
  | nil => simp [app, len]
  | cons e c l _ ih => simp [app, len, ih]; omega
theorem rows_inj : ∀ {a b : T}, rows a = rows b → a = b
  | nil, nil, _ => rfl
  | nil, cons _ _ _, h => by simp [rows] at h
  | cons _ _ _, nil, h => by simp [rows] at h
  | cons e c l, cons f d m, h => by
    simp only [rows, List.cons.injEq, D.sl.injEq, D.int.injEq, true_and, and_true] at h
    obtain ⟨⟨h1, h2⟩, h3⟩ := h
    rw [rows_inj h1, h2, rows_inj h3]
end T
open T
theorem row_rows {α : Type} {t : T} {i : Int} {n : Nat} (hi : i = n) {e : T} {c : Int} {l : T} (h : drop t n = cons e c l) (F : Rw → List D → Option α) : (if 0 ≤ i then (match (rows t)[i.toNat]? with | some cs => F (rows t) cs | none => none) else none) = F (rows t) [.sl (rows e), .int .i64 c] := by
  subst hi
  rw [if_pos (by omega), Int.toNat_natCast, rows_get h]

/-! ### the order -/
def cmpI (a b : Int) : Int := if a < b then -1 else if b < a then 1 else 0
def cmpT : T → T → Int
  | nil, nil => 0
  | nil, cons _ _ _ => -1
  | cons _ _ _, nil => 1
  | cons e c l, cons f d m => if cmpT e f = 0 then (if cmpI c d = 0 then cmpT l m else cmpI c d) else cmpT e f
theorem cmpI_refl (a : Int) : cmpI a a = 0 := by simp [cmpI]
theorem cmpI_eq {a b : Int} : cmpI a b = 0 ↔ a = b := by unfold cmpI; split <;> (try split) <;> simp <;> omega
theorem cmpI_neg (a b : Int) : cmpI b a = - cmpI a b := by unfold cmpI; split <;> split <;> (try split) <;> omega
theorem cmpT_range (a b : T) : cmpT a b = -1 ∨ cmpT a b = 0 ∨ cmpT a b = 1 := by
  induction a generalizing b with
  | nil => cases b <;> simp [cmpT]
  | cons e c l ihe ihl =>
    cases b with
    | nil => simp [cmpT]
    | cons f d m =>
      simp only [cmpT]
      split
      · split
        · exact ihl m
        · unfold cmpI; split <;> (try split) <;> simp
      · exact ihe f
theorem cmpT_refl (a : T) : cmpT a a = 0 := by
  induction a with
  | nil => rfl
  | cons e c l ihe ihl => simp [cmpT, ihe, ihl, cmpI_refl]
theorem cmpT_eq {a b : T} : cmpT a b = 0 ↔ a = b := by
  induction a generalizing b with
  | nil => cases b <;> simp [cmpT]
  | cons e c l ihe ihl =>
    cases b with
    | nil => simp [cmpT]
    | cons f d m =>
      simp only [cmpT, cons.injEq]
      constructor
      · intro h
        split at h
        · rename_i h1
          split at h
          · rename_i h2; exact ⟨ihe.1 h1, cmpI_eq.1 h2, ihl.1 h⟩
          · rename_i h2; exact absurd h h2
        · rename_i h1; exact absurd h h1
      · rintro ⟨rfl, rfl, rfl⟩
        rw [if_pos (cmpT_refl e), if_pos (cmpI_refl c)]; exact cmpT_refl l
theorem cmpT_neg (a b : T) : cmpT b a = - cmpT a b := by
  induction a generalizing b with
  | nil => cases b <;> simp [cmpT]
  | cons e c l ihe ihl =>
    cases b with
    | nil => simp [cmpT]
    | cons f d m =>
      simp only [cmpT, ihe f, ihl m, cmpI_neg c d]
      split <;> split <;> (try split) <;> (try split) <;> omega
theorem cmpI_trans {a b c : Int} (h1 : cmpI a b < 0) (h2 : cmpI b c < 0) : cmpI a c < 0 := by
  unfold cmpI at *
  split at h1 <;> (try split at h1) <;> split at h2 <;> (try split at h2) <;> split <;> (try split) <;> omega
theorem cmpT_trans {a b c : T} (h1 : cmpT a b < 0) (h2 : cmpT b c < 0) : cmpT a c < 0 := by
  induction a generalizing b c with
  | nil =>
    cases b with
    | nil => simp [cmpT] at h1
    | cons f d m => cases c with
      | nil => simp [cmpT] at h2
      | cons g k n => simp [cmpT]
  | cons e x l ihe ihl =>
    cases b with
    | nil => simp [cmpT] at h1
    | cons f y m =>
      cases c with
      | nil => simp [cmpT] at h2
      | cons g z n =>
        simp only [cmpT] at h1 h2 ⊢
        by_cases q1 : cmpT e f = 0
        · rw [if_pos q1] at h1
          obtain rfl := cmpT_eq.1 q1
          by_cases q2 : cmpT e g = 0
          · rw [if_pos q2] at h2 ⊢
            by_cases q3 : cmpI x y = 0
            · rw [if_pos q3] at h1
              obtain rfl := cmpI_eq.1 q3
              by_cases q4 : cmpI x z = 0
              · rw [if_pos q4] at h2 ⊢; exact ihl h1 h2
              · rw [if_neg q4] at h2 ⊢; exact h2
            · rw [if_neg q3] at h1
              by_cases q4 : cmpI y z = 0
              · rw [if_pos q4] at h2
                obtain rfl := cmpI_eq.1 q4
                rw [if_neg q3]; exact h1
              · rw [if_neg q4] at h2
                have := cmpI_trans h1 h2
                rw [if_neg (by omega)]; exact this
          · rw [if_neg q2] at h2 ⊢; exact h2
        · rw [if_neg q1] at h1
          by_cases q2 : cmpT f g = 0
          · obtain rfl := cmpT_eq.1 q2
            rw [if_neg q1]; exact h1
          · rw [if_neg q2] at h2
            have := ihe h1 h2
            rw [if_neg (by omega)]; exact this

/-! ### what is right -/
def nodesL : T → Nat
  | nil => 0
  | cons e _ l => 2 + nodesL e + nodesL l
def dp : T → Nat
  | nil => 0
  | cons e _ l => max (1 + dp e) (dp l)
/-- Coefficients in their range, exponents that fall; p: the exponent ahead. -/
def formA : Option T → T → Bool
  | _, nil => true
  | p, cons e c l => decide (1 ≤ c) && decide (c ≤ 1000000) && formA none e && (match p with | none => true | some q => decide (0 < cmpT q e)) && formA (some e) l
def ordP (t : T) : Bool := decide (1 + nodesL t ≤ 60) && decide (dp t ≤ 6) && formA none t
theorem nodes_size (t : T) : nodesL t = 2 * size t := by
  induction t with
  | nil => rfl
  | cons e c l ihe ihl => simp only [nodesL, size, ihe, ihl]; omega
theorem ordP_size {t : T} (h : ordP t = true) : size t ≤ 30 := by
  simp only [ordP, Bool.and_eq_true, decide_eq_true_eq] at h
  have := nodes_size t
  omega
end Go.Proofs.Try

namespace Go.Proofs.Try
theorem bind_of {α β : Type} {o : Option α} {y : α} {K : α → Option β} {r : Option β} (h : o = some y) (hk : K y = r) : o.bind K = r := by rw [h]; exact hk
theorem ite_pos {α : Type} {c : Prop} [Decidable c] {a b r : α} (h : c) (hk : a = r) : (if c then a else b) = r := by rw [if_pos h]; exact hk
theorem ite_neg {α : Type} {c : Prop} [Decidable c] {a b r : α} (h : ¬ c) (hk : b = r) : (if c then a else b) = r := by rw [if_neg h]; exact hk
theorem cond_tt {α : Type} {a b r : α} (h : a = r) : cond true a b = r := h
theorem cond_ff {α : Type} {a b r : α} (h : b = r) : cond false a b = r := h
end Go.Proofs.Try

namespace Go.Proofs.Try
open Go Go.AX T
/-! ### rows of terms -/
@[simp] theorem cell_T {α : Type} (x : Rw) (c : Int) (K : Rw → Int → Option α) : cell_si [.sl x, .int .i64 c] K = K x c := rfl
theorem row_T {α : Type} {t : T} {i : Int} {n : Nat} (hi : i = n) {e : T} {c : Int} {l : T} (h : drop t n = cons e c l) (K : Rw → Int → Option α) : row_si t.rows i K = K e.rows c := by
  subst hi
  unfold row_si
  rw [if_pos (by omega), Int.toNat_natCast, rows_get h]; rfl
@[simp] theorem row_T0 {α : Type} (e : T) (c : Int) (l : T) (K : Rw → Int → Option α) : row_si (cons e c l).rows 0 K = K e.rows c := row_T (n := 0) rfl rfl K
theorem lenI (t : T) : ((t.rows.length : Nat) : Int) = (t.len : Int) := by rw [rows_len]
/-! ### impl's order -/
theorem impl_compare_eq (a b : Int) : impl_compare a b = some (cmpI a b) := by unfold impl_compare cmpI; split <;> (try split) <;> rfl
theorem CompareFunc_loop {rec_ : Rw → Rw → Option Int} {a b : T} {K : Option Int} (hr : ∀ e f : T, e.size < a.size → rec_ e.rows f.rows = some (cmpT e f)) (hK : K = (if (a.len : Int) < b.len then some (-1) else some 0)) :
    ∀ (t : T) (i : Nat), drop a i = t → i ≤ a.len → i ≤ b.len → slices_CompareFunc__cmpTerms_l0 rec_ a.rows b.rows K t.rows i = some (cmpT t (drop b i))
  | nil, i, hd, ha', hb => by
    simp only [rows, slices_CompareFunc__cmpTerms_l0, hK]
    have h1 := drop_ge hd
    by_cases h2 : i < b.len
    · cases hq : drop b i with
      | nil => have := drop_ge hq; omega
      | cons f d m =>
        have : a.len = i ∨ a.len < i := by omega
        rw [if_pos (by omega)]; rfl
    · rw [drop_of_ge (t := b) (by omega), if_neg (by
        intro q
        omega)]; rfl
  | cons e c l, i, hd, ha', hb => by
    simp only [rows, slices_CompareFunc__cmpTerms_l0, cell_T]
    have hs := drop_cons_size hd
    by_cases h2 : b.len ≤ i
    · rw [if_pos (by rw [lenI]; omega), drop_of_ge h2]; rfl
    · rw [if_neg (by rw [lenI]; omega)]
      cases hq : drop b i with
      | nil => have := drop_ge hq; omega
      | cons f d m =>
        rw [row_T rfl hq]
        simp only [impl_cmpTerms, hr e f (by omega), Option.bind_some, impl_compare_eq]
        by_cases h3 : cmpT e f = 0
        · simp only [h3, if_true, Option.bind_some]
          by_cases h4 : cmpI c d = 0
          · rw [if_pos h4, CompareFunc_loop hr hK l (i + 1) (drop_succ hd) (drop_lt hd) (by omega), drop_succ hq]
            simp [cmpT, h3, h4]
          · rw [if_neg h4]; simp [cmpT, h3, h4]
        · simp only [if_neg h3, Option.bind_some]; simp [cmpT, h3]
theorem impl_cmp_eq : ∀ (k : Nat) (a b : T), a.size < k → a.size ≤ cap → impl_cmp k a.rows b.rows = some (cmpT a b)
  | 0, _, _, h, _ => absurd h (Nat.not_lt_zero _)
  | k + 1, a, b, h, hc => by
    have hl := a.len_size
    simp only [impl_cmp, impl_cmp_b, slices_CompareFunc__cmpTerms]
    rw [if_pos (by rw [rows_len]; omega)]
    rw [CompareFunc_loop (a := a) (b := b) (fun e f he => impl_cmp_eq k e f (by omega) (by omega)) (by rw [lenI, lenI]) a 0 (drop_zero a) (by omega) (by omega)]
    simp
/-! ### spec's order -/
/-- Coefficients whose differences do not run over. -/
def calm : T → Prop
  | nil => True
  | cons e c l => calm e ∧ (-1000000000000000 ≤ c ∧ c ≤ 1000000000000000) ∧ calm l
theorem calm_drop {t : T} (h : calm t) : ∀ {i : Nat}, calm (drop t i) := by
  induction t with
  | nil => intro i; simpa using h
  | cons e c l _ ih => intro i; cases i with
    | zero => simpa using h
    | succ i => exact ih h.2.2
theorem sign_eq {c d : Int} (hc : -1000000000000000 ≤ c ∧ c ≤ 1000000000000000) (hd : -1000000000000000 ≤ d ∧ d ≤ 1000000000000000) : spec_l1Sign (IntKind.i64.wrap (c - d)) = some (cmpI c d) := by
  rw [wid (by omega) (by omega)]
  unfold spec_l1Sign cmpI
  by_cases h1 : c < d
  · rw [if_neg (by omega), if_pos (by omega), if_pos h1]
  · by_cases h2 : d < c
    · rw [if_pos (by omega), if_neg h1, if_pos h2]
    · rw [if_neg (by omega), if_neg (by omega), if_neg h1, if_neg h2]
theorem odCmp_loop {rec_ : Rw → Rw → Option Int} {a b : T} {K : Option Int} (ha : calm a) (hb : calm b) (hr : ∀ e f : T, e.size < a.size → calm e → calm f → rec_ e.rows f.rows = some (cmpT e f)) (hK : K = (if (a.len : Int) < b.len then some (-1) else some 0)) :
    ∀ (t : T) (i : Nat), drop a i = t → i ≤ a.len → i ≤ b.len → spec_odCmp_l0 rec_ a.rows b.rows K t.rows i = some (cmpT t (drop b i))
  | nil, i, hd, ha', hb' => by
    simp only [rows, spec_odCmp_l0, hK]
    have h1 := drop_ge hd
    by_cases h2 : i < b.len
    · cases hq : drop b i with
      | nil => have := drop_ge hq; omega
      | cons f d m => rw [if_pos (by omega)]; rfl
    · rw [drop_of_ge (t := b) (by omega), if_neg (by
        intro q
        omega)]; rfl
  | cons e c l, i, hd, ha', hb' => by
    simp only [rows, spec_odCmp_l0, cell_T]
    have hs := drop_cons_size hd
    have hca := calm_drop ha (i := i)
    rw [hd] at hca
    by_cases h2 : i = b.len
    · rw [if_pos (by rw [lenI]; omega), drop_of_ge (by omega)]; rfl
    · rw [if_neg (by rw [lenI]; omega)]
      cases hq : drop b i with
      | nil => have := drop_ge hq; omega
      | cons f d m =>
        have hcb := calm_drop hb (i := i)
        rw [hq] at hcb
        rw [row_T rfl hq]
        simp only [hr e f (by omega) hca.1 hcb.1, Option.bind_some]
        by_cases h3 : cmpT e f = 0
        · rw [if_pos h3]
          by_cases h4 : c = d
          · subst h4
            rw [if_pos rfl, odCmp_loop ha hb hr hK l (i + 1) (drop_succ hd) (drop_lt hd) (drop_lt hq), drop_succ hq]
            simp [cmpT, h3, cmpI_refl]
          · rw [if_neg h4, sign_eq hca.2.1 hcb.2.1]
            have : cmpI c d ≠ 0 := fun q => h4 (cmpI_eq.1 q)
            simp [cmpT, h3, this]
        · rw [if_neg h3]; simp [cmpT, h3]
theorem odCmp_eq : ∀ (k : Nat) (a b : T), calm a → calm b → a.size < k → a.size ≤ cap → spec_odCmp k a.rows b.rows = some (cmpT a b)
  | 0, _, _, _, _, h, _ => absurd h (Nat.not_lt_zero _)
  | k + 1, a, b, ha, hb, h, hc => by
    have hl := a.len_size
    simp only [spec_odCmp, spec_odCmp_b]
    rw [if_pos (by rw [rows_len]; omega)]
    have := odCmp_loop (rec_ := spec_odCmp k) (a := a) (b := b) (K := spec_odCmp_p2 a.rows b.rows) ha hb (fun e f he h1 h2 => odCmp_eq k e f h1 h2 (by omega) (by omega)) (by unfold spec_odCmp_p2; rw [lenI, lenI]) a 0 (drop_zero a) (by omega) (by omega)
    rw [this, drop_zero]
end Go.Proofs.Try

namespace Go.Proofs.Try
open Go Go.AX T
theorem impl_in_eq (n a b : Int) : impl_in n a b = some (decide (a ≤ n) && decide (n ≤ b)) := by
  unfold impl_in
  by_cases h1 : a ≤ n <;> by_cases h2 : n ≤ b <;> simp [h1, h2]
theorem l1In_eq (n a b : Int) : spec_l1In n a b = some (decide (a ≤ n) && decide (n ≤ b)) := by
  unfold spec_l1In
  by_cases h1 : a ≤ n <;> by_cases h2 : n ≤ b <;> simp [h1, h2]
/-- The exponent of the term ahead of the i-th. -/
def ahead (t : T) : Nat → Option T
  | 0 => none
  | i + 1 => match drop t i with
    | cons e _ _ => some e
    | nil => none
theorem ahead_succ {t : T} {i : Nat} {e : T} {c : Int} {l : T} (h : drop t i = cons e c l) : ahead t (i + 1) = some e := by simp [ahead, h]
theorem ahead_some {t : T} {i : Nat} (h0 : 0 < i) (h : i ≤ t.len) : ∃ q c l, drop t (i - 1) = cons q c l ∧ ahead t i = some q := by
  obtain ⟨j, rfl⟩ : ∃ j, i = j + 1 := ⟨i - 1, by omega⟩
  cases hq : drop t j with
  | nil => have := drop_ge hq; omega
  | cons q c l => exact ⟨q, c, l, hq, ahead_succ hq⟩
theorem dp_drop {t : T} : ∀ {i : Nat}, dp (drop t i) ≤ dp t := by
  induction t with
  | nil => intro i; simp
  | cons e c l _ ih => intro i; cases i with
    | zero => simp
    | succ i => have := ih (i := i); simp only [drop, dp]; omega
/-- What a check of a tree tells. -/
def Tells (r : Bool × Int) (n : Int) (ok : Prop) (m : Int) : Prop := (r.1 = true ↔ ok) ∧ (r.1 = true → r.2 = m) ∧ 0 ≤ r.2 ∧ r.2 ≤ 61 ∧ n ≤ r.2
theorem at2_loop {k : Nat} {rec_ : Rw → Int → Int → Int → Option (Bool × Int)} {a : T} {d1 deep : Int} (hd : 0 ≤ deep ∧ deep ≤ 6) (hk : a.size ≤ k) (hc : a.size ≤ cap)
    (hr : ∀ (e : T) (x n : Int), e.size < a.size → 0 ≤ n → n ≤ 60 → ∃ r, rec_ e.rows x (deep + 1) n = some r ∧ Tells r n (n + 1 + nodesL e ≤ 60 ∧ deep + 1 + dp e ≤ 6 ∧ formA none e = true) (n + 1 + nodesL e)) :
    ∀ (t : T) (i : Nat) (m : Int), drop a i = t → i ≤ a.len → 0 ≤ m → m ≤ 60 → ∃ r, impl_ordinalAt_2_l0 k rec_ a.rows d1 deep (fun v => impl_ordinalAt_2_p3 v) t.rows i m = some r ∧ Tells r m (m + nodesL t ≤ 60 ∧ deep + dp t ≤ 6 ∧ formA (ahead a i) t = true) (m + nodesL t)
  | nil, i, m, hdr, hi, h0, h60 => by
    refine ⟨(true, m), rfl, ?_⟩
    simp only [Tells, nodesL, dp, formA]
    refine ⟨⟨fun _ => ⟨by omega, by omega, trivial⟩, fun _ => trivial⟩, fun _ => by omega, h0, by omega, by omega⟩
  | cons e c l, i, m, hdr, hi, h0, h60 => by
    have hs := drop_cons_size hdr
    simp only [rows, impl_ordinalAt_2_l0, cell_T]
    rw [wid (n := m + 1) (by omega) (by omega)]
    by_cases h1 : 60 < m + 1
    · rw [if_pos h1]
      refine ⟨_, rfl, ?_⟩
      simp only [Tells, nodesL]
      refine ⟨⟨fun h => (by cases h), fun h => by omega⟩, fun h => (by cases h), by omega, by omega, by omega⟩
    · rw [if_neg h1, impl_in_eq, Option.bind_some]
      by_cases h2 : (decide (1 ≤ c) && decide (c ≤ 1000000)) = true
      · rw [if_pos h2, wid (n := deep + 1) (by omega) (by omega)]
        obtain ⟨r1, e1, t1, t2, t3, t4, t5⟩ := hr e c (m + 1) (by omega) (by omega) (by omega)
        rw [e1, Option.bind_some]
        obtain ⟨b1, m1⟩ := r1
        dsimp only at t1 t2 t3 t4 t5 ⊢
        cases b1 with
        | false =>
          rw [if_neg (by simp)]
          refine ⟨_, rfl, ?_⟩
          simp only [Tells]
          refine ⟨⟨fun h => (by cases h), fun h => ?_⟩, fun h => (by cases h), t3, t4, by omega⟩
          obtain ⟨q1, q2, q3⟩ := h
          simp only [nodesL, dp, formA, Bool.and_eq_true] at q1 q2 q3
          exact t1.2 ⟨by omega, by omega, q3.1.1.2⟩
        | true =>
          obtain ⟨u1, u2, u3⟩ := t1.1 rfl
          obtain rfl := t2 rfl
          rw [if_pos rfl]
          have go : ∀ (hp : (match ahead a i with | none => true | some q => decide (0 < cmpT q e)) = true), ∃ r, impl_ordinalAt_2_l0 k rec_ a.rows d1 deep (fun v => impl_ordinalAt_2_p3 v) l.rows (i + 1) (m + 1 + 1 + nodesL e) = some r ∧ Tells r m (m + nodesL (cons e c l) ≤ 60 ∧ deep + dp (cons e c l) ≤ 6 ∧ formA (ahead a i) (cons e c l) = true) (m + nodesL (cons e c l)) := by
            intro hp
            obtain ⟨r, er, s1, s2, s3, s4, s5⟩ := at2_loop hd hk hc hr l (i + 1) (m + 1 + 1 + nodesL e) (drop_succ hdr) (drop_lt hdr) (by omega) (by omega)
            refine ⟨r, er, ?_⟩
            rw [ahead_succ hdr] at s1
            simp only [Tells, nodesL, dp, formA, Bool.and_eq_true]
            refine ⟨s1.trans ⟨fun q => ⟨by have := q.1; omega, by have := q.2.1; omega, ⟨⟨(by simpa using h2), u3⟩, hp⟩, q.2.2⟩, fun q => ⟨by have := q.1; omega, by have := q.2.1; omega, q.2.2.2⟩⟩, fun q => by rw [s2 q]; omega, s3, s4, by omega⟩
          by_cases h3 : (0 : Int) < (i : Int)
          · obtain ⟨q, qc, ql, hq, ha⟩ := ahead_some (t := a) (i := i) (by omega) hi
            have hqs := drop_cons_size hq
            rw [if_pos h3, wid (n := (i : Int) - 1) (by omega) (by have := a.len_size; have : cap = 1099511627776 := rfl; omega), row_T (n := i - 1) (by omega) hq, impl_cmp_eq k q e (by omega) (by omega), Option.bind_some]
            by_cases h4 : cmpT q e ≤ 0
            · rw [if_pos h4]
              refine ⟨_, rfl, ?_⟩
              simp only [Tells]
              refine ⟨⟨fun h => (by cases h), fun h => ?_⟩, fun h => (by cases h), t3, t4, by omega⟩
              obtain ⟨_, _, q3⟩ := h
              simp only [formA, ha, Bool.and_eq_true, decide_eq_true_eq] at q3
              have := q3.1.2
              omega
            · rw [if_neg h4]
              exact go (by rw [ha]; simp; omega)
          · rw [if_neg h3]
            have : i = 0 := by omega
            subst this
            exact go rfl
      · rw [if_neg h2]
        refine ⟨_, rfl, ?_⟩
        simp only [Tells]
        refine ⟨⟨fun h => (by cases h), fun h => ?_⟩, fun h => (by cases h), by omega, by omega, by omega⟩
        obtain ⟨_, _, q3⟩ := h
        simp only [formA, Bool.and_eq_true] at q3 h2
        exact absurd q3.1.1.1 h2
theorem at2_eq : ∀ (k : Nat) (a : T) (x deep n : Int), a.size < k → a.size ≤ cap → 0 ≤ deep → deep ≤ 7 → 0 ≤ n → n ≤ 60 →
    ∃ r, impl_ordinalAt_2 k a.rows x deep n = some r ∧ Tells r n (n + 1 + nodesL a ≤ 60 ∧ deep + dp a ≤ 6 ∧ formA none a = true) (n + 1 + nodesL a)
  | 0, _, _, _, _, h, _, _, _, _, _ => absurd h (Nat.not_lt_zero _)
  | k + 1, a, x, deep, n, h, hc, h0, h7, n0, n60 => by
    have hl := a.len_size
    simp only [impl_ordinalAt_2, impl_ordinalAt_2_b]
    rw [wid (n := n + 1) (by omega) (by omega)]
    by_cases h1 : 60 < n + 1
    · rw [if_pos h1]
      refine ⟨_, rfl, ?_⟩
      simp only [Tells]
      exact ⟨⟨fun h => (by cases h), fun h => by omega⟩, fun h => (by cases h), by omega, by omega, by omega⟩
    · rw [if_neg h1]
      by_cases h2 : 6 < deep
      · rw [if_pos h2]
        refine ⟨_, rfl, ?_⟩
        simp only [Tells]
        exact ⟨⟨fun h => (by cases h), fun h => by omega⟩, fun h => (by cases h), by omega, by omega, by omega⟩
      · rw [if_neg h2, if_pos (by rw [rows_len]; omega)]
        obtain ⟨r, e, s1, s2, s3, s4, s5⟩ := at2_loop (k := k) (rec_ := impl_ordinalAt_2 k) (a := a) (d1 := x) (deep := deep) (by omega) (by omega) hc (fun e y m he m0 m60 => at2_eq k e y (deep + 1) m (by omega) (by omega) (by omega) (by omega) m0 m60) a 0 (n + 1) (drop_zero a) (by omega) (by omega) (by omega)
        exact ⟨r, e, s1, s2, s3, s4, by omega⟩
theorem at1_loop {k : Nat} {a : T} (hk : a.size < k) (hc : a.size ≤ cap) :
    ∀ (t : T) (i : Nat) (m : Int), drop a i = t → i ≤ a.len → 0 ≤ m → m ≤ 60 → ∃ r : Bool × Int, impl_ordinalAt_l0 k a.rows 0 (fun v => impl_ordinalAt_p3 a.rows v) t.rows i m = some (r.1, a.rows, r.2) ∧ (r.1 = true ↔ m + nodesL t ≤ 60 ∧ dp t ≤ 6 ∧ formA (ahead a i) t = true) ∧ (r.1 = true → r.2 = m + nodesL t)
  | nil, i, m, hdr, hi, h0, h60 => by
    refine ⟨(true, m), rfl, ?_⟩
    simp only [nodesL, dp, formA]
    exact ⟨⟨fun _ => ⟨by omega, by omega, trivial⟩, fun _ => trivial⟩, fun _ => by omega⟩
  | cons e c l, i, m, hdr, hi, h0, h60 => by
    have hs := drop_cons_size hdr
    simp only [rows, impl_ordinalAt_l0, cell_T]
    rw [wid (n := m + 1) (by omega) (by omega)]
    by_cases h1 : 60 < m + 1
    · rw [if_pos h1]
      exact ⟨(false, _), rfl, ⟨fun h => (by cases h), fun h => by simp only [nodesL] at h; omega⟩, fun h => (by cases h)⟩
    · rw [if_neg h1, impl_in_eq, Option.bind_some]
      by_cases h2 : (decide (1 ≤ c) && decide (c ≤ 1000000)) = true
      · rw [if_pos h2, wid (n := 0 + 1) (by omega) (by omega)]
        obtain ⟨r1, e1, t1, t2, t3, t4, t5⟩ := at2_eq k e c (0 + 1) (m + 1) (by omega) (by omega) (by omega) (by omega) (by omega) (by omega)
        rw [e1, Option.bind_some]
        obtain ⟨b1, m1⟩ := r1
        dsimp only at t1 t2 t3 t4 t5 ⊢
        cases b1 with
        | false =>
          rw [if_neg (by simp)]
          refine ⟨(false, _), rfl, ⟨fun h => (by cases h), fun h => ?_⟩, fun h => (by cases h)⟩
          obtain ⟨q1, q2, q3⟩ := h
          simp only [nodesL, dp, formA, Bool.and_eq_true] at q1 q2 q3
          exact t1.2 ⟨by omega, by omega, q3.1.1.2⟩
        | true =>
          obtain ⟨u1, u2, u3⟩ := t1.1 rfl
          obtain rfl := t2 rfl
          rw [if_pos rfl]
          have go : ∀ (hp : (match ahead a i with | none => true | some q => decide (0 < cmpT q e)) = true), ∃ r : Bool × Int, impl_ordinalAt_l0 k a.rows 0 (fun v => impl_ordinalAt_p3 a.rows v) l.rows (i + 1) (m + 1 + 1 + nodesL e) = some (r.1, a.rows, r.2) ∧ (r.1 = true ↔ m + nodesL (cons e c l) ≤ 60 ∧ dp (cons e c l) ≤ 6 ∧ formA (ahead a i) (cons e c l) = true) ∧ (r.1 = true → r.2 = m + nodesL (cons e c l)) := by
            intro hp
            obtain ⟨r, er, s1, s2⟩ := at1_loop hk hc l (i + 1) (m + 1 + 1 + nodesL e) (drop_succ hdr) (drop_lt hdr) (by omega) (by omega)
            refine ⟨r, er, ?_⟩
            rw [ahead_succ hdr] at s1
            simp only [nodesL, dp, formA, Bool.and_eq_true]
            exact ⟨s1.trans ⟨fun q => ⟨by have := q.1; omega, by have := q.2.1; omega, ⟨⟨(by simpa using h2), u3⟩, hp⟩, q.2.2⟩, fun q => ⟨by have := q.1; omega, by have := q.2.1; omega, q.2.2.2⟩⟩, fun q => by rw [s2 q]; omega⟩
          by_cases h3 : (0 : Int) < (i : Int)
          · obtain ⟨q, qc, ql, hq, ha⟩ := ahead_some (t := a) (i := i) (by omega) hi
            have hqs := drop_cons_size hq
            rw [if_pos h3, wid (n := (i : Int) - 1) (by omega) (by have := a.len_size; have : cap = 1099511627776 := rfl; omega), row_T (n := i - 1) (by omega) hq, impl_cmp_eq k q e (by omega) (by omega), Option.bind_some]
            by_cases h4 : cmpT q e ≤ 0
            · rw [if_pos h4]
              refine ⟨(false, _), rfl, ⟨fun h => (by cases h), fun h => ?_⟩, fun h => (by cases h)⟩
              obtain ⟨_, _, q3⟩ := h
              simp only [formA, ha, Bool.and_eq_true, decide_eq_true_eq] at q3
              have := q3.1.2
              omega
            · rw [if_neg h4]
              exact go (by rw [ha]; simp; omega)
          · rw [if_neg h3]
            have : i = 0 := by omega
            subst this
            exact go rfl
      · rw [if_neg h2]
        refine ⟨(false, _), rfl, ⟨fun h => (by cases h), fun h => ?_⟩, fun h => (by cases h)⟩
        obtain ⟨_, _, q3⟩ := h
        simp only [formA, Bool.and_eq_true] at q3 h2
        exact absurd q3.1.1.1 h2
theorem at1_eq (k : Nat) (a : T) (hk : a.size < k) (hc : a.size ≤ cap) : ∃ r : Bool × Int, impl_ordinalAt k a.rows 0 0 = some (r.1, a.rows, r.2) ∧ (r.1 = true ↔ ordP a = true) ∧ (r.1 = true → r.2 = 1 + nodesL a) := by
  have hl := a.len_size
  unfold impl_ordinalAt
  rw [wid (n := 0 + 1) (by omega) (by omega), if_neg (by omega), if_neg (by omega), if_pos (by rw [rows_len]; omega)]
  obtain ⟨r, e, s, v⟩ := at1_loop hk hc a 0 (0 + 1) (drop_zero a) (by omega) (by omega) (by omega)
  refine ⟨r, e, s.trans ?_, fun q => by rw [v q]; omega⟩
  simp only [ordP, Bool.and_eq_true, decide_eq_true_eq, ahead]
  exact ⟨fun q => ⟨⟨by have := q.1; omega, q.2.1⟩, q.2.2⟩, fun q => ⟨by have := q.1.1; omega, q.1.2, q.2⟩⟩
def toldT (t : T) : T × Bool := if ordP t then (t, true) else (nil, false)
/-! ### spec's check -/
theorem left_loop {rec_ : Rw → Int → Int → Option Int} {a : T} {depth : Int} (hd : 0 ≤ depth ∧ depth ≤ 6) (hr : ∀ (e : T) (v : Int), e.size < a.size → 0 < depth → -1 ≤ v → v ≤ 60 → ∃ r, rec_ e.rows (depth - 1) v = some r ∧ -2 ≤ r ∧ r ≤ 60 ∧ (1 + nodesL e ≤ v ∧ dp e ≤ depth - 1 → r = v - 1 - nodesL e) ∧ (¬ (1 + nodesL e ≤ v ∧ dp e ≤ depth - 1) → r < 0)) :
    ∀ (t : T) (v : Int), t.size ≤ a.size → -2 ≤ v → v ≤ 60 → ∃ r, spec_odLeft_l0 rec_ a.rows depth (fun v => some v) t.rows v = some r ∧ -2 ≤ r ∧ r ≤ 60 ∧ (nodesL t ≤ v ∧ dp t ≤ depth → r = v - nodesL t) ∧ (¬ (nodesL t ≤ v ∧ dp t ≤ depth) → r < 0)
  | nil, v, _, v0, v60 => ⟨v, rfl, v0, v60, fun _ => by simp [nodesL], fun h => by simp only [nodesL, dp] at h; omega⟩
  | cons e c l, v, hs, v0, v60 => by
    simp only [size] at hs
    simp only [rows, spec_odLeft_l0, cell_T]
    by_cases h1 : v < 0
    · rw [if_pos h1]
      exact ⟨-1, rfl, by omega, by omega, fun h => by simp only [nodesL] at h; omega, fun _ => by omega⟩
    · rw [if_neg h1]
      by_cases h2 : depth = 0
      · rw [if_pos h2]
        exact ⟨-1, rfl, by omega, by omega, fun h => by simp only [dp] at h; omega, fun _ => by omega⟩
      · rw [if_neg h2, wid (n := depth - 1) (by omega) (by omega), wid (n := v - 1) (by omega) (by omega)]
        obtain ⟨r1, e1, p1, p2, p3, p4⟩ := hr e (v - 1) (by omega) (by omega) (by omega) (by omega)
        rw [e1, Option.bind_some]
        obtain ⟨r, er, q1, q2, q3, q4⟩ := left_loop hd hr l r1 (by omega) p1 p2
        refine ⟨r, er, q1, q2, fun h => ?_, fun h => ?_⟩
        · simp only [nodesL, dp] at h ⊢
          have e2 := p3 ⟨by omega, by omega⟩
          rw [q3 ⟨by omega, by omega⟩, e2]; omega
        · by_cases h3 : 1 + (nodesL e : Int) ≤ v - 1 ∧ dp e ≤ depth - 1
          · have e2 := p3 h3
            refine q4 fun q => h ?_
            simp only [nodesL, dp]
            omega
          · exact q4 fun q => by have := p4 h3; omega
theorem left_eq : ∀ (k : Nat) (a : T) (depth v : Int), a.size < k → a.size ≤ cap → 0 ≤ depth → depth ≤ 6 → -1 ≤ v → v ≤ 60 →
    ∃ r, spec_odLeft k a.rows depth v = some r ∧ -2 ≤ r ∧ r ≤ 60 ∧ (1 + nodesL a ≤ v ∧ dp a ≤ depth → r = v - 1 - nodesL a) ∧ (¬ (1 + nodesL a ≤ v ∧ dp a ≤ depth) → r < 0)
  | 0, _, _, _, h, _, _, _, _, _ => absurd h (Nat.not_lt_zero _)
  | k + 1, a, depth, v, h, hc, d0, d6, v0, v60 => by
    have hl := a.len_size
    simp only [spec_odLeft, spec_odLeft_b]
    rw [if_pos (by rw [rows_len]; omega), wid (n := v - 1) (by omega) (by omega)]
    obtain ⟨r, er, q1, q2, q3, q4⟩ := left_loop (rec_ := spec_odLeft k) (a := a) (depth := depth) ⟨d0, d6⟩ (fun e u he hd u0 u60 => left_eq k e (depth - 1) u (by omega) (by omega) (by omega) (by omega) u0 u60) a (v - 1) (Nat.le_refl _) (by omega) (by omega)
    exact ⟨r, er, q1, q2, fun q => q3 ⟨by omega, q.2⟩, fun q => q4 fun u => q ⟨by omega, u.2⟩⟩
theorem form_loop {k : Nat} {rec_ : Rw → Int → Option Bool} {a : T} {depth : Int} (hd : 0 ≤ depth ∧ depth ≤ 6) (hk : a.size ≤ k) (hc : a.size ≤ cap) (ha : calm a)
    (hr : ∀ e : T, e.size < a.size → calm e → rec_ e.rows (depth - 1) = some (decide ((dp e : Int) ≤ depth - 1) && formA none e)) :
    ∀ (t : T) (i : Nat), drop a i = t → i ≤ a.len → spec_odForm_l0 k rec_ a.rows depth spec_odForm_p3 t.rows i = some (decide ((dp t : Int) ≤ depth) && formA (ahead a i) t)
  | nil, i, hdr, hi => by
    have : decide ((dp nil : Int) ≤ depth) = true := decide_eq_true (by simp only [dp]; omega)
    rw [this]; rfl
  | cons e c l, i, hdr, hi => by
    have hs := drop_cons_size hdr
    have hca := calm_drop ha (i := i)
    rw [hdr] at hca
    simp only [rows, spec_odForm_l0, cell_T, l1In_eq, Option.bind_some]
    by_cases h2 : (decide (1 ≤ c) && decide (c ≤ 1000000)) = true
    · rw [if_pos h2, wid (n := depth - 1) (by omega) (by omega), hr e (by omega) hca.1, Option.bind_some]
      by_cases h3 : (decide ((dp e : Int) ≤ depth - 1) && formA none e) = true
      · rw [if_pos h3]
        simp only [Bool.and_eq_true, decide_eq_true_eq] at h3
        have go : ∀ (hp : (match ahead a i with | none => true | some q => decide (0 < cmpT q e)) = true), spec_odForm_l0 k rec_ a.rows depth spec_odForm_p3 l.rows (i + 1) = some (decide ((dp (cons e c l) : Int) ≤ depth) && formA (ahead a i) (cons e c l)) := by
          intro hp
          rw [form_loop hd hk hc ha hr l (i + 1) (drop_succ hdr) (drop_lt hdr), ahead_succ hdr]
          have e1 : decide ((dp (cons e c l) : Int) ≤ depth) = decide ((dp l : Int) ≤ depth) := by simp only [dp]; congr 1; apply propext; omega
          have h6 : formA (ahead a i) (cons e c l) = formA (some e) l := by
            simp only [formA, h2, h3.2, Bool.true_and]
            cases hq : ahead a i with
            | none => simp
            | some q => rw [hq] at hp; simp only at hp; simp [hp]
          rw [e1, h6]
        by_cases h4 : (0 : Int) < (i : Int)
        · obtain ⟨q, qc, ql, hq, ha'⟩ := ahead_some (t := a) (i := i) (by omega) hi
          have hqs := drop_cons_size hq
          have hcq := calm_drop ha (i := i - 1)
          rw [hq] at hcq
          rw [if_pos h4, wid (n := (i : Int) - 1) (by omega) (by have := a.len_size; have : cap = 1099511627776 := rfl; omega), row_T (n := i - 1) (by omega) hq, odCmp_eq k q e hcq.1 hca.1 (by omega) (by omega), Option.bind_some]
          by_cases h5 : cmpT q e ≤ 0
          · rw [if_pos h5]
            have : decide (0 < cmpT q e) = false := by simpa using h5
            simp [formA, ha', this]
          · rw [if_neg h5]
            exact go (by rw [ha']; simp; omega)
        · rw [if_neg h4]
          have : i = 0 := by omega
          subst this
          exact go rfl
      · rw [if_neg h3]
        have : (decide ((dp (cons e c l) : Int) ≤ depth) && formA (ahead a i) (cons e c l)) = false := by
          refine Bool.eq_false_iff.2 fun hx => h3 ?_
          rw [Bool.and_eq_true, decide_eq_true_eq] at hx ⊢
          obtain ⟨x1, x2⟩ := hx
          simp only [dp] at x1
          simp only [formA, Bool.and_eq_true] at x2
          exact ⟨by omega, x2.1.1.2⟩
        rw [this]
    · rw [if_neg h2]
      have : formA (ahead a i) (cons e c l) = false := by
        simp only [formA]
        cases hx : (decide (1 ≤ c) && decide (c ≤ 1000000)) with
        | true => exact absurd hx h2
        | false => simp
      rw [this, Bool.and_false]
theorem form_eq : ∀ (k : Nat) (a : T) (depth : Int), a.size < k → a.size ≤ cap → calm a → -1 ≤ depth → depth ≤ 6 → spec_odForm k a.rows depth = some (decide ((dp a : Int) ≤ depth) && formA none a)
  | 0, _, _, h, _, _, _, _ => absurd h (Nat.not_lt_zero _)
  | k + 1, a, depth, h, hc, ha, d0, d6 => by
    have hl := a.len_size
    simp only [spec_odForm, spec_odForm_b]
    by_cases h1 : depth < 0
    · rw [if_pos h1]
      have : decide ((dp a : Int) ≤ depth) = false := by simp; omega
      rw [this, Bool.false_and]
    · rw [if_neg h1, if_pos (by rw [rows_len]; omega), form_loop (a := a) (by omega) (by omega) hc ha (fun e he hce => form_eq k e (depth - 1) (by omega) (by omega) hce (by omega) (by omega)) a 0 (drop_zero a) (by omega)]
      rfl
theorem odGood_eq (k : Nat) (a : T) (h : a.size < k) (hc : a.size ≤ cap) (ha : calm a) : spec_odGood k a.rows = some (ordP a) := by
  unfold spec_odGood
  obtain ⟨r, er, q1, q2, q3, q4⟩ := left_eq k a 6 60 h hc (by omega) (by omega) (by omega) (by omega)
  rw [er, Option.bind_some]
  by_cases h1 : 1 + nodesL a ≤ 60 ∧ dp a ≤ 6
  · have := q3 ⟨by omega, by omega⟩
    rw [if_pos (by omega), form_eq k a 6 h hc ha (by omega) (by omega), Option.bind_some]
    have h2 : decide ((dp a : Int) ≤ 6) = true := by simp; omega
    simp only [ordP, h2, h1.1, h1.2, decide_true, Bool.true_and]
    cases formA none a <;> rfl
  · have := q4 (by omega)
    rw [if_neg (by omega)]
    have : ordP a = false := by
      cases hx : ordP a with
      | false => rfl
      | true => simp only [ordP, Bool.and_eq_true, decide_eq_true_eq] at hx; exact absurd hx.1 h1
    rw [this]
end Go.Proofs.Try

namespace Go.Proofs.Try
open Go Go.AX T
theorem fr_snocLen (l e : T) (c : Int) : (app l (cons e c nil)).len = l.len + 1 := by rw [len_app]; rfl
theorem toOrd_loop {rec_ : Rw → Option Rw} {a : T} {K : Rw → Option Rw} (hr : ∀ e : T, e.size < a.size → rec_ e.rows = some e.rows) :
    ∀ (t : T) (i : Nat) (done : T), t.size ≤ a.size → done.len = i → laws_toOrdinalTermS_l0 rec_ a.rows K t.rows i (done.rows ++ List.replicate t.len [D.sl ([]), D.int .i64 0]) = K (app done t).rows
  | nil, i, done, _, hd => by
    simp only [rows, laws_toOrdinalTermS_l0, len, List.replicate_zero, List.append_nil, rows_app]
  | cons e c l, i, done, hs, hd => by
    simp only [size] at hs
    simp only [rows, laws_toOrdinalTermS_l0, cell_T, laws_toOrdinalTerm, len]
    rw [hr e (by omega), Option.bind_some]
    have hlen : (done.rows ++ List.replicate (l.len + 1) [D.sl ([]), D.int .i64 0]).length = i + (l.len + 1) := by rw [List.length_append, rows_len, hd, List.length_replicate]
    rw [Option.bind_some, if_pos ⟨by omega, by rw [hlen]; omega⟩]
    have hrow : ∀ {α : Type} (K : Rw → Int → Option α), row_si (done.rows ++ List.replicate (l.len + 1) [D.sl ([]), D.int .i64 0]) (i : Int) K = K [] 0 := by
      intro α K
      unfold row_si
      rw [if_pos (by omega), Int.toNat_natCast, List.getElem?_append_right (by rw [rows_len]; omega), rows_len, hd, Nat.sub_self, List.replicate_succ]
      rfl
    rw [hrow]
    have hset : (done.rows ++ List.replicate (l.len + 1) [D.sl ([]), D.int .i64 0]).set (i : Int).toNat [D.sl e.rows, D.int .i64 c] = (app done (cons e c nil)).rows ++ List.replicate l.len [D.sl ([]), D.int .i64 0] := by
      rw [Int.toNat_natCast, List.set_append_right (h := by rw [rows_len]; omega), rows_len, hd, Nat.sub_self, List.replicate_succ, rows_app]
      simp [rows]
    rw [hset, toOrd_loop hr l (i + 1) (app done (cons e c nil)) (by omega) (by rw [fr_snocLen, hd]), app_assoc]
    rfl
theorem toOrd_eq : ∀ (k : Nat) (a : T), a.size < k → a.size ≤ cap → laws_toOrdinal k a.rows = some a.rows
  | 0, _, h, _ => absurd h (Nat.not_lt_zero _)
  | k + 1, a, h, hc => by
    have h3 : cap = 1099511627776 := rfl
    have hl := a.len_size
    simp only [laws_toOrdinal, laws_toOrdinal_b, laws_toOrdinalTermS]
    rw [if_pos (by rw [lenI]; omega), if_pos (by rw [rows_len]; omega), lenI, Int.toNat_natCast]
    have := toOrd_loop (rec_ := laws_toOrdinal k) (a := a) (K := fun v29 => some v29) (fun e he => toOrd_eq k e (by omega) (by omega)) a 0 nil (Nat.le_refl _) rfl
    simp only [rows, List.nil_append, app] at this
    rw [this]; rfl
theorem eqOrd_loop {rec_ : Rw → Rw → Option Bool} {a : T} (hr : ∀ e : T, e.size < a.size → rec_ e.rows e.rows = some true) : ∀ (t : T) (i : Nat), drop a i = t → laws_eqOrdinalTermS_l0 rec_ a.rows a.rows (some true) t.rows i = some true
  | nil, i, _ => rfl
  | cons e c l, i, hd => by
    have hs := drop_cons_size hd
    simp only [rows, laws_eqOrdinalTermS_l0, cell_T, laws_eqOrdinalTerm]
    rw [row_T rfl hd, hr e (by omega), Option.bind_some, if_pos rfl, if_pos rfl, Option.bind_some, if_pos rfl]
    exact eqOrd_loop hr l (i + 1) (drop_succ hd)
theorem eqOrd_refl : ∀ (k : Nat) (a : T), a.size < k → a.size ≤ cap → laws_eqOrdinal k a.rows a.rows = some true
  | 0, _, h, _ => absurd h (Nat.not_lt_zero _)
  | k + 1, a, h, hc => by
    have hl := a.len_size
    simp only [laws_eqOrdinal, laws_eqOrdinal_b, laws_eqOrdinalTermS]
    rw [if_pos True.intro, if_pos (by rw [rows_len]; omega), eqOrd_loop (a := a) (fun e he => eqOrd_refl k e (by omega) (by omega)) a 0 (drop_zero a)]
    rfl
/-- Slices no longer than a machine has. -/
def fitT : T → Prop
  | nil => True
  | cons e c l => fitT e ∧ (e.len : Int) ≤ 9223372036854775807 ∧ fitT l
theorem sz_loop {rec_ : Rw → Int → Option Int} {a : T} {K : Int → Option Int} (hr : ∀ (e : T) (v : Int), e.size < a.size → fitT e → (e.len : Int) ≤ 9223372036854775807 → 0 ≤ v → v ≤ 1048576 → ∃ r : Int, rec_ e.rows v = some r ∧ r ≤ v ∧ -1 ≤ r ∧ (0 ≤ r → r + e.size ≤ v)) :
    ∀ (t : T) (v : Int), t.size ≤ a.size → fitT t → 0 ≤ v → v ≤ 1048576 → (laws_szOrdinalTermS_l0 rec_ a.rows K t.rows v = some (-1)) ∨ ∃ r : Int, laws_szOrdinalTermS_l0 rec_ a.rows K t.rows v = K r ∧ 0 ≤ r ∧ r + t.size ≤ v + t.len
  | nil, v, _, _, h0, h1 => Or.inr ⟨v, rfl, h0, by simp [size, len]⟩
  | cons e c l, v, hs, hf, h0, h1 => by
    simp only [size] at hs
    obtain ⟨r, e1, q1, q2, q3⟩ := hr e v (by omega) hf.1 hf.2.1 h0 h1
    simp only [rows, laws_szOrdinalTermS_l0, cell_T, laws_szOrdinalTerm]
    rw [e1, Option.bind_some]
    by_cases g : r < 0
    · left; rw [if_pos g, Option.bind_some, if_pos (by omega)]
    · rw [if_neg g, Option.bind_some, if_neg g]
      rcases sz_loop hr l r (by omega) hf.2.2 (by omega) (by omega) with h | ⟨u, h, p1, p2⟩
      · left; exact h
      · right; exact ⟨u, h, p1, by simp only [size, len]; omega⟩
theorem sz_eq : ∀ (k : Nat) (a : T) (v : Int), a.size < k → fitT a → (a.len : Int) ≤ 9223372036854775807 → 0 ≤ v → v ≤ 1048576 → ∃ r : Int, laws_szOrdinal k a.rows v = some r ∧ r ≤ v ∧ -1 ≤ r ∧ (0 ≤ r → r + a.size ≤ v)
  | 0, _, _, h, _, _, _, _ => absurd h (Nat.not_lt_zero _)
  | k + 1, a, v, h, hf, hl, h0, h1 => by
    have h3 : cap = 1099511627776 := rfl
    simp only [laws_szOrdinal, laws_szOrdinal_b, laws_szOrdinalTermS]
    have e1 : IntKind.i64.wrap (v - (a.rows.length : Int)) = v - (a.len : Int) := by rw [lenI, wid (by omega) (by omega)]
    rw [e1]
    by_cases g : v - (a.len : Int) < 0
    · rw [if_pos g, Option.bind_some, if_pos (by omega)]
      exact ⟨-1, rfl, by omega, by omega, fun h => by omega⟩
    · rw [if_neg g, if_pos (by rw [rows_len]; omega)]
      rcases sz_loop (rec_ := laws_szOrdinal k) (a := a) (K := fun v22 => some v22) (fun e v he hf hl h0 h1 => sz_eq k e v (by omega) hf hl h0 h1) a (v - (a.len : Int)) (Nat.le_refl _) hf (by omega) (by omega) with q | ⟨r, q, p1, p2⟩
      · rw [q, Option.bind_some, if_pos (by omega)]
        exact ⟨-1, rfl, by omega, by omega, fun h => by omega⟩
      · rw [q, Option.bind_some, if_neg (by omega)]
        exact ⟨r, rfl, by omega, by omega, fun _ => by omega⟩
end Go.Proofs.Try

namespace Go.Proofs.Try
open Go Go.AX T
theorem fr_drop_app (l r : T) : drop (app l r) l.len = r := by
  induction l with
  | nil => simp [app, len]
  | cons e c l _ ih => exact ih
def mkT : T → Int → T
  | nil, _ => nil
  | cons e _ l, k => cons (mkT e k) (k + size e) (mkT l (k + size e + 1))
theorem mkT_len (t : T) (k : Int) : (mkT t k).len = t.len := by
  induction t generalizing k with
  | nil => rfl
  | cons e c l _ ih => simp [mkT, len, ih]
theorem mkT_size (t : T) (k : Int) : (mkT t k).size = t.size := by
  induction t generalizing k with
  | nil => rfl
  | cons e c l ihe ih => simp [mkT, size, ihe, ih]
theorem set_rows (l e e' r : T) (c c' : Int) : (app l (cons e c r)).rows.set l.len [D.sl e'.rows, D.int .i64 c'] = (app l (cons e' c' r)).rows := by
  rw [rows_app, rows_app, ← rows_len l, List.set_append_right (h := Nat.le_refl _), Nat.sub_self]; rfl
end Go.Proofs.Try

namespace Go.Proofs.Try
open Go Go.AX T
abbrev w (n : Int) : Int := IntKind.i64.wrap n
theorem drop_app (l r : T) : drop (app l r) l.len = r := by
  induction l with
  | nil => simp [app, len]
  | cons e c l _ ih => exact ih
theorem T.snoc (t : T) : t = nil ∨ ∃ l x c, t = app l (cons x c nil) := by
  induction t with
  | nil => exact .inl rfl
  | cons e c l _ ih =>
    rcases ih with rfl | ⟨l', x, d, rfl⟩
    · exact .inr ⟨nil, e, c, rfl⟩
    · exact .inr ⟨cons e c l', x, d, rfl⟩
theorem calm_app {a b : T} : calm (app a b) ↔ calm a ∧ calm b := by
  induction a with
  | nil => simp [app, calm]
  | cons e c l _ ih => simp only [app, calm, ih, and_assoc]
/-! ### impl's sum -/
def goP : T → T → Int → T → T
  | nil, f, d, m => cons f d m
  | cons e c l, f, d, m => if cmpT e f = 1 then cons e c (goP l f d m) else if cmpT e f = 0 then cons e (w (c + d)) m else goP l f d m
def plusT : T → T → T
  | a, nil => a
  | a, cons f d m => goP a f d m
theorem goP_size (a f : T) (d : Int) (m : T) : (goP a f d m).size ≤ a.size + f.size + m.size + 1 := by
  induction a with
  | nil => simp [goP, size]
  | cons e c l _ ih =>
    simp only [goP]
    split
    · simp only [size]; omega
    · split
      · simp only [size]; omega
      · simp only [size]; omega
theorem plusT_size (a b : T) : (plusT a b).size ≤ a.size + b.size := by
  cases b with
  | nil => simp [plusT]
  | cons f d m => simp only [plusT, size]; have := goP_size a f d m; omega
theorem impl_isZero_eq (t : T) : impl_isZero t.rows = some (match t with | nil => true | cons _ _ _ => false) := by
  unfold impl_isZero
  cases t with
  | nil => rfl
  | cons e c l => rw [if_neg (by rw [lenI]; simp only [len]; omega)]
theorem plus_loop {k : Nat} {a b f m : T} {d : Int} (hb : b = cons f d m) (hk : a.size < k) (hc : a.size + b.size + 1 ≤ cap) : ∀ (t acc : T), t.size ≤ a.size → acc.len + t.len ≤ a.len →
    impl_plus_l0 k a.rows b.rows (fun v => impl_plus_p4 b.rows v) t.rows acc.rows = some (app acc (goP t f d m)).rows
  | nil, acc, _, hl => by
    have h1 := a.len_size
    have h2 := b.len_size
    have h3 : cap = 1099511627776 := rfl
    simp only [len] at hl
    show impl_plus_p4 b.rows acc.rows = _
    unfold impl_plus_p4
    rw [if_pos ⟨by rw [rows_len, rows_len]; omega, rowsWide _⟩, rows_app, hb]; rfl
  | cons e c l, acc, hs, hl => by
    have h1 := a.len_size
    have h2 := b.len_size
    have h3 : cap = 1099511627776 := rfl
    have h4 : b.len = m.len + 1 := by rw [hb]; rfl
    simp only [size] at hs
    simp only [len] at hl
    have hq : drop b 0 = cons f d m := by rw [hb]; rfl
    simp only [rows, impl_plus_l0, cell_T]
    rw [row_T (t := b) (i := 0) (n := 0) rfl hq, impl_cmp_eq k e f (by omega) (by omega), Option.bind_some]
    by_cases g1 : cmpT e f = 1
    · rw [if_pos g1, if_pos (by rw [rows_len]; omega)]
      have e1 : acc.rows ++ [[D.sl e.rows, D.int .i64 c]] = (app acc (cons e c nil)).rows := by rw [rows_app]; rfl
      have := plus_loop hb hk hc l (app acc (cons e c nil)) (by omega) (by rw [len_app]; simp only [len]; omega)
      rw [e1, this, app_assoc]
      simp [goP, g1, app]
    · rw [if_neg g1]
      by_cases g2 : cmpT e f = 0
      · rw [if_pos g2, if_pos (by rw [rows_len]; omega), if_pos ⟨by omega, by rw [lenI]; omega, rowsWide b⟩]
        have e3 : b.rows.drop (Int.toNat 1) = m.rows := by rw [hb]; rfl
        rw [e3, if_pos ⟨by simp only [List.length_append, rows_len, List.length_cons, List.length_nil]; omega, rowsWide m⟩]
        have g1' : ¬ (0 : Int) = 1 := by omega
        simp only [goP, g2, if_neg g1', if_true, rows_app, rows]
        rw [List.append_assoc]; rfl
      · rw [if_neg g2]
        have := plus_loop hb hk hc l acc (by omega) (by omega)
        rw [this]
        simp [goP, g1, g2]
theorem plus_eq (k : Nat) (a b : T) (hk : a.size < k) (hc : a.size + b.size + 1 ≤ cap) : impl_plus k a.rows b.rows = some (plusT a b).rows := by
  unfold impl_plus
  have h1 := a.len_size
  rw [impl_isZero_eq, Option.bind_some]
  cases b with
  | nil => rfl
  | cons f d m =>
    simp only
    rw [if_neg (by simp)]
    unfold impl_plus_p2
    rw [if_pos (by rw [rows_len]; omega)]
    have := plus_loop (b := cons f d m) rfl hk hc a nil (Nat.le_refl _) (by simp [len])
    exact this
theorem calm_less {a b : T} (h : ordP a = true) : True := trivial
theorem form_calm {p : Option T} {t : T} (h : formA p t = true) : calm t := by
  induction t generalizing p with
  | nil => trivial
  | cons e c l ihe ihl =>
    simp only [formA, Bool.and_eq_true, decide_eq_true_eq] at h
    obtain ⟨⟨⟨⟨h1, h2⟩, h3⟩, _⟩, h5⟩ := h
    exact ⟨ihe h3, by omega, ihl h5⟩
theorem ordP_form {t : T} (h : ordP t = true) : formA none t = true := by
  simp only [ordP, Bool.and_eq_true] at h; exact h.2
theorem form_any {p : Option T} {t : T} (h : formA p t = true) : formA none t = true := by
  cases t with
  | nil => rfl
  | cons e c l =>
    simp only [formA, Bool.and_eq_true] at h ⊢
    exact ⟨⟨⟨h.1.1.1, h.1.1.2⟩, trivial⟩, h.2⟩
end Go.Proofs.Try

namespace Go.Proofs.Try
open Go Go.AX T
/-- Without the terms at the end that are less than w^e. -/
def popT : T → T → T
  | nil, _ => nil
  | cons x c l, e => match popT l e with
    | nil => if cmpT x e < 0 then nil else cons x c nil
    | cons y d m => cons x c (cons y d m)
/-- A term added at the end. -/
def addL : T → T → Int → T
  | nil, e, d => cons e d nil
  | cons x c l, e, d => match l with
    | nil => if cmpT x e = 0 then cons x (w (c + d)) nil else cons x c (cons e d nil)
    | cons _ _ _ => cons x c (addL l e d)
def splus : T → T → T
  | a, nil => a
  | a, cons f d m => splus (addL (popT a f) f d) m
theorem popT_snoc (l x : T) (c : Int) (e : T) : popT (app l (cons x c nil)) e = if cmpT x e < 0 then popT l e else app l (cons x c nil) := by
  induction l with
  | nil => simp [app, popT]
  | cons y d l _ ih =>
    by_cases h : cmpT x e < 0
    · rw [if_pos h] at ih ⊢
      simp only [app, popT]
      rw [ih]
    · rw [if_neg h] at ih ⊢
      simp only [app, popT]
      rw [ih]
      cases l <;> simp [app]
theorem addL_snoc (l x : T) (c : Int) (e : T) (d : Int) : addL (app l (cons x c nil)) e d = if cmpT x e = 0 then app l (cons x (w (c + d)) nil) else app (app l (cons x c nil)) (cons e d nil) := by
  induction l with
  | nil => simp only [app, addL]
  | cons y k l _ ih =>
    have : app l (cons x c nil) ≠ nil := by cases l <;> simp [app]
    simp only [app, addL]
    split
    · rename_i h; exact absurd h this
    · rename_i h
      rw [ih]
      split <;> rfl
theorem popT_size (a e : T) : (popT a e).size ≤ a.size := by
  induction a with
  | nil => simp [popT, size]
  | cons x c l _ ih =>
    simp only [popT]
    split
    · split <;> simp [size]
    · rename_i h; rw [h] at ih; simp only [size] at ih ⊢; omega
theorem addL_size (a e : T) (d : Int) : (addL a e d).size ≤ a.size + e.size + 1 := by
  induction a with
  | nil => simp [addL, size]
  | cons x c l _ ih =>
    simp only [addL]
    split
    · split <;> simp [size] <;> omega
    · simp only [size] at ih ⊢; omega
theorem splus_size (a b : T) : (splus a b).size ≤ a.size + b.size := by
  induction b generalizing a with
  | nil => simp [splus, size]
  | cons f d m _ ih =>
    have h1 := ih (addL (popT a f) f d)
    have h2 := addL_size (popT a f) f d
    have h3 := popT_size a f
    simp only [splus, size] at *; omega
/-- Coefficients within a bound. -/
def sm (B : Int) : T → Prop
  | nil => True
  | cons e c l => sm B e ∧ (-B ≤ c ∧ c ≤ B) ∧ sm B l
theorem sm_calm {B : Int} {t : T} (h : sm B t) (hB : B ≤ 1000000000000000) : calm t := by
  induction t with
  | nil => trivial
  | cons e c l ihe ihl => exact ⟨ihe h.1, by have := h.2.1; omega, ihl h.2.2⟩
theorem sm_mono {B C : Int} {t : T} (h : sm B t) (hB : B ≤ C) : sm C t := by
  induction t with
  | nil => trivial
  | cons e c l ihe ihl => exact ⟨ihe h.1, by have := h.2.1; omega, ihl h.2.2⟩
theorem sm_app {B : Int} {a b : T} : sm B (app a b) ↔ sm B a ∧ sm B b := by
  induction a with
  | nil => simp [app, sm]
  | cons e c l _ ih => simp only [app, sm, ih, and_assoc]
theorem sm_pop {B : Int} {a e : T} (h : sm B a) : sm B (popT a e) := by
  induction a with
  | nil => trivial
  | cons x c l _ ih =>
    have ih := ih h.2.2
    simp only [popT]
    split
    · split
      · trivial
      · exact ⟨h.1, h.2.1, trivial⟩
    · rename_i hq; rw [hq] at ih; exact ⟨h.1, h.2.1, ih⟩
theorem sm_addL {B C : Int} {a e : T} {d : Int} (h : sm B a) (he : sm C e) (hd : -C ≤ d ∧ d ≤ C) (hB : 0 ≤ B ∧ 0 ≤ C ∧ B + C ≤ 1000000000000000) : sm (B + C) (addL a e d) := by
  induction a with
  | nil => exact ⟨sm_mono he (by omega), by omega, trivial⟩
  | cons x c l _ ih =>
    obtain ⟨h1, h2, h3⟩ := h
    simp only [addL]
    split
    · split
      · refine ⟨sm_mono h1 (by omega), ?_, trivial⟩
        show _ ≤ w (c + d) ∧ w (c + d) ≤ _
        rw [show w (c + d) = c + d from wid (by omega) (by omega)]; omega
      · exact ⟨sm_mono h1 (by omega), by omega, sm_mono he (by omega), by omega, trivial⟩
    · exact ⟨sm_mono h1 (by omega), by omega, ih h3⟩
theorem snoc_last (l x : T) (c : Int) : drop (app l (cons x c nil)) l.len = cons x c nil := drop_app l _
/-! ### right ones -/
theorem form_sm {p : Option T} {t : T} (h : formA p t = true) : sm 1000000 t := by
  induction t generalizing p with
  | nil => trivial
  | cons e c l ihe ihl =>
    simp only [formA, Bool.and_eq_true, decide_eq_true_eq] at h
    obtain ⟨⟨⟨⟨h1, h2⟩, h3⟩, _⟩, h5⟩ := h
    exact ⟨ihe h3, by omega, ihl h5⟩
/-- Exponents that fall, from below p on. -/
def falls : Option T → T → Prop
  | _, nil => True
  | p, cons e _ l => (∀ q, p = some q → 0 < cmpT q e) ∧ falls (some e) l
theorem form_falls {p : Option T} {t : T} (h : formA p t = true) : falls p t := by
  induction t generalizing p with
  | nil => trivial
  | cons e c l _ ihl =>
    simp only [formA, Bool.and_eq_true, decide_eq_true_eq] at h
    refine ⟨fun q hq => ?_, ihl h.2⟩
    subst hq
    simpa using h.1.2
theorem cmp_lt_of {a b c : T} (h1 : 0 < cmpT a b) (h2 : cmpT b c = 1 ∨ cmpT b c = 0) : 0 < cmpT a c := by
  rcases h2 with h2 | h2
  · have q1 : cmpT b a < 0 := by rw [cmpT_neg a b]; omega
    have q2 : cmpT c b < 0 := by rw [cmpT_neg b c]; omega
    have := cmpT_trans q2 q1
    rw [cmpT_neg c a]; omega
  · obtain rfl := cmpT_eq.1 h2; exact h1
/-- In falling terms, those ahead of a greater one are greater. -/
theorem goP_pop {a f : T} {d : Int} : ∀ {p : Option T}, falls p a → addL (popT a f) f d = goP a f d nil
  | p, h => by
    induction a generalizing p with
    | nil => rfl
    | cons e c l _ ih =>
      have h2 := h.2
      have key : ∀ {x : T}, falls (some x) l → cmpT x f ≤ 0 → popT l f = nil := by
        intro x hx hxf
        clear ih h h2
        induction l generalizing x with
        | nil => rfl
        | cons y k m _ ihm =>
          have hy := hx.1 x rfl
          have hyf : cmpT y f < 0 := by
            rcases cmpT_range x f with q | q | q
            · have q2 : cmpT y x < 0 := by rw [cmpT_neg x y]; omega
              exact cmpT_trans q2 (by omega)
            · obtain rfl := cmpT_eq.1 q
              rw [cmpT_neg x y]; omega
            · omega
          simp only [popT, ihm hx.2 (by omega), if_pos hyf]
      have ih := ih _ h2
      simp only [popT, goP]
      rcases cmpT_range e f with q | q | q
      · rw [key h2 (by omega)]
        have e1 : ¬ cmpT e f = 1 := by omega
        have e2 : ¬ cmpT e f = 0 := by omega
        simp only [if_neg e1, if_neg e2, if_pos (by omega : cmpT e f < 0)]
        rw [← ih, key h2 (by omega)]
      · rw [key h2 (by omega)]
        have e1 : ¬ cmpT e f = 1 := by omega
        simp only [if_neg e1, if_pos q, if_neg (by omega : ¬ cmpT e f < 0), addL]
      · simp only [if_pos q]
        rw [← ih]
        cases hq : popT l f with
        | nil =>
          simp only [if_neg (by omega : ¬ cmpT e f < 0), addL, if_neg (by omega : ¬ cmpT e f = 0)]
        | cons y k m => simp only [addL]
theorem goP_app {a f : T} {d : Int} {m : T} : goP a f d m = app (goP a f d nil) m := by
  induction a with
  | nil => rfl
  | cons e c l _ ih =>
    simp only [goP]
    split
    · simp only [app, ih]
    · split
      · rfl
      · exact ih
/-- What is less than all ahead of it is only added at the end. -/
theorem splus_end {a x : T} {c : Int} : ∀ {m : T}, falls (some x) m → splus (app a (cons x c nil)) m = app (app a (cons x c nil)) m
  | nil, _ => by simp [splus]
  | cons g k m, h => by
    have h1 := h.1 x rfl
    simp only [splus]
    rw [popT_snoc, if_neg (by omega), addL_snoc, if_neg (by omega)]
    rw [splus_end (a := app a (cons x c nil)) h.2, app_assoc (app a (cons x c nil))]
    rfl
theorem goP_snoc {a f : T} {d : Int} : ∃ l c, goP a f d nil = app l (cons f c nil) := by
  induction a with
  | nil => exact ⟨nil, d, rfl⟩
  | cons e c l _ ih =>
    obtain ⟨l', c', h⟩ := ih
    simp only [goP]
    split
    · exact ⟨cons e c l', c', by rw [h]; rfl⟩
    · split
      · rename_i q; obtain rfl := cmpT_eq.1 q; exact ⟨nil, _, rfl⟩
      · exact ⟨l', c', h⟩
theorem splus_plus {a b : T} (ha : falls none a) (hb : falls none b) : splus a b = plusT a b := by
  cases b with
  | nil => cases a <;> rfl
  | cons f d m =>
    simp only [splus, plusT]
    rw [goP_pop ha, goP_app (m := m)]
    obtain ⟨l, c, h⟩ := goP_snoc (a := a) (f := f) (d := d)
    rw [h]
    exact splus_end hb.2
theorem plusT_sm {B C : Int} {a b : T} (ha : sm B a) (hb : sm C b) (hB : 0 ≤ B ∧ 0 ≤ C ∧ B + C ≤ 1000000000000000) : sm (B + C) (plusT a b) := by
  cases b with
  | nil => exact sm_mono ha (by omega)
  | cons f d m =>
    simp only [plusT]
    have hm : sm (B + C) m := sm_mono hb.2.2 (by omega)
    induction a with
    | nil => exact ⟨sm_mono hb.1 (by omega), by have := hb.2.1; omega, hm⟩
    | cons e c l _ ih =>
      have h1 := ha.2.1
      have h2 := hb.2.1
      simp only [goP]
      split
      · exact ⟨sm_mono ha.1 (by omega), by omega, ih ha.2.2⟩
      · split
        · refine ⟨sm_mono ha.1 (by omega), ?_, hm⟩
          show _ ≤ w (c + d) ∧ w (c + d) ≤ _
          rw [show w (c + d) = c + d from wid (by omega) (by omega)]; omega
        · exact ih ha.2.2
def intT (n : Int) : T := if n = 0 then nil else cons nil n nil
theorem intT_size (n : Int) : (intT n).size ≤ 1 := by unfold intT; split <;> simp [size]
theorem intT_sm {n B : Int} (h : -B ≤ n ∧ n ≤ B) : sm B (intT n) := by
  unfold intT; split
  · trivial
  · exact ⟨trivial, h, trivial⟩
theorem snocRows (l e : T) (c : Int) : l.rows ++ [[D.sl e.rows, D.int .i64 c]] = (app l (cons e c nil)).rows := by rw [rows_app]; rfl
end Go.Proofs.Try

namespace Go.Proofs.Try
open Go Go.AX T
theorem form_loop_all {k : Nat} {rec_ : Rw → Int → Option Bool} {a : T} {depth : Int} (hd : 0 ≤ depth ∧ depth ≤ 6) (hk : a.size ≤ k) (hc : a.size ≤ cap)
    (hr : ∀ e : T, e.size < a.size → rec_ e.rows (depth - 1) = some (decide ((dp e : Int) ≤ depth - 1) && formA none e)) :
    ∀ (t : T) (i : Nat), drop a i = t → i ≤ a.len → (∀ q, ahead a i = some q → calm q) → spec_odForm_l0 k rec_ a.rows depth spec_odForm_p3 t.rows i = some (decide ((dp t : Int) ≤ depth) && formA (ahead a i) t)
  | nil, i, hdr, hi, _ => by
    have : decide ((dp nil : Int) ≤ depth) = true := decide_eq_true (by simp only [dp]; omega)
    rw [this]; rfl
  | cons e c l, i, hdr, hi, hcalm => by
    have hs := drop_cons_size hdr
    simp only [rows, spec_odForm_l0, cell_T, l1In_eq, Option.bind_some]
    by_cases h2 : (decide (1 ≤ c) && decide (c ≤ 1000000)) = true
    · rw [if_pos h2, wid (n := depth - 1) (by omega) (by omega), hr e (by omega), Option.bind_some]
      by_cases h3 : (decide ((dp e : Int) ≤ depth - 1) && formA none e) = true
      · rw [if_pos h3]
        simp only [Bool.and_eq_true, decide_eq_true_eq] at h3
        have hce := form_calm h3.2
        have go : ∀ (hp : (match ahead a i with | none => true | some q => decide (0 < cmpT q e)) = true), spec_odForm_l0 k rec_ a.rows depth spec_odForm_p3 l.rows (i + 1) = some (decide ((dp (cons e c l) : Int) ≤ depth) && formA (ahead a i) (cons e c l)) := by
          intro hp
          rw [form_loop_all hd hk hc hr l (i + 1) (drop_succ hdr) (drop_lt hdr) (by rw [ahead_succ hdr]; intro q hq; cases hq; exact hce), ahead_succ hdr]
          have e1 : decide ((dp (cons e c l) : Int) ≤ depth) = decide ((dp l : Int) ≤ depth) := by simp only [dp]; congr 1; apply propext; omega
          have h6 : formA (ahead a i) (cons e c l) = formA (some e) l := by
            simp only [formA, h2, h3.2, Bool.true_and]
            cases hq : ahead a i with
            | none => simp
            | some q => rw [hq] at hp; simp only at hp; simp [hp]
          rw [e1, h6]
        by_cases h4 : (0 : Int) < (i : Int)
        · obtain ⟨q, qc, ql, hq, ha'⟩ := ahead_some (t := a) (i := i) (by omega) hi
          have hqs := drop_cons_size hq
          have hcq := hcalm q ha'
          rw [if_pos h4, wid (n := (i : Int) - 1) (by omega) (by have := a.len_size; have : cap = 1099511627776 := rfl; omega), row_T (n := i - 1) (by omega) hq, odCmp_eq k q e hcq hce (by omega) (by omega), Option.bind_some]
          by_cases h5 : cmpT q e ≤ 0
          · rw [if_pos h5]
            have : decide (0 < cmpT q e) = false := by simpa using h5
            simp [formA, ha', this]
          · rw [if_neg h5]
            exact go (by rw [ha']; simp; omega)
        · rw [if_neg h4]
          have : i = 0 := by omega
          subst this
          exact go rfl
      · rw [if_neg h3]
        have : (decide ((dp (cons e c l) : Int) ≤ depth) && formA (ahead a i) (cons e c l)) = false := by
          refine Bool.eq_false_iff.2 fun hx => h3 ?_
          rw [Bool.and_eq_true, decide_eq_true_eq] at hx ⊢
          obtain ⟨x1, x2⟩ := hx
          simp only [dp] at x1
          simp only [formA, Bool.and_eq_true] at x2
          exact ⟨by omega, x2.1.1.2⟩
        rw [this]
    · rw [if_neg h2]
      have : formA (ahead a i) (cons e c l) = false := by
        simp only [formA]
        cases hx : (decide (1 ≤ c) && decide (c ≤ 1000000)) with
        | true => exact absurd hx h2
        | false => simp
      rw [this, Bool.and_false]
theorem form_all : ∀ (k : Nat) (a : T) (depth : Int), a.size < k → a.size ≤ cap → -1 ≤ depth → depth ≤ 6 → spec_odForm k a.rows depth = some (decide ((dp a : Int) ≤ depth) && formA none a)
  | 0, _, _, h, _, _, _ => absurd h (Nat.not_lt_zero _)
  | k + 1, a, depth, h, hc, d0, d6 => by
    have hl := a.len_size
    simp only [spec_odForm, spec_odForm_b]
    by_cases h1 : depth < 0
    · rw [if_pos h1]
      have : decide ((dp a : Int) ≤ depth) = false := by simp; omega
      rw [this, Bool.false_and]
    · rw [if_neg h1, if_pos (by rw [rows_len]; omega), form_loop_all (a := a) (by omega) (by omega) hc (fun e he => form_all k e (depth - 1) (by omega) (by omega) (by omega) (by omega)) a 0 (drop_zero a) (by omega) (by intro q hq; cases hq)]
      rfl
theorem odGood_all (k : Nat) (a : T) (h : a.size < k) (hc : a.size ≤ cap) : spec_odGood k a.rows = some (ordP a) := by
  unfold spec_odGood
  obtain ⟨r, er, q1, q2, q3, q4⟩ := left_eq k a 6 60 h hc (by omega) (by omega) (by omega) (by omega)
  rw [er, Option.bind_some]
  by_cases h1 : 1 + nodesL a ≤ 60 ∧ dp a ≤ 6
  · have := q3 ⟨by omega, by omega⟩
    rw [if_pos (by omega), form_all k a 6 h hc (by omega) (by omega), Option.bind_some]
    have h2 : decide ((dp a : Int) ≤ 6) = true := by simp; omega
    simp only [ordP, h2, h1.1, h1.2, decide_true, Bool.true_and]
    cases formA none a <;> rfl
  · have := q4 (by omega)
    rw [if_neg (by omega)]
    have : ordP a = false := by
      cases hx : ordP a with
      | false => rfl
      | true => simp only [ordP, Bool.and_eq_true, decide_eq_true_eq] at hx; exact absurd hx.1 h1
    rw [this]
end Go.Proofs.Try

namespace Go.Proofs.Try
open Go Go.AX T
end Go.Proofs.Try

namespace Go.Proofs.Try
open Go Go.AX T
end Go.Proofs.Try

namespace Go.Proofs.Try
open Go Go.AX T
/-! ### what is left -/
def lessT : T → T → T
  | a, nil => a
  | nil, cons _ _ _ => nil
  | cons e c l, cons f d m => if cmpT e f = 0 then (if c = d then lessT l m else cons e (w (c - d)) l) else cons e c l
theorem lessT_nil (a : T) : lessT a nil = a := by cases a <;> rfl
theorem lessT_size (a b : T) : (lessT a b).size ≤ a.size := by
  induction a generalizing b with
  | nil => cases b <;> simp [lessT]
  | cons e c l _ ih =>
    cases b with
    | nil => simp [lessT]
    | cons f d m =>
      simp only [lessT]
      split
      · split
        · have := ih m; simp only [size]; omega
        · simp [size]
      · simp
theorem rows_cons_drop {a : T} {i : Nat} {e : T} {c : Int} {l : T} (h : drop a i = cons e c l) : a.rows.drop (i + 1) = l.rows := by rw [← rows_drop, drop_succ h]
theorem lessT_calm {a b : T} (ha : formA none a = true) (hb : formA none b = true) : calm (lessT a b) := by
  induction a generalizing b with
  | nil => cases b <;> trivial
  | cons e c l _ ih =>
    cases b with
    | nil => rw [lessT_nil]; exact form_calm ha
    | cons f d m =>
      have h1 := form_calm ha
      have h2 := form_calm hb
      simp only [formA, Bool.and_eq_true, decide_eq_true_eq] at ha hb
      simp only [lessT]
      split
      · split
        · exact ih (form_any ha.2) (form_any hb.2)
        · refine ⟨h1.1, ?_, h1.2.2⟩
          show _ ≤ w (c - d) ∧ w (c - d) ≤ _
          rw [show w (c - d) = c - d from wid (by omega) (by omega)]; omega
      · exact h1
end Go.Proofs.Try

namespace Go.Proofs.Try
open Go Go.AX T
theorem gt_of {e f : T} (h : ¬ cmpT e f = 1) (h0 : ¬ cmpT e f = 0) : cmpT e f < 0 := by
  rcases cmpT_range e f with q | q | q <;> omega
theorem gt_trans {e f g : T} (h1 : cmpT e f = 1) (h2 : cmpT f g = 1) : cmpT e g = 1 := by
  have q1 : cmpT f e < 0 := by rw [cmpT_neg e f]; omega
  have q2 : cmpT g f < 0 := by rw [cmpT_neg f g]; omega
  have := cmpT_trans q2 q1
  have q3 := cmpT_neg g e
  rcases cmpT_range e g with q | q | q <;> omega
theorem goP_low {m f g n : T} {h : Int} (hf : falls (some f) m) (hfg : cmpT f g < 0) : goP m g h n = cons g h n := by
  induction m generalizing f with
  | nil => rfl
  | cons x c l _ ih =>
    have h1 := hf.1 f rfl
    have h2 : cmpT x g < 0 := by
      have : cmpT x f < 0 := by rw [cmpT_neg f x]; omega
      exact cmpT_trans this hfg
    simp only [goP]
    rw [if_neg (by omega), if_neg (by omega)]
    exact ih hf.2 h2
theorem goP_A {a f g m n : T} {d h : Int} (hfg : cmpT f g = 1) : goP (goP a f d m) g h n = goP a f d (goP m g h n) := by
  induction a with
  | nil => simp only [goP, if_pos hfg]
  | cons e c l _ ih =>
    simp only [goP]
    split
    · rename_i q; simp only [goP]; rw [if_pos (gt_trans q hfg), ih]
    · split
      · rename_i q; obtain rfl := cmpT_eq.1 q; simp only [goP]; rw [if_pos hfg]
      · exact ih
theorem goP_BX {a f m n : T} {d h : Int} (ha : sm 1000000000000000 a) (hd : -1000000000000000 ≤ d ∧ d ≤ 1000000000000000) (hh : -1000000000000000 ≤ h ∧ h ≤ 1000000000000000) : goP (goP a f d m) f h n = goP a f (w (d + h)) n := by
  have r : cmpT f f = 0 := cmpT_refl f
  induction a with
  | nil => simp only [goP]; rw [if_neg (by omega), if_pos r]
  | cons e c l _ ih =>
    simp only [goP]
    split
    · rename_i q; simp only [goP]; rw [if_pos q, ih ha.2.2]
    · rename_i q0
      split
      · rename_i q; simp only [goP]; rw [if_neg q0, if_pos q]
        have hc := ha.2.1
        have e1 : w (c + d) = c + d := wid (by omega) (by omega)
        have e2 : w (d + h) = d + h := wid (by omega) (by omega)
        rw [e1, e2, Int.add_assoc]
      · exact ih ha.2.2
theorem goP_C {a f g m n : T} {d h : Int} : ∀ {p : Option T}, falls p a → falls (some f) m → cmpT f g < 0 → goP (goP a f d m) g h n = goP a g h n := by
  induction a with
  | nil =>
    intro p _ hm hfg
    simp only [goP]
    rw [if_neg (by omega), if_neg (by omega), goP_low hm hfg]
  | cons e c l _ ih =>
    intro p ha hm hfg
    have ih := ih ha.2 hm hfg
    by_cases q : cmpT e f = 1
    · simp only [goP, if_pos q]
      rw [ih]
    · by_cases q0 : cmpT e f = 0
      · obtain rfl := cmpT_eq.1 q0
        simp only [goP, if_neg q, if_pos q0]
        rw [if_neg (by omega), if_neg (by omega), if_neg (by omega), if_neg (by omega), goP_low hm hfg, goP_low ha.2 hfg]
      · have lt := gt_of q q0
        have lt2 := cmpT_trans lt hfg
        simp only [goP, if_neg q, if_neg q0]
        rw [if_neg (by omega), if_neg (by omega)]
        exact ih
theorem plusT_assocX {a b c : T} (sa : sm 1000000000000000 a) (sb : sm 1000000000000000 b) (sc : sm 1000000000000000 c) (fa : falls none a) (fb : falls none b) : plusT a (plusT b c) = plusT (plusT a b) c := by
  cases c with
  | nil => rfl
  | cons g h n =>
    cases b with
    | nil => rfl
    | cons f d m =>
      show plusT a (goP (cons f d m) g h n) = goP (goP a f d m) g h n
      by_cases q : cmpT f g = 1
      · rw [goP_A q]; simp only [goP, if_pos q]; rfl
      · by_cases q0 : cmpT f g = 0
        · obtain rfl := cmpT_eq.1 q0
          rw [goP_BX sa sb.2.1 sc.2.1]
          simp only [goP, if_neg q, if_pos q0]; rfl
        · have lt := gt_of q q0
          rw [goP_C fa fb.2 lt]
          simp only [goP, if_neg q, if_neg q0]
          rw [goP_low fb.2 lt]
          rfl
theorem plusT_assocB {a b c : T} (sa : sm 1000000000 a) (sb : sm 1000000000 b) (sc : sm 1000000000 c) (fa : falls none a) (fb : falls none b) : plusT a (plusT b c) = plusT (plusT a b) c :=
  plusT_assocX (sm_mono sa (by omega)) (sm_mono sb (by omega)) (sm_mono sc (by omega)) fa fb
theorem cmpT_cons_eq {e : T} {c : Int} {x y : T} : cmpT (cons e c x) (cons e c y) = cmpT x y := by
  simp only [cmpT, cmpT_refl, cmpI_refl, if_true]
theorem lessT_self {a : T} : lessT a a = nil := by
  induction a with
  | nil => rfl
  | cons e c l _ ih => simp only [lessT, cmpT_refl, if_true, ih]
theorem sub_goPB {a f m : T} {d : Int} (hd : 1 ≤ d ∧ d ≤ 1000000000) : ∀ {p : Option T}, falls p a → sm 1000000000 a → lessT (goP a f d m) a = cons f d m ∧ 0 ≤ cmpT (goP a f d m) a := by
  induction a with
  | nil => intro p _ _; exact ⟨rfl, by simp [goP, cmpT]⟩
  | cons e c l _ ih =>
    intro p hf hs
    have ih := ih hf.2 hs.2.2
    have hc := hs.2.1
    by_cases q : cmpT e f = 1
    · simp only [goP, if_pos q, lessT, cmpT_refl, if_true, cmpT_cons_eq]
      exact ih
    · by_cases q0 : cmpT e f = 0
      · obtain rfl := cmpT_eq.1 q0
        have e1 : w (c + d) = c + d := wid (by omega) (by omega)
        have e2 : w (c + d - c) = d := by rw [show w (c + d - c) = c + d - c from wid (by omega) (by omega)]; omega
        simp only [goP, if_neg q, if_pos q0, e1]
        refine ⟨?_, ?_⟩
        · simp only [lessT, cmpT_refl, if_true]
          rw [if_neg (by omega), e2]
        · have e3 : cmpI (c + d) c = 1 := by unfold cmpI; rw [if_neg (by omega), if_pos (by omega)]
          simp only [cmpT, cmpT_refl, e3]
          simp
      · have lt := gt_of q q0
        have e1 : cmpT f e = 1 := by rw [cmpT_neg e f]; rcases cmpT_range e f with z | z | z <;> omega
        have e2 : goP (cons e c l) f d m = cons f d m := by
          simp only [goP, if_neg q, if_neg q0]; exact goP_low hf.2 lt
        rw [e2]
        refine ⟨?_, ?_⟩
        · simp only [lessT]; rw [if_neg (by omega)]
        · simp only [cmpT, e1]; simp
theorem sub_plusB {a b : T} (fa : falls none a) (sa : sm 1000000000 a) (sb : sm 1000000000 b) (pb : ∀ f d m, b = cons f d m → 1 ≤ d) : lessT (plusT a b) a = b ∧ 0 ≤ cmpT (plusT a b) a := by
  cases b with
  | nil => exact ⟨lessT_self, by show 0 ≤ cmpT a a; rw [cmpT_refl]; omega⟩
  | cons f d m => exact sub_goPB ⟨pb f d m rfl, sb.2.1.2⟩ fa sa
end Go.Proofs.Try

namespace Go.Proofs.Try
open Go Go.AX T
theorem falls_weak {q e l : T} {p : Option T} (h : falls (some e) l) (hp : ∀ q, p = some q → 0 < cmpT q e) : falls p l := by
  cases l with
  | nil => trivial
  | cons x c m =>
    refine ⟨fun r hr => ?_, h.2⟩
    have h1 := hp r hr
    have h2 := h.1 e rfl
    have := cmpT_range e x
    exact cmp_lt_of h1 (by omega)
theorem falls_goP {a f m : T} {d : Int} {p : Option T} (ha : falls p a) (hp : ∀ q, p = some q → 0 < cmpT q f) (hm : falls (some f) m) : falls p (goP a f d m) := by
  induction a generalizing p with
  | nil => exact ⟨hp, hm⟩
  | cons e c l _ ih =>
    simp only [goP]
    split
    · rename_i q
      exact ⟨ha.1, ih ha.2 fun r hr => by cases hr; omega⟩
    · split
      · rename_i q; obtain rfl := cmpT_eq.1 q; exact ⟨ha.1, hm⟩
      · exact ih (falls_weak (q := e) ha.2 ha.1) hp
theorem falls_plusT {a b : T} (ha : falls none a) (hb : falls none b) : falls none (plusT a b) := by
  cases b with
  | nil => exact ha
  | cons f d m => exact falls_goP ha (fun q hq => by cases hq) hb.2
/-- Coefficients above nothing. -/
def posT : T → Prop
  | .nil => True
  | .cons _ c l => 1 ≤ c ∧ posT l
/-- Terms as those of a right ordinal, but for its nodes. -/
def okT (B : Int) (Z : Nat) (n : T) : Prop := falls none n ∧ posT n ∧ sm B n ∧ n.size ≤ Z
theorem ordP_okT {t : T} (h : ordP t = true) : okT 1000000 30 t := by
  refine ⟨form_falls (ordP_form h), ?_, form_sm (ordP_form h), ordP_size h⟩
  have key : ∀ (p : Option T) (t : T), formA p t = true → posT t := by
    intro p t
    induction t generalizing p with
    | nil => intro _; trivial
    | cons e c l _ ih =>
      intro h
      simp only [formA, Bool.and_eq_true, decide_eq_true_eq] at h
      exact ⟨h.1.1.1.1, ih _ h.2⟩
  exact key _ _ (ordP_form h)
theorem okT_calm {B : Int} {Z : Nat} {n : T} (h : okT B Z n) (hB : B ≤ 1000000000000000) : calm n := sm_calm h.2.2.1 hB
theorem okT_mono {B C : Int} {Z Y : Nat} {n : T} (h : okT B Z n) (hB : B ≤ C) (hZ : Z ≤ Y) : okT C Y n := ⟨h.1, h.2.1, sm_mono h.2.2.1 hB, by have := h.2.2.2; omega⟩
theorem less_parts {B : Int} (hB : B ≤ 1000000000000000) {a : T} : ∀ {b : T} {p : Option T}, falls p a → posT a → posT b → sm B a → 0 ≤ cmpT a b → falls none (lessT a b) ∧ posT (lessT a b) ∧ sm B (lessT a b) := by
  induction a with
  | nil =>
    intro b p _ _ _ _ _
    have : lessT .nil b = .nil := by cases b <;> rfl
    rw [this]
    exact ⟨trivial, trivial, trivial⟩
  | cons e c l _ ih =>
    intro b p fa pa pb sa h
    have f0 : ∀ x, falls none (.cons e x l) := fun x => ⟨fun _ h => (by cases h), fa.2⟩
    cases b with
    | nil => exact ⟨f0 c, pa, sa⟩
    | cons f d m =>
      simp only [lessT]
      simp only [cmpT] at h
      split
      · rename_i q1
        rw [if_pos q1] at h
        split
        · rename_i q2
          rw [if_pos (cmpI_eq.2 q2)] at h
          exact ih (p := some e) fa.2 pa.2 pb.2 sa.2.2 h
        · rename_i q2
          rw [if_neg (fun q => q2 (cmpI_eq.1 q))] at h
          have hcd : d < c := by
            unfold cmpI at h
            split at h
            · omega
            · omega
          have b1 := sa.2.1
          have b2 := pb.1
          have e1 : w (c - d) = c - d := wid (by omega) (by omega)
          rw [e1]
          exact ⟨f0 _, ⟨by omega, pa.2⟩, sa.1, by omega, sa.2.2⟩
      · exact ⟨f0 c, pa, sa⟩
theorem less_ok {B C : Int} {Z Y : Nat} {a b : T} (hB : B ≤ 1000000000000000) (ha : okT B Z a) (hb : okT C Y b) (h : 0 ≤ cmpT a b) : okT B Z (lessT a b) := by
  obtain ⟨h1, h2, h3⟩ := less_parts hB ha.1 ha.2.1 hb.2.1 ha.2.2.1 h
  have := lessT_size a b
  exact ⟨h1, h2, h3, by have := ha.2.2.2; omega⟩
theorem lessT_same (a : T) : lessT a a = .nil := by
  induction a with
  | nil => rfl
  | cons e c l _ ih => simp [lessT, cmpT_refl, ih]
theorem plusT_nilL (x : T) : plusT .nil x = x := by cases x <;> rfl
theorem posT_goP {a f m : T} {d : Int} (sa : sm 1000000000 a) (pa : posT a) (hd : 1 ≤ d ∧ d ≤ 1000000000) (pm : posT m) : posT (goP a f d m) := by
  induction a with
  | nil => exact ⟨hd.1, pm⟩
  | cons e c l _ ih =>
    have := ih sa.2.2 pa.2
    simp only [goP]
    split
    · exact ⟨pa.1, this⟩
    · split
      · have b1 := sa.2.1
        have b2 := pa.1
        refine ⟨?_, pm⟩
        rw [show w (c + d) = c + d from wid (by omega) (by omega)]; omega
      · exact this
theorem posT_plus {a b : T} (sa : sm 1000000000 a) (sb : sm 1000000000 b) (pa : posT a) (pb : posT b) : posT (plusT a b) := by
  cases b with
  | nil => exact pa
  | cons f d m => exact posT_goP sa pa ⟨pb.1, sb.2.1.2⟩ pb.2
/-- Exponents that are so. -/
def exOk (B : Int) : T → Prop
  | .nil => True
  | .cons e _ l => (falls none e ∧ posT e ∧ sm B e) ∧ exOk B l
theorem form_posT {p : Option T} {t : T} (h : formA p t = true) : posT t := by
  induction t generalizing p with
  | nil => trivial
  | cons e c l _ ih =>
    simp only [formA, Bool.and_eq_true, decide_eq_true_eq] at h
    exact ⟨h.1.1.1.1, ih h.2⟩
theorem form_exOk {p : Option T} {t : T} (h : formA p t = true) : exOk 1000000 t := by
  induction t generalizing p with
  | nil => trivial
  | cons e c l _ ih =>
    simp only [formA, Bool.and_eq_true, decide_eq_true_eq] at h
    exact ⟨⟨form_falls h.1.1.2, form_posT h.1.1.2, form_sm h.1.1.2⟩, ih h.2⟩
theorem exOk_mono {B C : Int} {t : T} (h : exOk B t) (hB : B ≤ C) : exOk C t := by
  induction t with
  | nil => trivial
  | cons e c l _ ih => exact ⟨⟨h.1.1, h.1.2.1, sm_mono h.1.2.2 hB⟩, ih h.2⟩
theorem exOk_app {B : Int} {a b : T} : exOk B (app a b) ↔ exOk B a ∧ exOk B b := by
  induction a with
  | nil => simp [app, exOk]
  | cons e c l _ ih => simp only [app, exOk, ih, and_assoc]
theorem exOk_goP {B : Int} {a f m : T} {d : Int} (ha : exOk B a) (hf : falls none f ∧ posT f ∧ sm B f) (hm : exOk B m) : exOk B (goP a f d m) := by
  induction a with
  | nil => exact ⟨hf, hm⟩
  | cons e c l _ ih =>
    simp only [goP]
    split
    · exact ⟨ha.1, ih ha.2⟩
    · split
      · exact ⟨ha.1, hm⟩
      · exact ih ha.2
theorem exOk_plus {B : Int} {a b : T} (ha : exOk B a) (hb : exOk B b) : exOk B (plusT a b) := by
  cases b with
  | nil => exact ha
  | cons f d m => exact exOk_goP ha hb.1 hb.2
/-- What is added on the right decides. -/
theorem plus_lt {a g n : T} {h : Int} {p : Option T} (fa : falls p a) (sa : sm 1000000000 a) (hh : 1 ≤ h ∧ h ≤ 1000000000) : cmpT (goP a g h n) a = 1 := by
  obtain ⟨k1, k2⟩ := sub_goPB (f := g) (m := n) hh fa sa
  rcases cmpT_range (goP a g h n) a with q | q | q
  · omega
  · rw [cmpT_eq.1 q, lessT_same] at k1; cases k1
  · exact q
theorem plus_mono {a : T} : ∀ {p : Option T} {f g m n : T} {d h : Int}, falls p a → sm 1000000000 a → (1 ≤ d ∧ d ≤ 1000000000) → (1 ≤ h ∧ h ≤ 1000000000) → cmpT (goP a f d m) (goP a g h n) = cmpT (cons f d m) (cons g h n) := by
  induction a with
  | nil => intros; rfl
  | cons e c l _ ih =>
    intro p f g m n d h fa sa hd hh
    have b1 := sa.2.1
    have wd : w (c + d) = c + d := wid (by omega) (by omega)
    have wh : w (c + h) = c + h := wid (by omega) (by omega)
    have n1 := cmpT_neg e f
    have n2 := cmpT_neg e g
    have n3 := cmpT_neg f g
    have r3 := cmpT_range f g
    have same : ∀ x y : T, cmpT (cons e c x) (cons e c y) = cmpT x y := fun x y => by simp [cmpT, cmpT_refl, cmpI_refl]
    have cI1 : cmpI c (c + h) = -1 := by unfold cmpI; rw [if_pos (by omega)]
    have cI2 : cmpI (c + d) c = 1 := by unfold cmpI; rw [if_neg (by omega), if_pos (by omega)]
    have cI3 : cmpI (c + d) (c + h) = cmpI d h := by
      unfold cmpI
      by_cases q1 : d < h
      · rw [if_pos (by omega), if_pos q1]
      · by_cases q2 : h < d
        · rw [if_neg (by omega), if_pos (by omega), if_neg q1, if_pos q2]
        · rw [if_neg (by omega), if_neg (by omega), if_neg q1, if_neg q2]
    rcases cmpT_range e f with rf | rf | rf <;> rcases cmpT_range e g with rg | rg | rg
    · -- both are greater
      have z1 : goP (cons e c l) f d m = cons f d m := by simp only [goP]; rw [if_neg (by omega), if_neg (by omega)]; exact goP_low fa.2 (by omega)
      have z2 : goP (cons e c l) g h n = cons g h n := by simp only [goP]; rw [if_neg (by omega), if_neg (by omega)]; exact goP_low fa.2 (by omega)
      rw [z1, z2]
    · have z1 : goP (cons e c l) f d m = cons f d m := by simp only [goP]; rw [if_neg (by omega), if_neg (by omega)]; exact goP_low fa.2 (by omega)
      obtain rfl := cmpT_eq.1 rg
      have z2 : goP (cons e c l) e h n = cons e (c + h) n := by simp only [goP]; rw [if_neg (by omega), if_pos rg, wh]
      rw [z1, z2]
      simp only [cmpT]
      rw [if_neg (by omega), if_neg (by omega)]
    · have z1 : goP (cons e c l) f d m = cons f d m := by simp only [goP]; rw [if_neg (by omega), if_neg (by omega)]; exact goP_low fa.2 (by omega)
      have z2 : goP (cons e c l) g h n = cons e c (goP l g h n) := by simp only [goP]; rw [if_pos rg]
      have fg : cmpT f g = 1 := gt_trans (e := f) (f := e) (by omega) rg
      rw [z1, z2]
      simp only [cmpT]
      rw [if_neg (by omega), if_neg (by omega)]; omega
    · obtain rfl := cmpT_eq.1 rf
      have z1 : goP (cons e c l) e d m = cons e (c + d) m := by simp only [goP]; rw [if_neg (by omega), if_pos rf, wd]
      have z2 : goP (cons e c l) g h n = cons g h n := by simp only [goP]; rw [if_neg (by omega), if_neg (by omega)]; exact goP_low fa.2 (by omega)
      rw [z1, z2]
      simp only [cmpT]
      rw [if_neg (by omega), if_neg (by omega)]
    · obtain rfl := cmpT_eq.1 rf
      obtain rfl := cmpT_eq.1 rg
      have z1 : ∀ (x : Int) (y : T), w (c + x) = c + x → goP (cons e c l) e x y = cons e (c + x) y := fun x y hx => by simp only [goP]; rw [if_neg (by omega), if_pos rf, hx]
      rw [z1 d m wd, z1 h n wh]
      simp only [cmpT, cI3]
    · obtain rfl := cmpT_eq.1 rf
      have z1 : goP (cons e c l) e d m = cons e (c + d) m := by simp only [goP]; rw [if_neg (by omega), if_pos rf, wd]
      have z2 : goP (cons e c l) g h n = cons e c (goP l g h n) := by simp only [goP]; rw [if_pos rg]
      rw [z1, z2]
      simp only [cmpT, cI2, cmpT_refl]
      rw [if_neg (show ¬ cmpT e g = 0 by omega)]
      simp; omega
    · have z1 : goP (cons e c l) f d m = cons e c (goP l f d m) := by simp only [goP]; rw [if_pos rf]
      have z2 : goP (cons e c l) g h n = cons g h n := by simp only [goP]; rw [if_neg (by omega), if_neg (by omega)]; exact goP_low fa.2 (by omega)
      have fg : cmpT g f = 1 := gt_trans (e := g) (f := e) (by omega) rf
      rw [z1, z2]
      simp only [cmpT]
      rw [if_neg (by omega), if_neg (by omega)]; omega
    · obtain rfl := cmpT_eq.1 rg
      have z1 : goP (cons e c l) f d m = cons e c (goP l f d m) := by simp only [goP]; rw [if_pos rf]
      have z2 : goP (cons e c l) e h n = cons e (c + h) n := by simp only [goP]; rw [if_neg (by omega), if_pos rg, wh]
      rw [z1, z2]
      simp only [cmpT, cI1, cmpT_refl]
      rw [if_neg (show ¬ cmpT f e = 0 by omega)]
      simp; omega
    · have z1 : goP (cons e c l) f d m = cons e c (goP l f d m) := by simp only [goP]; rw [if_pos rf]
      have z2 : goP (cons e c l) g h n = cons e c (goP l g h n) := by simp only [goP]; rw [if_pos rg]
      rw [z1, z2, same]
      exact ih fa.2 sa.2.2 hd hh
/-- A sum is monotone in what is added on the right. -/
theorem plusT_cmp {a x y : T} (fa : falls none a) (sa : sm 1000000000 a) (px : posT x) (py : posT y) (sx : sm 1000000000 x) (sy : sm 1000000000 y) : cmpT (plusT a x) (plusT a y) = cmpT x y := by
  cases x with
  | nil =>
    cases y with
    | nil => exact cmpT_refl _
    | cons g h n =>
      have := plus_lt (g := g) (n := n) fa sa ⟨py.1, sy.2.1.2⟩
      show cmpT a (goP a g h n) = _
      rw [cmpT_neg (goP a g h n) a, this]; rfl
  | cons f d m =>
    cases y with
    | nil =>
      have := plus_lt (g := f) (n := m) fa sa ⟨px.1, sx.2.1.2⟩
      show cmpT (goP a f d m) a = _
      rw [this]; rfl
    | cons g h n => exact plus_mono fa sa ⟨px.1, sx.2.1.2⟩ ⟨py.1, sy.2.1.2⟩
end Go.Proofs.Try

namespace Go.Proofs.Try
open Go Go.AX T
/-- A product with a right ordinal w^a1 c1 + a', term by term. -/
def tmG (a1 : T) (c1 : Int) (a' : T) : T → T
  | nil => nil
  | cons nil d m => app (cons a1 (w (c1 * d)) a') (tmG a1 c1 a' m)
  | cons (cons x y z) d m => cons (plusT a1 (cons x y z)) d (tmG a1 c1 a' m)
def timesT : T → T → T
  | nil, _ => nil
  | cons a1 c1 a', b => tmG a1 c1 a' b
theorem tmG_size (a1 : T) (c1 : Int) (a' : T) : ∀ b : T, (tmG a1 c1 a' b).size ≤ b.size * (a1.size + a'.size + 2)
  | nil => by simp [tmG, size]
  | cons nil d m => by
    have ih := tmG_size a1 c1 a' m
    simp only [tmG, size_app, size]
    rw [show 0 + m.size + 1 = m.size + 1 by omega, Nat.add_mul, Nat.one_mul]
    omega
  | cons (cons x y z) d m => by
    have ih := tmG_size a1 c1 a' m
    have h1 := plusT_size a1 (cons x y z)
    simp only [tmG]
    rw [show (cons (plusT a1 (cons x y z)) d (tmG a1 c1 a' m)).size = (plusT a1 (cons x y z)).size + (tmG a1 c1 a' m).size + 1 from rfl, show (cons (cons x y z) d m).size = (cons x y z).size + m.size + 1 from rfl, Nat.add_mul, Nat.add_mul, Nat.one_mul]
    have : (cons x y z).size ≤ (cons x y z).size * (a1.size + a'.size + 2) := Nat.le_mul_of_pos_right _ (by omega)
    omega
theorem posT_app {a b : T} : posT (app a b) ↔ posT a ∧ posT b := by
  induction a with
  | nil => simp [app, posT]
  | cons e c l _ ih => simp only [app, posT, ih, and_assoc]
theorem mul_in {a b B C : Int} (ha : 0 ≤ a ∧ a ≤ B) (hb : 0 ≤ b ∧ b ≤ C) : 0 ≤ a * b ∧ a * b ≤ B * C :=
  ⟨Int.mul_nonneg ha.1 hb.1, Int.mul_le_mul ha.2 hb.2 hb.1 (by omega)⟩
theorem tmG_sm {B C D : Int} {a1 a' : T} {c1 : Int} (s1 : sm B a1) (hc : 0 ≤ c1 ∧ c1 ≤ B) (s' : sm B a') (hB : 0 ≤ B ∧ 0 ≤ C ∧ B + C ≤ D ∧ B * C ≤ D ∧ D ≤ 1000000000000000) : ∀ b : T, sm C b → posT b → sm D (tmG a1 c1 a' b)
  | nil, _, _ => trivial
  | cons nil d m, hs, hp => by
    have ih := tmG_sm s1 hc s' hB m hs.2.2 hp.2
    have hm := mul_in hc ⟨by have := hp.1; omega, hs.2.1.2⟩
    simp only [tmG, sm_app]
    refine ⟨⟨sm_mono s1 (by omega), ?_, sm_mono s' (by omega)⟩, ih⟩
    rw [show w (c1 * d) = c1 * d from wid (by omega) (by omega)]; omega
  | cons (cons x y z) d m, hs, hp => by
    have ih := tmG_sm s1 hc s' hB m hs.2.2 hp.2
    have h1 := hs.2.1
    exact ⟨sm_mono (plusT_sm s1 hs.1 ⟨by omega, by omega, by omega⟩) (by omega), ⟨by omega, by omega⟩, ih⟩
theorem tmG_pos {B C : Int} {a1 a' : T} {c1 : Int} (hc : 1 ≤ c1 ∧ c1 ≤ B) (p' : posT a') (hB : B * C ≤ 1000000000000000) : ∀ b : T, sm C b → posT b → posT (tmG a1 c1 a' b)
  | nil, _, _ => trivial
  | cons nil d m, hs, hp => by
    have ih := tmG_pos (a1 := a1) hc p' hB m hs.2.2 hp.2
    have hm := mul_in (B := B) ⟨by omega, hc.2⟩ ⟨by have := hp.1; omega, hs.2.1.2⟩
    have h1 : 1 * 1 ≤ c1 * d := Int.mul_le_mul hc.1 hp.1 (by omega) (by omega)
    have e1 : w (c1 * d) = c1 * d := wid (by omega) (by omega)
    simp only [tmG, posT_app]
    exact ⟨⟨by omega, p'⟩, ih⟩
  | cons (cons x y z) d m, hs, hp => ⟨hp.1, tmG_pos hc p' hB m hs.2.2 hp.2⟩
theorem tmG_exOk {B C D : Int} {a1 a' : T} {c1 : Int} (f1 : falls none a1 ∧ posT a1 ∧ sm B a1) (e' : exOk D a') (hB : 0 ≤ B ∧ 0 ≤ C ∧ B ≤ 1000000000 ∧ C ≤ 1000000000 ∧ B + C ≤ D) : ∀ b : T, exOk C b → exOk D (tmG a1 c1 a' b)
  | nil, _ => trivial
  | cons nil d m, hb => by
    have ih := tmG_exOk (c1 := c1) f1 e' hB m hb.2
    simp only [tmG, exOk_app]
    exact ⟨⟨⟨f1.1, f1.2.1, sm_mono f1.2.2 (by omega)⟩, e'⟩, ih⟩
  | cons (cons x y z) d m, hb => by
    have ih := tmG_exOk (c1 := c1) f1 e' hB m hb.2
    have h1 := hb.1
    refine ⟨⟨falls_plusT f1.1 h1.1, posT_plus (sm_mono f1.2.2 (by omega)) (sm_mono h1.2.2 (by omega)) f1.2.1 h1.2.1, ?_⟩, ih⟩
    exact sm_mono (plusT_sm f1.2.2 h1.2.2 ⟨by omega, by omega, by omega⟩) (by omega)
theorem falls_low {m : T} (h : falls (some nil) m) : m = nil := by
  cases m with
  | nil => rfl
  | cons e c l => exfalso; have := h.1 nil rfl; cases e <;> simp [cmpT] at this
theorem tmG_falls {a1 a' : T} {c1 : Int} (f1 : falls none a1) (s1 : sm 1000000000 a1) (fa : falls (some a1) a') : ∀ (b : T) (q : Option T), (∀ r, q = some r → posT r ∧ sm 1000000000 r) → falls q b → exOk 1000000000 b → falls (q.map (plusT a1)) (tmG a1 c1 a' b)
  | nil, _, _, _, _ => trivial
  | cons nil d m, q, hq, hf, he => by
    have hm := falls_low hf.2
    subst hm
    simp only [tmG, T.app_nil]
    refine ⟨fun r hr => ?_, fa⟩
    cases q with
    | none => cases hr
    | some q =>
      have := plusT_cmp (y := nil) f1 s1 (hq q rfl).1 trivial (hq q rfl).2 trivial
      have h0 := hf.1 q rfl
      obtain rfl : plusT a1 q = r := Option.some.inj hr
      rw [show plusT a1 nil = a1 from rfl] at this
      omega
  | cons (cons x y z) d m, q, hq, hf, he => by
    have ih := tmG_falls (c1 := c1) f1 s1 fa m (some (cons x y z)) (fun r hr => by cases hr; exact ⟨he.1.2.1, he.1.2.2⟩) hf.2 he.2
    refine ⟨fun r hr => ?_, ih⟩
    cases q with
    | none => cases hr
    | some q =>
      have := plusT_cmp (y := cons x y z) f1 s1 (hq q rfl).1 he.1.2.1 (hq q rfl).2 he.1.2.2
      have h0 := hf.1 q rfl
      obtain rfl : plusT a1 q = r := Option.some.inj hr
      omega
/-! ### impl's product -/
/-! ### the reference's product -/
/-- What is less than all ahead of it is only added at the end. -/
theorem splus_at {acc p : T} (h : acc = nil ∨ ∃ l y c, acc = app l (cons y c nil) ∧ falls (some y) p) (hp : falls none p) : splus acc p = app acc p := by
  rcases h with rfl | ⟨l, y, c, rfl, h⟩
  · rw [splus_plus (a := nil) trivial hp, plusT_nilL]; rfl
  · exact splus_end h
theorem falls_app1 {p : Option T} {l x : T} (h : falls p (app l x)) : falls p l := by
  induction l generalizing p with
  | nil => trivial
  | cons e c l _ ih => exact ⟨h.1, ih h.2⟩
theorem falls_none {p : Option T} {l : T} (h : falls p l) : falls none l := by
  cases l with
  | nil => trivial
  | cons e c l => exact ⟨fun _ h => (by cases h), h.2⟩
end Go.Proofs.Try

namespace Go.Proofs.Try
open Go Go.AX T
theorem tm_head {a1 a' : T} {c1 : Int} (f : T) (d : Int) (m : T) : ∃ d' m', tmG a1 c1 a' (cons f d m) = cons (plusT a1 f) d' m' := by
  cases f with
  | nil => exact ⟨w (c1 * d), app a' (tmG a1 c1 a' m), rfl⟩
  | cons x y z => exact ⟨d, tmG a1 c1 a' m, rfl⟩
theorem plusT_c (a f : T) (d : Int) (m : T) : plusT a (cons f d m) = goP a f d m := rfl
theorem tm_dist {a1 a' : T} {c1 : Int} (f1 : falls none a1) (s1 : sm 1000000000 a1) (fa : falls (some a1) a') (hc1 : 0 ≤ c1 ∧ c1 ≤ 1000000000) {f : T} {d : Int} {m : T} (fc : falls none (cons f d m)) (sc : sm 1000000000 (cons f d m)) (ec : exOk 1000000000 (cons f d m)) (pc : posT (cons f d m)) :
    ∀ (b : T) (p : Option T), falls p b → sm 1000000000 b → exOk 1000000000 b → posT b → tmG a1 c1 a' (goP b f d m) = plusT (tmG a1 c1 a' b) (tmG a1 c1 a' (cons f d m))
  | nil, _, _, _, _, _ => by simp only [goP]; rw [show tmG a1 c1 a' nil = nil from rfl, plusT_nilL]
  | cons e c l, p, fb, sb, eb, pb => by
    obtain ⟨d', m', hX⟩ := tm_head (a1 := a1) (a' := a') (c1 := c1) f d m
    have hcmp := plusT_cmp (y := f) f1 s1 eb.1.2.1 ec.1.2.1 eb.1.2.2 ec.1.2.2
    by_cases q : cmpT e f = 1
    · have ih := tm_dist f1 s1 fa hc1 fc sc ec pc l (some e) fb.2 sb.2.2 eb.2 pb.2
      have hne : ∃ x y z, e = cons x y z := by
        cases e with
        | nil => cases f <;> simp [cmpT] at q
        | cons x y z => exact ⟨x, y, z, rfl⟩
      obtain ⟨x, y, z, rfl⟩ := hne
      simp only [goP, if_pos q, tmG]
      rw [ih, hX, plusT_c _ (plusT a1 f) d' m', plusT_c _ (plusT a1 f) d' m']
      have hg : cmpT (plusT a1 (cons x y z)) (plusT a1 f) = 1 := by omega
      simp only [goP, if_pos hg]
    · by_cases q0 : cmpT e f = 0
      · obtain rfl := cmpT_eq.1 q0
        have hb := sb.2.1
        have hd := sc.2.1
        have p1 := pb.1
        have p2 := pc.1
        simp only [goP, if_neg q, if_pos q0]
        cases e with
        | nil =>
          obtain rfl := falls_low fb.2
          obtain rfl := falls_low fc.2
          have e1 : w (c + d) = c + d := wid (by omega) (by omega)
          have m1 := mul_in hc1 (show 0 ≤ c ∧ c ≤ 1000000000 by omega)
          have m2 := mul_in hc1 (show 0 ≤ d ∧ d ≤ 1000000000 by omega)
          simp only [tmG, T.app_nil, plusT, goP, cmpT_refl]
          rw [if_neg (by omega), if_pos trivial, e1, show w (c1 * c) = c1 * c from wid (by omega) (by omega), show w (c1 * d) = c1 * d from wid (by omega) (by omega), Int.mul_add]
        | cons x y z =>
          simp only [tmG]
          rw [show ∀ t u v s, plusT (cons (plusT a1 (cons x y z)) t u) (cons (plusT a1 (cons x y z)) v s) = goP (cons (plusT a1 (cons x y z)) t u) (plusT a1 (cons x y z)) v s from fun _ _ _ _ => rfl]
          simp only [goP, cmpT_refl]
          rw [if_neg (by omega), if_pos trivial]
      · have lt := gt_of q q0
        have e1 : goP (cons e c l) f d m = cons f d m := by simp only [goP, if_neg q, if_neg q0]; exact goP_low fb.2 lt
        rw [e1, hX]
        obtain ⟨c', l', hY⟩ := tm_head (a1 := a1) (a' := a') (c1 := c1) e c l
        have hfy := tmG_falls (c1 := c1) f1 s1 fa (cons e c l) none (fun r h => (by cases h)) ⟨fun r h => (by cases h), fb.2⟩ eb
        rw [hY] at hfy ⊢
        rw [plusT_c _ (plusT a1 f) d' m']
        have hg : cmpT (plusT a1 e) (plusT a1 f) < 0 := by omega
        simp only [goP]
        rw [if_neg (by omega), if_neg (by omega), goP_low hfy.2 hg]
theorem times_dist {a b c : T} (fa : falls none a) (pa : posT a) (sa : sm 1000000000 a) (ea : exOk 1000000000 a) (fb : falls none b) (sb : sm 1000000000 b) (eb : exOk 1000000000 b) (pb : posT b) (fc : falls none c) (sc : sm 1000000000 c) (ec : exOk 1000000000 c) (pc : posT c) : timesT a (plusT b c) = plusT (timesT a b) (timesT a c) := by
  cases a with
  | nil => rfl
  | cons a1 c1 a' =>
    cases c with
    | nil => rfl
    | cons f d m => exact tm_dist ea.1.1 ea.1.2.2 fa.2 ⟨by have := pa.1; omega, sa.2.1.2⟩ fc sc ec pc b none fb sb eb pb
theorem falls_less {l : T} : ∀ {e m x : T} {y : Int} {z : T}, falls (some e) l → lessT l m = cons x y z → 0 < cmpT e x := by
  induction l with
  | nil => intro e m x y z _ h; cases m <;> simp [lessT] at h
  | cons a c l _ ih =>
    intro e m x y z hf h
    have h1 := hf.1 e rfl
    cases m with
    | nil => rw [lessT_nil] at h; injection h with h2; rw [← h2]; exact h1
    | cons f d m =>
      simp only [lessT] at h
      split at h
      · split at h
        · have := ih hf.2 h
          have q1 : cmpT x a < 0 := by rw [cmpT_neg a x]; omega
          have q2 : cmpT a e < 0 := by rw [cmpT_neg e a]; omega
          have := cmpT_trans q1 q2
          rw [cmpT_neg x e]; omega
        · injection h with h2; rw [← h2]; exact h1
      · injection h with h2; rw [← h2]; exact h1
/-- What is left, added again. -/
theorem plus_lessX {a : T} : ∀ {b : T} {p q : Option T}, falls p a → falls q b → posT a → posT b → sm 1000000000000000 a → sm 1000000000000000 b → 0 ≤ cmpT a b → plusT b (lessT a b) = a := by
  induction a with
  | nil =>
    intro b p q _ _ _ _ _ _ h
    cases b with
    | nil => rfl
    | cons f d m => simp [cmpT] at h
  | cons e c l _ ih =>
    intro b p q fa fb pa pb sa sb h
    cases b with
    | nil => rw [lessT_nil, plusT_nilL]
    | cons f d m =>
      simp only [cmpT] at h
      simp only [lessT]
      by_cases q1 : cmpT e f = 0
      · obtain rfl := cmpT_eq.1 q1
        rw [if_pos q1] at h ⊢
        by_cases q2 : c = d
        · subst q2
          rw [cmpI_refl, if_pos rfl] at h
          rw [if_pos rfl]
          have ih := ih fa.2 fb.2 pa.2 pb.2 sa.2.2 sb.2.2 h
          obtain ⟨h1, h2, h3⟩ := less_parts (B := 1000000000000000) (by omega) fa.2 pa.2 pb.2 sa.2.2 h
          cases hx : lessT l m with
          | nil =>
            rw [hx] at ih
            show cons e c m = cons e c l
            rw [show plusT m nil = m from rfl] at ih
            rw [ih]
          | cons x y z =>
            rw [hx] at ih
            have hxe : cmpT e x = 1 := by
              have := (falls_less fa.2 hx)
              have := cmpT_range e x
              omega
            simp only [plusT] at ih ⊢
            simp only [goP, if_pos hxe]
            rw [ih]
        · rw [if_neg (fun z => q2 (cmpI_eq.1 z))] at h
          have hcd : d < c := by
            unfold cmpI at h
            split at h
            · omega
            · omega
          rw [if_neg q2]
          have b1 := sa.2.1
          have b2 := sb.2.1
          have p2 := pb.1
          have e1 : w (c - d) = c - d := wid (by omega) (by omega)
          simp only [plusT, goP, cmpT_refl]
          rw [if_neg (by omega), if_pos trivial, e1, show w (d + (c - d)) = d + (c - d) from wid (by omega) (by omega)]
          rw [show d + (c - d) = c by omega]
      · rw [if_neg q1] at h ⊢
        have hfe : cmpT f e < 0 := by rw [cmpT_neg e f]; have := cmpT_range e f; omega
        simp only [plusT]
        simp only [goP]
        rw [if_neg (by omega), if_neg (by omega), goP_low fb.2 hfe]
theorem plus_less {a b : T} {p q : Option T} (fa : falls p a) (fb : falls q b) (pa : posT a) (pb : posT b) (sa : sm 1000000000 a) (sb : sm 1000000000 b) (h : 0 ≤ cmpT a b) : plusT b (lessT a b) = a :=
  plus_lessX fa fb pa pb (sm_mono sa (by omega)) (sm_mono sb (by omega)) h
end Go.Proofs.Try

namespace Go.Proofs.Try
open Go Go.AX T
def pwT (e : T) (n : Int) : T := if n = 0 then nil else cons e n nil
theorem ifinite_eq (n : Int) : impl_finite n = some (pwT nil n).rows := by
  unfold impl_finite pwT
  split <;> rfl
theorem exOk_less {B : Int} {a : T} : ∀ {b : T}, exOk B a → exOk B (lessT a b) := by
  induction a with
  | nil => intro b _; cases b <;> exact trivial
  | cons e c l _ ih =>
    intro b h
    cases b with
    | nil => rw [lessT_nil]; exact h
    | cons f d m =>
      simp only [lessT]
      split
      · split
        · exact ih h.2
        · exact h
      · exact h
/-- A right ordinal but for its nodes: terms and exponents. -/
def rt (B : Int) (Z : Nat) (n : T) : Prop := okT B Z n ∧ exOk B n
theorem ordP_rt {t : T} (h : ordP t = true) : rt 1000000 30 t := ⟨ordP_okT h, form_exOk (ordP_form h)⟩
/-- The next part of a quotient. -/
def nextT : T → T → T
  | cons s c l, cons t d m => if cmpT s t = 0 then (if 0 < cmpT (timesT (cons t d m) (pwT nil (w (c.tdiv d)))) (cons s c l) then pwT nil (w (w (c.tdiv d) - 1)) else pwT nil (w (c.tdiv d))) else pwT (lessT s t) c
  | _, _ => nil
theorem times_int {t m : T} {d k : Int} (hk : k ≠ 0) : timesT (cons t d m) (pwT nil k) = cons t (w (d * k)) m := by
  unfold pwT
  rw [if_neg hk]
  simp only [timesT, tmG, T.app_nil]
theorem times_pow {t e m : T} {d k : Int} (he : e ≠ nil) (hk : k ≠ 0) : timesT (cons t d m) (pwT e k) = cons (plusT t e) k nil := by
  unfold pwT
  rw [if_neg hk]
  cases e with
  | nil => exact absurd rfl he
  | cons x y z => simp only [timesT, tmG]
theorem cmp_gtI {c d : Int} (h : d < c) : cmpI c d = 1 := by unfold cmpI; rw [if_neg (by omega), if_pos h]
theorem cmp_ltI {c d : Int} (h : c < d) : cmpI c d = -1 := by unfold cmpI; rw [if_pos h]
theorem cmp_sameE {s l m : T} {c d : Int} : cmpT (cons s c l) (cons s d m) = if cmpI c d = 0 then cmpT l m else cmpI c d := by simp only [cmpT, cmpT_refl, if_true]
/-- One round: what is next, and what is left. -/
theorem div_round {a b : T} (ra : rt 1000000 30 a) (rb : rt 1000000 30 b) (hb : b ≠ nil) (h : 0 ≤ cmpT a b) :
    rt 1000000 31 (nextT a b) ∧ 0 ≤ cmpT a (timesT b (nextT a b)) ∧ rt 1000000 30 (lessT a (timesT b (nextT a b))) ∧ rt 1000000000000 1000 (timesT b (nextT a b)) ∧
    ((lessT a (timesT b (nextT a b))).len < a.len ∨ cmpT (lessT a (timesT b (nextT a b))) b < 0) := by
  obtain ⟨⟨fa, pa, sa, za⟩, ea⟩ := ra
  obtain ⟨⟨fb, pb, sb, zb⟩, eb⟩ := rb
  cases b with
  | nil => exact absurd rfl hb
  | cons t d m =>
    cases a with
    | nil => simp [cmpT] at h
    | cons s c l =>
      have ec := sa.2.1
      have ed := sb.2.1
      have c1 := pa.1
      have d1 := pb.1
      simp only [size] at za zb
      -- whatever is next: it is enough to know that it is right and no more than a
      have key : ∀ x : T, rt 1000000 31 x → 0 ≤ cmpT (cons s c l) (timesT (cons t d m) x) → ((lessT (cons s c l) (timesT (cons t d m) x)).len < (cons s c l).len ∨ cmpT (lessT (cons s c l) (timesT (cons t d m) x)) (cons t d m) < 0) →
          rt 1000000 31 x ∧ 0 ≤ cmpT (cons s c l) (timesT (cons t d m) x) ∧ rt 1000000 30 (lessT (cons s c l) (timesT (cons t d m) x)) ∧ rt 1000000000000 1000 (timesT (cons t d m) x) ∧
          ((lessT (cons s c l) (timesT (cons t d m) x)).len < (cons s c l).len ∨ cmpT (lessT (cons s c l) (timesT (cons t d m) x)) (cons t d m) < 0) := by
        intro x rx hx hl
        obtain ⟨⟨fx, px, sx, zx⟩, ex⟩ := rx
        have o1 : okT 1000000000000 1000 (timesT (cons t d m) x) := by
          refine ⟨?_, ?_, ?_, ?_⟩
          · exact tmG_falls (c1 := d) eb.1.1 (sm_mono eb.1.2.2 (by omega)) fb.2 x none (fun r h => by cases h) fx (exOk_mono ex (by omega))
          · exact tmG_pos (B := 1000000) (C := 1000000) ⟨d1, ed.2⟩ pb.2 (by omega) x sx px
          · exact tmG_sm (B := 1000000) (C := 1000000) (sm_mono eb.1.2.2 (by omega)) ⟨by omega, ed.2⟩ sb.2.2 (by omega) x sx px
          · have := tmG_size t d m x
            have h2 : x.size * (t.size + m.size + 2) ≤ 31 * 31 := Nat.mul_le_mul zx (by omega)
            show (tmG t d m x).size ≤ 1000
            omega
        refine ⟨⟨⟨fx, px, sx, zx⟩, ex⟩, hx, ⟨less_ok (C := 1000000000000) (Y := 1000) (by omega) ⟨fa, pa, sa, by simp only [size]; omega⟩ o1 hx, exOk_less ea⟩, ⟨o1, ?_⟩, hl⟩
        exact tmG_exOk (B := 1000000) (C := 1000000) (D := 1000000000000) ⟨eb.1.1, eb.1.2.1, eb.1.2.2⟩ (exOk_mono eb.2 (by omega)) (by omega) x ex
      by_cases q : cmpT s t = 0
      · obtain rfl := cmpT_eq.1 q
        have hint : ∀ k : Int, 1 ≤ k ∧ k ≤ 1000000 → rt 1000000 31 (pwT nil k) := by
          intro k hk
          unfold pwT
          rw [if_neg (by omega)]
          exact ⟨⟨⟨fun _ h => (by cases h), trivial⟩, ⟨hk.1, trivial⟩, ⟨trivial, by omega, trivial⟩, by simp [size]⟩, ⟨⟨trivial, trivial, trivial⟩, trivial⟩⟩
        rw [cmp_sameE] at h
        have hcd : d ≤ c := by
          rcases Int.lt_or_le c d with x | x
          · rw [cmp_ltI x] at h; simp at h
          · exact x
        have hdiv : c.tdiv d = c / d := Int.tdiv_eq_ediv_of_nonneg (by omega)
        have hk1 : 1 ≤ c / d := Int.le_ediv_of_mul_le (by omega) (by omega)
        have hk2 : c / d ≤ c := Int.ediv_le_self _ (by omega)
        have hmd := Int.mul_ediv_add_emod c d
        have hm0 := Int.emod_nonneg c (show d ≠ 0 by omega)
        have hm1 := Int.emod_lt_of_pos c (show 0 < d by omega)
        obtain ⟨k, hk⟩ : ∃ k, c / d = k := ⟨_, rfl⟩
        obtain ⟨dk, hdk⟩ : ∃ x, d * k = x := ⟨_, rfl⟩
        rw [hk] at hmd hk1 hk2
        rw [hdk] at hmd
        have wk : w (c.tdiv d) = k := by rw [hdiv, hk]; exact wid (by omega) (by omega)
        have wk1 : w (k - 1) = k - 1 := wid (by omega) (by omega)
        have wdk : w (d * k) = dk := by rw [hdk]; exact wid (by omega) (by omega)
        have hdk1 : d * (k - 1) = dk - d := by rw [Int.mul_sub, hdk]; omega
        have wdk1 : w (d * (k - 1)) = dk - d := by rw [hdk1]; exact wid (by omega) (by omega)
        simp only [nextT, if_pos q, wk, wk1]
        have ht := times_int (t := s) (m := m) (d := d) (k := k) (by omega)
        rw [wdk] at ht
        by_cases g : 0 < cmpT (timesT (cons s d m) (pwT nil k)) (cons s c l)
        · rw [if_pos g]
          rw [ht, cmp_sameE] at g
          have hdc : dk = c := by
            rcases Int.lt_or_le dk c with x | x
            · rw [cmp_ltI x] at g; simp at g
            · omega
          subst hdc
          rw [cmpI_refl, if_pos rfl] at g
          have hlm : cmpT l m < 0 := by rw [cmpT_neg m l]; omega
          have hk3 : 2 ≤ k := by
            rcases Int.lt_or_le k 2 with x | x
            · have : k = 1 := by omega
              subst this
              rw [Int.mul_one] at hdk
              subst hdk
              rw [cmpI_refl, if_pos rfl] at h
              omega
            · exact x
          have ht2 := times_int (t := s) (m := m) (d := d) (k := k - 1) (by omega)
          rw [wdk1] at ht2
          have hc2 : cmpI dk (dk - d) = 1 := cmp_gtI (by omega)
          refine key _ (hint (k - 1) (by omega)) ?_ (.inr ?_)
          · rw [ht2, cmp_sameE, hc2]; simp
          · rw [ht2]
            simp only [lessT, cmpT_refl, if_true]
            rw [if_neg (by omega), show w (dk - (dk - d)) = d from by rw [show dk - (dk - d) = d by omega]; exact wid (by omega) (by omega), cmp_sameE, cmpI_refl, if_pos rfl]
            exact hlm
        · rw [if_neg g]
          have hge : 0 ≤ cmpT (cons s c l) (timesT (cons s d m) (pwT nil k)) := by rw [cmpT_neg (timesT (cons s d m) (pwT nil k))]; omega
          refine key _ (hint k (by omega)) hge (.inr ?_)
          rw [ht] at hge ⊢
          rw [cmp_sameE] at hge
          simp only [lessT, cmpT_refl, if_true]
          by_cases x : c = dk
          · rw [if_pos x]
            cases hx : lessT l m with
            | nil => simp [cmpT]
            | cons e y z =>
              have := falls_less fa.2 hx
              have hes : cmpT e s < 0 := by rw [cmpT_neg s e]; omega
              simp only [cmpT]
              rw [if_neg (by omega)]
              exact hes
          · rw [if_neg x, cmp_sameE, show w (c - dk) = c - dk from wid (by omega) (by omega), cmp_ltI (by omega)]
            simp
      · have hst : cmpT s t = 1 := by
          simp only [cmpT] at h
          rw [if_neg q] at h
          have := cmpT_range s t
          omega
        have hps := plus_less ea.1.1 eb.1.1 ea.1.2.1 eb.1.2.1 (sm_mono ea.1.2.2 (by omega)) (sm_mono eb.1.2.2 (by omega)) (by omega : 0 ≤ cmpT s t)
        have hne : lessT s t ≠ nil := by
          intro z
          rw [z] at hps
          have : t = s := hps
          rw [this, cmpT_refl] at hst
          omega
        simp only [nextT, if_neg q]
        have ht := times_pow (t := t) (m := m) (d := d) (k := c) hne (by omega)
        rw [hps] at ht
        refine key _ ?_ ?_ (.inl ?_)
        · unfold pwT
          rw [if_neg (by omega)]
          obtain ⟨g1, g2, g3⟩ := less_parts (B := 1000000) (by omega) ea.1.1 ea.1.2.1 eb.1.2.1 ea.1.2.2 (by omega : 0 ≤ cmpT s t)
          have := lessT_size s t
          exact ⟨⟨⟨fun _ h => (by cases h), trivial⟩, ⟨c1, trivial⟩, ⟨g3, ec, trivial⟩, by simp only [size]; omega⟩, ⟨⟨g1, g2, g3⟩, trivial⟩⟩
        · rw [ht, cmp_sameE, cmpI_refl, if_pos rfl]
          cases l <;> simp [cmpT]
        · rw [ht]
          simp only [lessT, cmpT_refl, if_true, lessT_nil, len]
          omega
end Go.Proofs.Try

namespace Go.Proofs.Try
open Go Go.AX T
/-! ### copies -/
def addT (a b : T) : T × Bool := if ordP a && ordP b then toldT (plusT a b) else (nil, false)
def cmpO (a b : T) : Int × Bool := if ordP a && ordP b then (cmpT a b, true) else (0, false)
/-! ### the same -/
theorem addT_ok {a b : T} (h : (addT a b).2 = true) : ordP a = true ∧ ordP b = true ∧ ordP (plusT a b) = true ∧ (addT a b).1 = plusT a b := by
  unfold addT toldT at *
  cases ha : ordP a <;> cases hb : ordP b <;> simp only [ha, hb, Bool.and_self, Bool.and_true, Bool.and_false, if_true] at h ⊢ <;> try (simp at h)
  cases hs : ordP (plusT a b) <;> simp [hs] at h ⊢
theorem addT_of {a b : T} (ha : ordP a = true) (hb : ordP b = true) (hs : ordP (plusT a b) = true) : addT a b = (plusT a b, true) := by
  unfold addT toldT
  rw [ha, hb, Bool.and_self, if_pos rfl, if_pos hs]
end Go.Proofs.Try

namespace Go.Proofs.Try
open Go Go.AX T
theorem pw_rt {k : Int} (hk : 1 ≤ k ∧ k ≤ 1000000) : rt 1000000 31 (pwT nil k) := by
  unfold pwT
  rw [if_neg (by omega)]
  exact ⟨⟨⟨fun _ h => (by cases h), trivial⟩, ⟨hk.1, trivial⟩, ⟨trivial, by omega, trivial⟩, by simp [size]⟩, ⟨⟨trivial, trivial, trivial⟩, trivial⟩⟩
theorem quot_in {c d : Int} (h : 1 ≤ d ∧ d ≤ c ∧ c ≤ 1000000) : 1 ≤ w (c.tdiv d) ∧ w (c.tdiv d) ≤ 1000000 := by
  have hdiv : c.tdiv d = c / d := Int.tdiv_eq_ediv_of_nonneg (by omega)
  have hk1 : 1 ≤ c / d := Int.le_ediv_of_mul_le (by omega) (by omega)
  have hk2 : c / d ≤ c := Int.ediv_le_self _ (by omega)
  rw [hdiv, show w (c / d) = c / d from wid (by omega) (by omega)]
  omega
theorem div_rel {a b q x : T} {Q : Int} (ra : rt 1000000 30 a) (rb : rt 1000000 30 b) (rx : rt 1000000 31 x) (tx : okT 1000000000000 1000 (timesT b x)) (hge : 0 ≤ cmpT a (timesT b x)) (ra' : rt 1000000 30 (lessT a (timesT b x))) (fq : falls none q) (pq : posT q) (sq : sm Q q) (eq : exOk 1000000 q) (hQ : 0 ≤ Q ∧ Q ≤ 900000000) :
    plusT (timesT b (plusT q x)) (lessT a (timesT b x)) = plusT (timesT b q) a := by
  obtain ⟨⟨fb, pb, sb, zb⟩, eb⟩ := rb
  have hd := times_dist fb pb (sm_mono sb (by omega)) (exOk_mono eb (by omega)) fq (sm_mono sq (by omega)) (exOk_mono eq (by omega)) pq rx.1.1 (sm_mono rx.1.2.2.1 (by omega)) (exOk_mono rx.2 (by omega)) rx.1.2.1
  have hq : falls none (timesT b q) ∧ sm 1000000000000000 (timesT b q) := by
    cases b with
    | nil => exact ⟨trivial, trivial⟩
    | cons t d m =>
      have ed := sb.2.1
      have d1 := pb.1
      have hm : 1000000 * Q ≤ 1000000 * 900000000 := Int.mul_le_mul_of_nonneg_left hQ.2 (by omega)
      exact ⟨tmG_falls (c1 := d) eb.1.1 (sm_mono eb.1.2.2 (by omega)) fb.2 q none (fun r h => by cases h) fq (exOk_mono eq (by omega)), tmG_sm (B := 1000000) (C := Q) (sm_mono eb.1.2.2 (by omega)) ⟨by omega, ed.2⟩ sb.2.2 (by omega) q sq pq⟩
  rw [hd, ← plusT_assocX hq.2 (sm_mono tx.2.2.1 (by omega)) (sm_mono ra'.1.2.2.1 (by omega)) hq.1 tx.1]
  congr 1
  exact plus_lessX ra.1.1 tx.1 ra.1.2.1 tx.2.1 (sm_mono ra.1.2.2.1 (by omega)) (sm_mono tx.2.2.1 (by omega)) hge
end Go.Proofs.Try

namespace Go.Proofs.Try
open Go Go.AX T
theorem tmG_app {a1 a' : T} {c1 : Int} : ∀ b c : T, tmG a1 c1 a' (app b c) = app (tmG a1 c1 a' b) (tmG a1 c1 a' c)
  | nil, c => rfl
  | cons nil d m, c => by
    have ih := tmG_app (a1 := a1) (a' := a') (c1 := c1) m c
    rw [show app (cons nil d m) c = cons nil d (app m c) from rfl]
    simp only [tmG]
    rw [ih, app_assoc]
  | cons (cons x y z) d m, c => by
    have ih := tmG_app (a1 := a1) (a' := a') (c1 := c1) m c
    rw [show app (cons (cons x y z) d m) c = cons (cons x y z) d (app m c) from rfl]
    simp only [tmG]
    rw [ih]; rfl
theorem goP_ne (a f : T) (d : Int) (m : T) : ∃ x y z, goP a f d m = cons x y z := by
  induction a with
  | nil => exact ⟨f, d, m, rfl⟩
  | cons e c l ih1 ih =>
    simp only [goP]
    split
    · exact ⟨_, _, _, rfl⟩
    · split
      · exact ⟨_, _, _, rfl⟩
      · exact ih
theorem mul3 {a b c : Int} (ha : 0 ≤ a ∧ a ≤ 1000000) (hb : 0 ≤ b ∧ b ≤ 1000000) (hc : 0 ≤ c ∧ c ≤ 1000000) : w (w (a * b) * c) = w (a * w (b * c)) := by
  have h1 := mul_in ha hb
  have h2 := mul_in hb hc
  rw [show w (a * b) = a * b from wid (by omega) (by omega), show w (b * c) = b * c from wid (by omega) (by omega), Int.mul_assoc]
theorem tm_assoc0 {x1 x' : T} {c1 d1 : Int} (hc : 0 ≤ c1 ∧ c1 ≤ 1000000) (hd : 0 ≤ d1 ∧ d1 ≤ 1000000) : ∀ z : T, sm 1000000 z → posT z → tmG x1 (w (c1 * d1)) x' z = tmG x1 c1 x' (tmG nil d1 nil z)
  | nil, _, _ => rfl
  | cons nil d m, hs, hp => by
    have ih := tm_assoc0 (x1 := x1) (x' := x') hc hd m hs.2.2 hp.2
    have := hp.1
    have := hs.2.1
    simp only [tmG]
    rw [ih, mul3 hc hd (by omega)]
    rw [show app (cons nil (w (d1 * d)) nil) (tmG nil d1 nil m) = cons nil (w (d1 * d)) (tmG nil d1 nil m) from rfl]
    simp only [tmG]
  | cons (cons x y z) d m, hs, hp => by
    have ih := tm_assoc0 (x1 := x1) (x' := x') hc hd m hs.2.2 hp.2
    simp only [tmG]
    rw [ih, plusT_nilL]
    simp only [tmG]
theorem tm_assoc1 {x1 x' y1 y' : T} {c1 d1 : Int} (fx : falls none x1) (sx : sm 1000000000 x1) (fy : falls none y1) (sy : sm 1000000000 y1) (hy : y1 ≠ nil) : ∀ z : T, exOk 1000000000 z → tmG (plusT x1 y1) d1 (tmG x1 c1 x' y') z = tmG x1 c1 x' (tmG y1 d1 y' z)
  | nil, _ => rfl
  | cons nil d m, he => by
    have ih := tm_assoc1 (x' := x') (y' := y') (c1 := c1) (d1 := d1) fx sx fy sy hy m he.2
    simp only [tmG]
    rw [ih, tmG_app]
    cases y1 with
    | nil => exact absurd rfl hy
    | cons p q r => simp only [tmG]
  | cons (cons x y z) d m, he => by
    have ih := tm_assoc1 (x' := x') (y' := y') (c1 := c1) (d1 := d1) fx sx fy sy hy m he.2
    simp only [tmG]
    rw [ih, ← plusT_assocB sx sy he.1.2.2 fx fy]
    obtain ⟨p, q, r, e⟩ := goP_ne y1 x y z
    have e : plusT y1 (cons x y z) = cons p q r := e
    rw [e]
    simp only [tmG]
/-- Products are associative. -/
theorem tm_assoc {x1 x' y1 y' : T} {c1 d1 : Int} (fx : falls none x1) (sx : sm 1000000000 x1) (fy : falls none y1) (sy : sm 1000000000 y1) (hy : falls (some y1) y') (hc : 0 ≤ c1 ∧ c1 ≤ 1000000) (hd : 0 ≤ d1 ∧ d1 ≤ 1000000) {z : T} (ez : exOk 1000000000 z) (sz : sm 1000000 z) (pz : posT z) :
    timesT (tmG x1 c1 x' (cons y1 d1 y')) z = tmG x1 c1 x' (tmG y1 d1 y' z) := by
  cases y1 with
  | nil =>
    obtain rfl := falls_low hy
    simp only [tmG, T.app_nil, timesT]
    exact tm_assoc0 hc hd z sz pz
  | cons p q r =>
    have := tm_assoc1 (x' := x') (y' := y') (c1 := c1) (d1 := d1) fx sx fy sy (by simp) z ez
    simp only [tmG, timesT]
    exact this
/-! ### right, but for the nodes -/
def deepF : T → Prop
  | nil => True
  | cons e _ l => (falls none e ∧ posT e ∧ deepF e) ∧ deepF l
theorem form_deep {p : Option T} {t : T} (h : formA p t = true) : deepF t := by
  induction t generalizing p with
  | nil => trivial
  | cons e c l ih1 ih =>
    simp only [formA, Bool.and_eq_true, decide_eq_true_eq] at h
    exact ⟨⟨form_falls h.1.1.2, form_posT h.1.1.2, ih1 h.1.1.2⟩, ih h.2⟩
theorem form_of {t : T} : ∀ {p : Option T}, falls p t → posT t → deepF t → sm 1000000 t → formA p t = true := by
  induction t with
  | nil => intros; rfl
  | cons e c l ih1 ih =>
    intro p f q d s
    simp only [formA, Bool.and_eq_true, decide_eq_true_eq]
    refine ⟨⟨⟨⟨q.1, s.2.1.2⟩, ih1 d.1.1 d.1.2.1 d.1.2.2 s.1⟩, ?_⟩, ih f.2 q.2 d.2 s.2.2⟩
    cases p with
    | none => rfl
    | some r => exact decide_eq_true (f.1 r rfl)
theorem ordP_of {t : T} (f : falls none t) (q : posT t) (d : deepF t) (s : sm 1000000 t) (h : dp t ≤ 6) (z : t.size ≤ 29) : ordP t = true := by
  have := nodes_size t
  simp only [ordP, Bool.and_eq_true, decide_eq_true_eq]
  exact ⟨⟨by omega, h⟩, form_of f q d s⟩
theorem ordP_parts {t : T} (h : ordP t = true) : (falls none t ∧ posT t ∧ deepF t) ∧ sm 1000000 t ∧ dp t ≤ 6 ∧ t.size ≤ 29 := by
  have h1 := h
  have := nodes_size t
  simp only [ordP, Bool.and_eq_true, decide_eq_true_eq] at h1
  exact ⟨⟨form_falls h1.2, form_posT h1.2, form_deep h1.2⟩, form_sm h1.2, h1.1.2, by omega⟩
theorem deepF_app {a b : T} : deepF (app a b) ↔ deepF a ∧ deepF b := by
  induction a with
  | nil => simp [app, deepF]
  | cons e c l _ ih => simp only [app, deepF, ih, and_assoc]
theorem deepF_goP {a f m : T} {d : Int} (ha : deepF a) (hf : falls none f ∧ posT f ∧ deepF f) (hm : deepF m) : deepF (goP a f d m) := by
  induction a with
  | nil => exact ⟨hf, hm⟩
  | cons e c l _ ih =>
    simp only [goP]
    split
    · exact ⟨ha.1, ih ha.2⟩
    · split
      · exact ⟨ha.1, hm⟩
      · exact ih ha.2
theorem deepF_plus {a b : T} (ha : deepF a) (hb : deepF b) : deepF (plusT a b) := by
  cases b with
  | nil => exact ha
  | cons f d m => exact deepF_goP ha hb.1 hb.2
theorem exOk_deep {B : Int} {t : T} (d : deepF t) (s : sm B t) : exOk B t := by
  induction t with
  | nil => trivial
  | cons e c l _ ih => exact ⟨⟨d.1.1, d.1.2.1, s.1⟩, ih d.2 s.2.2⟩
theorem tmG_deep {a1 a' : T} {c1 : Int} (f1 : falls none a1 ∧ posT a1 ∧ deepF a1) (s1 : sm 1000000000 a1) (d' : deepF a') : ∀ b : T, deepF b → sm 1000000000 b → deepF (tmG a1 c1 a' b)
  | nil, _, _ => trivial
  | cons nil d m, hd, hs => by
    have ih := tmG_deep (c1 := c1) f1 s1 d' m hd.2 hs.2.2
    simp only [tmG, deepF_app]
    exact ⟨⟨f1, d'⟩, ih⟩
  | cons (cons x y z) d m, hd, hs => by
    have ih := tmG_deep (c1 := c1) f1 s1 d' m hd.2 hs.2.2
    exact ⟨⟨falls_plusT f1.1 hd.1.1, posT_plus s1 hs.1 f1.2.1 hd.1.2.1, deepF_plus f1.2.2 hd.1.2.2⟩, ih⟩
/-! ### what is multiplied grows -/
theorem goP_grow {a f m : T} {d : Int} (pa : posT a) (sa : sm 1000000000 a) (hd : 0 ≤ d ∧ d ≤ 1000000000) : f.size + m.size + 1 ≤ (goP a f d m).size ∧ dp (cons f d m) ≤ dp (goP a f d m) ∧ (sm 1000000 (goP a f d m) → sm 1000000 (cons f d m)) := by
  induction a with
  | nil => exact ⟨by simp [goP, size], Nat.le_refl _, fun h => h⟩
  | cons e c l _ ih =>
    have ih := ih pa.2 sa.2.2
    have b1 := sa.2.1
    have p1 := pa.1
    simp only [goP]
    split
    · refine ⟨by simp only [size]; omega, ?_, fun h => ih.2.2 h.2.2⟩
      have := ih.2.1
      simp only [dp] at this ⊢; omega
    · split
      · rename_i q
        obtain rfl := cmpT_eq.1 q
        refine ⟨by simp only [size]; omega, by simp only [dp]; omega, fun h => ⟨h.1, ?_, h.2.2⟩⟩
        have := h.2.1
        rw [show w (c + d) = c + d from wid (by omega) (by omega)] at this
        omega
      · exact ih
theorem dp_app (a b : T) : dp (app a b) = max (dp a) (dp b) := by
  induction a with
  | nil => simp [app, dp]
  | cons e c l _ ih => simp only [app, dp, ih]; omega
theorem tm_grow {a1 a' : T} {c1 : Int} (hc : 1 ≤ c1 ∧ c1 ≤ 1000000) (pa : posT a1) (sa : sm 1000000000 a1) : ∀ b : T, posT b → sm 1000000000000 b → exOk 1000000000 b →
    b.size ≤ (tmG a1 c1 a' b).size ∧ dp b ≤ dp (tmG a1 c1 a' b) ∧ (sm 1000000 (tmG a1 c1 a' b) → sm 1000000 b)
  | nil, _, _, _ => ⟨Nat.zero_le _, Nat.zero_le _, fun _ => trivial⟩
  | cons nil d m, hp, hs, he => by
    have ih := tm_grow (a' := a') hc pa sa m hp.2 hs.2.2 he.2
    have p1 := hp.1
    have b1 := hs.2.1
    have hm := mul_in (B := 1000000) (C := 1000000000000) ⟨by omega, hc.2⟩ ⟨by omega, b1.2⟩
    have h1 : 1 * d ≤ c1 * d := Int.mul_le_mul_of_nonneg_right hc.1 (by omega)
    have e1 : w (c1 * d) = c1 * d := wid (by omega) (by omega)
    simp only [tmG]
    refine ⟨by simp only [size_app, size]; omega, ?_, fun h => ?_⟩
    · simp only [dp_app, dp]; have := ih.2.1; omega
    · have h := sm_app.1 h
      refine ⟨trivial, ?_, ih.2.2 h.2⟩
      have := h.1.2.1
      omega
  | cons (cons x y z) d m, hp, hs, he => by
    have ih := tm_grow (a' := a') hc pa sa m hp.2 hs.2.2 he.2
    have hg := goP_grow (a := a1) (f := x) (m := z) (d := y) pa sa ⟨by have := he.1.2.1.1; omega, he.1.2.2.2.1.2⟩
    simp only [tmG]
    refine ⟨?_, ?_, fun h => ⟨hg.2.2 h.1, h.2.1, ih.2.2 h.2.2⟩⟩
    · rw [show (cons (cons x y z) d m).size = (cons x y z).size + m.size + 1 from rfl, show (cons (plusT a1 (cons x y z)) d (tmG a1 c1 a' m)).size = (plusT a1 (cons x y z)).size + (tmG a1 c1 a' m).size + 1 from rfl, show (cons x y z).size = x.size + z.size + 1 from rfl, show plusT a1 (cons x y z) = goP a1 x y z from rfl]
      omega
    · rw [show dp (cons (cons x y z) d m) = max (1 + dp (cons x y z)) (dp m) from rfl, show dp (cons (plusT a1 (cons x y z)) d (tmG a1 c1 a' m)) = max (1 + dp (plusT a1 (cons x y z))) (dp (tmG a1 c1 a' m)) from rfl, show plusT a1 (cons x y z) = goP a1 x y z from rfl]
      omega
/-- A product that is right has a right second factor. -/
theorem ord_of_times {a1 a' b : T} {c1 : Int} (hc : 1 ≤ c1 ∧ c1 ≤ 1000000) (pa : posT a1) (sa : sm 1000000000 a1) (fb : falls none b) (pb : posT b) (db : deepF b) (sb : sm 1000000000000 b) (eb : exOk 1000000000 b) (h : ordP (tmG a1 c1 a' b) = true) : ordP b = true := by
  obtain ⟨_, h2, h3, h4⟩ := ordP_parts h
  obtain ⟨g1, g2, g3⟩ := tm_grow (a' := a') hc pa sa b pb sb eb
  exact ordP_of fb pb db (g3 h2) (by omega) (by omega)
/-! ### how large a product is -/
theorem tm_size2 {a1 a' : T} {c1 : Int} : ∀ (b : T) (p : Option T), falls p b → (tmG a1 c1 a' b).size ≤ b.size * (a1.size + 1) + a'.size
  | nil, _, _ => by simp [tmG, size]
  | cons nil d m, p, h => by
    obtain rfl := falls_low h.2
    simp only [tmG, T.app_nil, size]; omega
  | cons (cons x y z) d m, p, h => by
    have ih := tm_size2 (a1 := a1) (a' := a') (c1 := c1) m _ h.2
    have h1 := plusT_size a1 (cons x y z)
    simp only [tmG]
    rw [show (cons (plusT a1 (cons x y z)) d (tmG a1 c1 a' m)).size = (plusT a1 (cons x y z)).size + (tmG a1 c1 a' m).size + 1 from rfl, show (cons (cons x y z) d m).size = (cons x y z).size + m.size + 1 from rfl, Nat.add_mul, Nat.add_mul, Nat.one_mul]
    have : (cons x y z).size ≤ (cons x y z).size * (a1.size + 1) := Nat.le_mul_of_pos_right _ (by omega)
    omega
theorem tm_sm2 {B D : Int} {a1 a' : T} {c1 : Int} (s1 : sm B a1) (hc : 0 ≤ c1 ∧ c1 ≤ 1000000) (s' : sm D a') (hB : 0 ≤ B ∧ B + 1000000 ≤ D ∧ 1000000000000 ≤ D ∧ D ≤ 1000000000000000) : ∀ b : T, sm 1000000 b → posT b → sm D (tmG a1 c1 a' b)
  | nil, _, _ => trivial
  | cons nil d m, hs, hp => by
    have ih := tm_sm2 s1 hc s' hB m hs.2.2 hp.2
    have hm := mul_in hc ⟨by have := hp.1; omega, hs.2.1.2⟩
    simp only [tmG, sm_app]
    refine ⟨⟨sm_mono s1 (by omega), ?_, s'⟩, ih⟩
    rw [show w (c1 * d) = c1 * d from wid (by omega) (by omega)]; omega
  | cons (cons x y z) d m, hs, hp => by
    have ih := tm_sm2 s1 hc s' hB m hs.2.2 hp.2
    have h1 := hs.2.1
    exact ⟨sm_mono (plusT_sm s1 hs.1 ⟨by omega, by omega, by omega⟩) (by omega), ⟨by omega, by omega⟩, ih⟩
/-! ### the power: x, multiplied by a again and again -/
def qT (a x : T) : Nat → T
  | 0 => x
  | n + 1 => timesT (qT a x n) a
/-- How the products look after i steps. -/
def qInv (i : Nat) (t : T) : Prop := ∃ x1 c x', t = cons x1 c x' ∧ (falls none x1 ∧ posT x1 ∧ deepF x1) ∧ sm (3000000 + i * 1000000) x1 ∧ x1.size ≤ 1000 + 30 * i ∧ (1 ≤ c ∧ c ≤ 1000000) ∧ (falls (some x1) x' ∧ posT x' ∧ deepF x') ∧ (sm 1000000000000 x' ∧ exOk (3000000 + i * 1000000) x') ∧ x'.size ≤ i * 70000
theorem qInv_step {a1 a' t : T} {d1 : Int} {i : Nat} (ha : ordP (cons a1 d1 a') = true) (hz : a1 ≠ nil) (hi : i ≤ 40) (h : qInv i t) : qInv (i + 1) (timesT t (cons a1 d1 a')) := by
  obtain ⟨x1, c, x', rfl, ⟨f1, p1, e1⟩, s1, z1, hc, ⟨f', p', e'⟩, ⟨s', x9⟩, z'⟩ := h
  obtain ⟨⟨fa, pa, da⟩, sa, _, za⟩ := ordP_parts ha
  simp only [size] at za
  have s9 : sm 1000000000 x1 := sm_mono s1 (by omega)
  have hd : tmG x1 c x' (cons a1 d1 a') = cons (plusT x1 a1) d1 (tmG x1 c x' a') := by
    cases a1 with
    | nil => exact absurd rfl hz
    | cons p q r => rfl
  refine ⟨plusT x1 a1, d1, tmG x1 c x' a', hd, ⟨falls_plusT f1 da.1.1, posT_plus s9 (sm_mono sa.1 (by omega)) p1 da.1.2.1, deepF_plus e1 da.1.2.2⟩, ?_, ?_, ⟨pa.1, sa.2.1.2⟩, ⟨?_, ?_, ?_⟩, ⟨?_, ?_⟩, ?_⟩
  · exact sm_mono (plusT_sm s1 sa.1 ⟨by omega, by omega, by omega⟩) (by omega)
  · have := plusT_size x1 a1; omega
  · exact tmG_falls (c1 := c) f1 s9 f' a' (some a1) (fun r hr => by cases hr; exact ⟨da.1.2.1, sm_mono sa.1 (by omega)⟩) fa.2 (exOk_mono (exOk_deep da.2 sa.2.2) (by omega))
  · exact tmG_pos (B := 1000000) (C := 1000000) hc p' (by omega) a' sa.2.2 pa.2
  · exact tmG_deep ⟨f1, p1, e1⟩ s9 e' a' da.2 (sm_mono sa.2.2 (by omega))
  · exact tm_sm2 s1 ⟨by omega, hc.2⟩ s' ⟨by omega, by omega, by omega, by omega⟩ a' sa.2.2 pa.2
  · exact tmG_exOk (B := 3000000 + i * 1000000) (C := 1000000) ⟨f1, p1, s1⟩ (exOk_mono x9 (by omega)) ⟨by omega, by omega, by omega, by omega, by omega⟩ a' (exOk_deep da.2 sa.2.2)
  · have h1 := tm_size2 (a1 := x1) (a' := x') (c1 := c) a' _ fa.2
    have h2 : a'.size * (x1.size + 1) ≤ 29 * 2300 := Nat.mul_le_mul (by omega) (by omega)
    omega
theorem qInv_all {a1 a' x : T} {d1 : Int} (ha : ordP (cons a1 d1 a') = true) (hz : a1 ≠ nil) (hx : qInv 0 x) : ∀ n : Nat, n ≤ 41 → qInv n (qT (cons a1 d1 a') x n)
  | 0, _ => hx
  | n + 1, h => qInv_step ha hz (by omega) (qInv_all ha hz hx n (by omega))
theorem qInv_start {e : T} (f : falls none e) (p : posT e) (d : deepF e) (s : sm 3000000 e) (z : e.size ≤ 1000) : qInv 0 (cons e 1 nil) :=
  ⟨e, 1, nil, rfl, ⟨f, p, d⟩, sm_mono s (by omega), by omega, ⟨by omega, by omega⟩, ⟨trivial, trivial, trivial⟩, ⟨trivial, trivial⟩, by simp [size]⟩
theorem qInv_one : qInv 0 (cons nil 1 nil) := qInv_start trivial trivial trivial trivial (by simp [size])
theorem qInv_parts {t : T} {i : Nat} (h : qInv i t) (hi : i ≤ 41) : falls none t ∧ posT t ∧ deepF t ∧ sm 1000000000000 t ∧ exOk 1000000000 t ∧ t.size ≤ i * 70000 + 2300 := by
  obtain ⟨x1, c, x', rfl, ⟨f1, p1, e1⟩, s1, z1, hc, ⟨f', p', e'⟩, ⟨s', x9⟩, z'⟩ := h
  exact ⟨⟨fun _ h => (by cases h), f'⟩, ⟨hc.1, p'⟩, ⟨⟨f1, p1, e1⟩, e'⟩, ⟨sm_mono s1 (by omega), by omega, s'⟩, ⟨⟨f1, p1, sm_mono s1 (by omega)⟩, exOk_mono x9 (by omega)⟩, by simp only [size]; omega⟩
/-- Multiplying from the left comes to the same. -/
theorem qT_pre {a x1 x' : T} {c1 : Int} (fx : falls none x1) (sx : sm 1000000000 x1) (hc : 0 ≤ c1 ∧ c1 ≤ 1000000) (ha : ordP a = true) (hi : ∀ n : Nat, n ≤ 41 → qInv n (qT a (cons nil 1 nil) n)) : ∀ n : Nat, n ≤ 41 → tmG x1 c1 x' (qT a (cons nil 1 nil) n) = qT a (cons x1 c1 x') n
  | 0, _ => by simp only [qT, tmG, T.app_nil]; rw [Int.mul_one, show w c1 = c1 from wid (by omega) (by omega)]
  | n + 1, h => by
    have ih := qT_pre (x' := x') fx sx hc ha hi n (by omega)
    obtain ⟨⟨fa, pa, da⟩, sa, _, za⟩ := ordP_parts ha
    simp only [qT]
    rw [← ih]
    obtain ⟨y1, c, y', e, ⟨f1, p1, e1⟩, s1, z1, hc2, ⟨f', p', e'⟩, _, _⟩ := hi n (by omega)
    rw [e]
    exact (tm_assoc fx sx f1 (sm_mono s1 (by omega)) f' hc ⟨by omega, hc2.2⟩ (exOk_mono (exOk_deep da sa) (by omega)) sa pa).symm
theorem qT_shift {a x : T} : ∀ n : Nat, qT a (timesT x a) n = qT a x (n + 1)
  | 0 => rfl
  | n + 1 => by simp only [qT]; rw [qT_shift n]; rfl
theorem times_oneL {a : T} (s : sm 1000000 a) : timesT (cons nil 1 nil) a = a := by
  show tmG nil 1 nil a = a
  induction a with
  | nil => rfl
  | cons e d m _ ih =>
    have := s.2.1
    cases e with
    | nil => simp only [tmG, ih s.2.2]; rw [Int.one_mul, show w d = d from wid (by omega) (by omega)]; rfl
    | cons x y z => simp only [tmG, ih s.2.2, plusT_nilL]
theorem qT_right {a1 a' : T} {d1 : Int} (ha : ordP (cons a1 d1 a') = true) (hz : a1 ≠ nil) {n : Nat} (hn : n ≤ 40) (h : ordP (qT (cons a1 d1 a') (cons nil 1 nil) (n + 1)) = true) : ordP (qT (cons a1 d1 a') (cons nil 1 nil) n) = true := by
  obtain ⟨⟨fa, pa, da⟩, sa, _, za⟩ := ordP_parts ha
  have hi := qInv_all ha hz qInv_one
  rw [← qT_shift, times_oneL sa, ← qT_pre da.1.1 (sm_mono sa.1 (by omega)) ⟨by have := pa.1; omega, sa.2.1.2⟩ ha hi n (by omega)] at h
  obtain ⟨g1, g2, g3, g4, g5, _⟩ := qInv_parts (hi n (by omega)) (by omega)
  exact ord_of_times ⟨pa.1, sa.2.1.2⟩ da.1.2.1 (sm_mono sa.1 (by omega)) g1 g2 g3 g4 g5 h
theorem qT_rightE {a1 a' e : T} {d1 : Int} (ha : ordP (cons a1 d1 a') = true) (hz : a1 ≠ nil) (fe : falls none e) (pe : posT e) (se : sm 3000000 e) {n : Nat} (hn : n ≤ 40) (h : ordP (qT (cons a1 d1 a') (cons e 1 nil) n) = true) : ordP (qT (cons a1 d1 a') (cons nil 1 nil) n) = true := by
  have hi := qInv_all ha hz qInv_one
  rw [← qT_pre fe (sm_mono se (by omega)) ⟨by omega, by omega⟩ ha hi n (by omega)] at h
  obtain ⟨g1, g2, g3, g4, g5, _⟩ := qInv_parts (hi n (by omega)) (by omega)
  exact ord_of_times ⟨by omega, by omega⟩ pe (sm_mono se (by omega)) g1 g2 g3 g4 g5 h
end Go.Proofs.Try

namespace Go.Proofs.Try
open Go Go.AX T
def lastE : T → T
  | nil => nil
  | cons e _ nil => e
  | cons _ _ (cons f d m) => lastE (cons f d m)
def befT : T → T
  | nil => nil
  | cons e c nil => if 1 < c then cons e (w (c - 1)) nil else nil
  | cons e c (cons f d m) => cons e c (befT (cons f d m))
def limT (t : T) : Bool := match lastE t with
  | nil => false
  | cons _ _ _ => true
def powT (e : T) (n : Int) : T := if n = 0 then nil else cons e n nil
def fund : Nat → Int → T → T
  | 0, _, _ => nil
  | k + 1, n, a => plusT (befT a) (cond (limT (lastE a)) (powT (fund k n (lastE a)) 1) (powT (befT (lastE a)) n))
theorem lastE_snoc (l e : T) (c : Int) : lastE (app l (cons e c nil)) = e := by
  induction l with
  | nil => rfl
  | cons x d m _ ih =>
    cases m with
    | nil => rfl
    | cons y g r => simp only [app, lastE] at ih ⊢; exact ih
theorem befT_snoc (l e : T) (c : Int) : befT (app l (cons e c nil)) = app l (if 1 < c then cons e (w (c - 1)) nil else nil) := by
  induction l with
  | nil => simp only [app, befT]
  | cons x d m _ ih =>
    cases m with
    | nil => simp only [app, befT]
    | cons y g r => simp only [app, befT] at ih ⊢; rw [ih]
theorem form_snoc {p : Option T} {l e : T} {c : Int} (h : formA p (app l (cons e c nil)) = true) : 1 ≤ c ∧ c ≤ 1000000 ∧ formA none e = true := by
  induction l generalizing p with
  | nil =>
    simp only [app, formA, Bool.and_eq_true, decide_eq_true_eq] at h
    exact ⟨h.1.1.1.1, h.1.1.1.2, h.1.1.2⟩
  | cons x d m _ ih =>
    simp only [app, formA, Bool.and_eq_true] at h
    exact ih h.2
theorem falls_app {p : Option T} {l x : T} (h : falls p (app l x)) : falls p l := by
  induction l generalizing p with
  | nil => cases p <;> trivial
  | cons y d m _ ih => exact ⟨h.1, ih h.2⟩
theorem falls_gt {x l e : T} {c : Int} (h : falls (some x) (app l (cons e c nil))) : 0 < cmpT x e := by
  induction l generalizing x with
  | nil => exact h.1 x rfl
  | cons y d m _ ih => exact cmp_lt_of (h.1 x rfl) (by have := ih h.2; rcases cmpT_range y e with q | q | q <;> omega)
theorem goP_end {l e m : T} {c d : Int} {p : Option T} (h : falls p (app l (cons e c nil))) : goP l e d m = app l (cons e d m) := by
  induction l generalizing p with
  | nil => rfl
  | cons y g r _ ih =>
    have := falls_gt h.2
    have r1 := cmpT_range y e
    simp only [goP, app]
    rw [if_pos (by omega), ih h.2]
theorem falls_bef {p : Option T} {l e : T} {c d : Int} (h : falls p (app l (cons e c nil))) : falls p (app l (cons e d nil)) := by
  induction l generalizing p with
  | nil => exact ⟨h.1, trivial⟩
  | cons y g r _ ih => exact ⟨h.1, ih h.2⟩
theorem app_nil (a : T) : app a nil = a := by
  induction a with
  | nil => rfl
  | cons e c l _ ih => simp only [app, ih]
theorem befT_falls {p : Option T} {a : T} (h : falls p a) : falls p (befT a) := by
  rcases T.snoc a with rfl | ⟨l, e, c, rfl⟩
  · exact h
  · rw [befT_snoc]
    split
    · exact falls_bef h
    · rw [app_nil]; exact falls_app h
theorem befT_size (a : T) : (befT a).size ≤ a.size := by
  rcases T.snoc a with rfl | ⟨l, e, c, rfl⟩
  · simp [befT]
  · rw [befT_snoc]
    split <;> simp [size_app, size]
theorem befT_sm {B : Int} {a : T} (h : sm B a) (hB : B ≤ 1000000000000) : sm B (befT a) := by
  rcases T.snoc a with rfl | ⟨l, e, c, rfl⟩
  · exact h
  · rw [befT_snoc]
    obtain ⟨h1, h2, h3, _⟩ := sm_app.1 h
    split
    · refine sm_app.2 ⟨h1, h2, ?_, trivial⟩
      rw [show w (c - 1) = c - 1 from wid (by omega) (by omega)]; omega
    · exact sm_app.2 ⟨h1, trivial⟩
theorem lastE_size {a : T} (h : a ≠ nil) : (lastE a).size + 1 ≤ a.size := by
  rcases T.snoc a with rfl | ⟨l, e, c, rfl⟩
  · exact absurd rfl h
  · rw [lastE_snoc, size_app]; simp only [size]; omega
/-! ### the program's own -/
def zer (t : T) : Bool := match t with
  | nil => true
  | cons _ _ _ => false
theorem isZ (t : T) : impl_isZero t.rows = some (zer t) := by rw [impl_isZero_eq]; cases t <;> rfl
theorem odZ (t : T) : spec_odZero t.rows = some (zer t) := by
  unfold spec_odZero
  cases t with
  | nil => rfl
  | cons e c l =>
    rw [if_neg (by rw [lenI]; simp only [len]; omega)]; rfl
theorem snocLen (l e : T) (c : Int) : (app l (cons e c nil)).len = l.len + 1 := by rw [len_app]; rfl
theorem lastI {l e : T} {c : Int} (h : l.len ≤ cap) : IntKind.i64.wrap (((app l (cons e c nil)).rows.length : Int) - 1) = (l.len : Int) := by
  have h3 : cap = 1099511627776 := rfl
  rw [lenI, snocLen, wid (by omega) (by omega)]; omega
theorem takeS (l e : T) (c : Int) : (app l (cons e c nil)).rows.take (l.len : Int).toNat = l.rows := by
  rw [Int.toNat_natCast, rows_app, ← rows_len l]; exact List.take_left
theorem nilI : IntKind.i64.wrap (((nil : T).rows.length : Int) - 1) = -1 := by rw [lenI]; simp only [len]; exact wid (by omega) (by omega)
theorem finite_snoc {l e : T} {c : Int} (h : l.len ≤ cap) : spec_odFinite (app l (cons e c nil)).rows = some (cond (zer e) (c, l.rows) (0, (app l (cons e c nil)).rows)) := by
  unfold spec_odFinite
  rw [lastI h, if_pos (by omega), row_T rfl (snoc_last l e c), odZ, Option.bind_some]
  cases zer e with
  | false => rfl
  | true => rw [if_pos rfl, if_pos ⟨by omega, by rw [lenI, snocLen]; omega, rowsWide _⟩, takeS]; rfl
theorem zer_snoc (l e : T) (c : Int) : zer (app l (cons e c nil)) = false := by cases l <;> rfl
theorem powT_size (e : T) (n : Int) : (powT e n).size ≤ e.size + 1 := by unfold powT; split <;> simp [size]
theorem powT_falls (e : T) (n : Int) : falls none (powT e n) := by
  unfold powT; split
  · trivial
  · exact ⟨fun q hq => (by cases hq), trivial⟩
theorem powT_sm {B : Int} {e : T} {n : Int} (h : sm B e) (hn : -B ≤ n ∧ n ≤ B) : sm B (powT e n) := by
  unfold powT; split
  · trivial
  · exact ⟨h, hn, trivial⟩

/-! ### elements of fundamental sequences -/
theorem fund_size : ∀ (k : Nat) (n : Int) (a : T), (fund k n a).size ≤ (a.size + 1) * (a.size + 1)
  | 0, _, _ => Nat.zero_le _
  | k + 1, n, a => by
    have h1 := befT_size a
    by_cases hz : a = nil
    · subst hz
      have : (fund (k + 1) n nil).size ≤ 1 := by
        simp only [fund, limT, lastE, cond, befT]
        have := plusT_size nil (powT nil n)
        have := powT_size nil n
        simp only [size] at *; omega
      simpa [size] using this
    · have h2 := lastE_size hz
      have e : (a.size + 1) * (a.size + 1) = a.size * a.size + 2 * a.size + 1 := by rw [Nat.add_mul, Nat.mul_add]; omega
      rw [e]
      simp only [fund]
      generalize lastE a = x at *
      have m : (x.size + 1) * (x.size + 1) ≤ a.size * a.size := Nat.mul_le_mul h2 h2
      have ih := fund_size k n x
      have b := befT_size x
      cases limT x with
      | true =>
        simp only [cond]
        have := plusT_size (befT a) (powT (fund k n x) 1)
        have := powT_size (fund k n x) 1
        omega
      | false =>
        simp only [cond]
        have := plusT_size (befT a) (powT (befT x) n)
        have := powT_size (befT x) n
        omega
theorem fund_sm (n : Int) (hn : 0 ≤ n ∧ n ≤ 1000) : ∀ (k : Nat) (a : T), sm 1000000 a → a.size ≤ 100 → sm (1000000 * ((a.size : Int) + 1)) (fund k n a)
  | 0, _, _, _ => trivial
  | k + 1, a, ha, hs => by
    have hb := befT_sm ha (by omega)
    by_cases hz : a = nil
    · subst hz
      simp only [fund, limT, lastE, cond, befT]
      have : sm 1000000 (powT (nil : T) n) := powT_sm trivial (by omega)
      have := plusT_sm (a := nil) (B := 0) trivial this (by omega)
      exact sm_mono this (by simp [size])
    · have h2 := lastE_size hz
      have hx : sm 1000000 (lastE a) := by
        rcases T.snoc a with rfl | ⟨l, e, c, rfl⟩
        · exact absurd rfl hz
        · rw [lastE_snoc]; exact (sm_app.1 ha).2.1
      simp only [fund]
      generalize lastE a = x at *
      have ih := fund_sm n hn k x hx (by omega)
      have b := befT_sm hx (by omega)
      cases limT x with
      | true =>
        simp only [cond]
        exact sm_mono (plusT_sm hb (powT_sm (n := 1) ih (by omega)) (by omega)) (by omega)
      | false =>
        simp only [cond]
        exact sm_mono (plusT_sm hb (powT_sm (B := 1000000) (n := n) b (by omega)) (by omega)) (by omega)
theorem lim_ne {a : T} (h : limT a = true) : a ≠ nil ∧ lastE a ≠ nil := by
  unfold limT at h
  refine ⟨?_, ?_⟩
  · rintro rfl; cases h
  · intro e; rw [e] at h; cases h
theorem form_lastE {a : T} (h : formA none a = true) : formA none (lastE a) = true := by
  rcases T.snoc a with rfl | ⟨l, e, c, rfl⟩
  · rfl
  · rw [lastE_snoc]; exact (form_snoc h).2.2
end Go.Proofs.Try

namespace Go.Proofs.Try
open Go Go.AX T
/-! ### the part that is a limit, and what is left -/
def limB : T → T
  | nil => nil
  | cons nil _ _ => nil
  | cons (cons x y z) c l => cons (cons x y z) c (limB l)
def finB : T → Int
  | nil => 0
  | cons nil c _ => c
  | cons (cons _ _ _) _ l => finB l
def nzE : T → Prop
  | nil => True
  | cons e _ l => e ≠ nil ∧ nzE l
theorem lim_nz : ∀ b : T, nzE (limB b)
  | nil => trivial
  | cons nil _ _ => trivial
  | cons (cons x y z) c l => ⟨by simp, lim_nz l⟩
theorem lim_parts : ∀ (b : T) (p : Option T), falls p b → posT b → deepF b → sm 1000000 b → falls p (limB b) ∧ posT (limB b) ∧ deepF (limB b) ∧ sm 1000000 (limB b) ∧ dp (limB b) ≤ dp b ∧ (limB b).size ≤ b.size ∧ 0 ≤ finB b ∧ finB b ≤ 1000000
  | nil, _, _, _, _, _ => ⟨trivial, trivial, trivial, trivial, Nat.le_refl _, Nat.le_refl _, by simp [finB], by simp [finB]⟩
  | cons nil c l, p, _, hp, _, hs => ⟨trivial, trivial, trivial, trivial, Nat.zero_le _, Nat.zero_le _, by have := hp.1; simp only [finB]; omega, hs.2.1.2⟩
  | cons (cons x y z) c l, p, hf, hp, hd, hs => by
    obtain ⟨h1, h2, h3, h4, h5, h6, h7, h8⟩ := lim_parts l _ hf.2 hp.2 hd.2 hs.2.2
    exact ⟨⟨hf.1, h1⟩, ⟨hp.1, h2⟩, ⟨hd.1, h3⟩, ⟨hs.1, hs.2.1, h4⟩, by simp only [limB, dp]; omega, by simp only [limB, size]; omega, h7, h8⟩
theorem lim_ord {b : T} (h : ordP b = true) : ordP (limB b) = true ∧ 0 ≤ finB b ∧ finB b ≤ 1000000 := by
  obtain ⟨⟨fb, pb, db⟩, sb, h3, h4⟩ := ordP_parts h
  obtain ⟨h1, h2, h5, h6, h7, h8, h9⟩ := lim_parts b none fb pb db sb
  exact ⟨ordP_of h1 h2 h5 h6 (by omega) (by omega), h9⟩
theorem lim_app {e : T} {c : Int} : ∀ (l : T) (p : Option T), falls p (app l (cons e c nil)) → (e = nil → limB (app l (cons e c nil)) = l ∧ finB (app l (cons e c nil)) = c) ∧ (e ≠ nil → limB (app l (cons e c nil)) = app l (cons e c nil) ∧ finB (app l (cons e c nil)) = 0)
  | nil, p, _ => by
    refine ⟨fun h => by subst h; exact ⟨rfl, rfl⟩, fun h => ?_⟩
    cases e with
    | nil => exact absurd rfl h
    | cons x y z => exact ⟨rfl, rfl⟩
  | cons f d m, p, h => by
    obtain ⟨h1, h2⟩ := lim_app m _ h.2
    have h3 := falls_gt h.2
    cases f with
    | nil => exfalso; cases e <;> simp [cmpT] at h3
    | cons x y z =>
      exact ⟨fun q => ⟨by simp only [app, limB]; rw [(h1 q).1], (h1 q).2⟩, fun q => ⟨by simp only [app, limB]; rw [(h2 q).1], (h2 q).2⟩⟩
theorem sfinite_eq {b : T} (h : ordP b = true) : spec_odFinite b.rows = some (finB b, (limB b).rows) := by
  have hz := ordP_size h
  have h3 : cap = 1099511627776 := rfl
  rcases T.snoc b with rfl | ⟨l, e, c, rfl⟩
  · rfl
  · have hl := l.len_size
    rw [size_app] at hz
    rw [finite_snoc (by omega)]
    obtain ⟨h1, h2⟩ := lim_app l none (form_falls (ordP_form h))
    cases e with
    | nil => rw [(h1 rfl).1, (h1 rfl).2]; rfl
    | cons x y z => rw [(h2 (by simp)).1, (h2 (by simp)).2]; rfl
/-! ### a limit divided by w -/
def oneT : T := cons nil 1 nil
def wT : T := cons oneT 1 nil
def decT : T → T
  | nil => nil
  | cons e c l => cons (lessT e oneT) c (decT l)
theorem ge_one {s : T} (hs : s ≠ nil) (ps : posT s) : 0 ≤ cmpT s oneT := by
  cases s with
  | nil => exact absurd rfl hs
  | cons e c l =>
    have := ps.1
    simp only [oneT, cmpT]
    cases e with
    | cons x y z => simp [cmpT]
    | nil =>
      simp only [cmpT, if_true]
      split
      · cases l <;> simp [cmpT]
      · unfold cmpI; split <;> (try split) <;> omega
theorem one_rt : okT 1000000 1 oneT := ⟨⟨fun _ h => (by cases h), trivial⟩, ⟨by omega, trivial⟩, ⟨trivial, by omega, trivial⟩, by simp [oneT, size]⟩
theorem one_less {s : T} (hs : s ≠ nil) (fs : falls none s) (ps : posT s) (ss : sm 1000000 s) : plusT oneT (lessT s oneT) = s :=
  plus_less fs one_rt.1 ps one_rt.2.1 (sm_mono ss (by omega)) (sm_mono one_rt.2.2.1 (by omega)) (ge_one hs ps)
theorem less_cmp {s t : T} (hs : s ≠ nil) (fs : falls none s) (ps : posT s) (ss : sm 1000000 s) (ht : t ≠ nil) (ft : falls none t) (pt : posT t) (st : sm 1000000 t) : cmpT (lessT s oneT) (lessT t oneT) = cmpT s t := by
  obtain ⟨_, g2, g3⟩ := less_parts (B := 1000000) (by omega) fs ps one_rt.2.1 ss (ge_one hs ps)
  obtain ⟨_, k2, k3⟩ := less_parts (B := 1000000) (by omega) ft pt one_rt.2.1 st (ge_one ht pt)
  have := plusT_cmp (a := oneT) one_rt.1 (sm_mono one_rt.2.2.1 (by omega)) g2 k2 (sm_mono g3 (by omega)) (sm_mono k3 (by omega))
  rw [one_less hs fs ps ss, one_less ht ft pt st] at this
  exact this.symm
/-- What right exponents above nothing make. -/
theorem dec_parts : ∀ (b : T) (p : Option T), (∀ q, p = some q → q ≠ nil ∧ falls none q ∧ posT q ∧ sm 1000000 q) → nzE b → falls p b → posT b → deepF b → sm 1000000 b → falls (p.map fun q => lessT q oneT) (decT b) ∧ posT (decT b) ∧ exOk 1000000 (decT b) ∧ sm 1000000 (decT b) ∧ (decT b).size ≤ b.size
  | nil, _, _, _, _, _, _, _ => ⟨trivial, trivial, trivial, trivial, Nat.le_refl _⟩
  | cons e c l, p, hp, hn, hf, hb, hd, hs => by
    obtain ⟨h1, h2, h3, h4, h5⟩ := dec_parts l (some e) (fun q hq => by cases hq; exact ⟨hn.1, hd.1.1, hd.1.2.1, hs.1⟩) hn.2 hf.2 hb.2 hd.2 hs.2.2
    have g := less_parts (B := 1000000) (by omega) hd.1.1 hd.1.2.1 one_rt.2.1 hs.1 (ge_one hn.1 hd.1.2.1)
    have z := lessT_size e oneT
    refine ⟨⟨fun r hr => ?_, h1⟩, ⟨hb.1, h2⟩, ⟨g, h3⟩, ⟨g.2.2, hs.2.1, h4⟩, by simp only [decT, size]; omega⟩
    cases p with
    | none => cases hr
    | some q =>
      obtain ⟨q1, q2, q3, q4⟩ := hp q rfl
      obtain rfl : lessT q oneT = r := Option.some.inj hr
      rw [less_cmp q1 q2 q3 q4 hn.1 hd.1.1 hd.1.2.1 hs.1]
      exact hf.1 q rfl
theorem falls_mid {x r : T} {c : Int} : ∀ {q y : T}, falls (some y) (app q (cons x c r)) → 0 < cmpT y x
  | nil, y, h => h.1 y rfl
  | cons f d m, y, h => cmp_lt_of (h.1 y rfl) (by have := falls_mid h.2; rcases cmpT_range f x with q | q | q <;> omega)
theorem goP_mid {x r m : T} {c : Int} : ∀ {q : T} {p : Option T}, falls p (app q (cons x c r)) → goP q x c m = app q (cons x c m)
  | nil, _, _ => rfl
  | cons f d l, p, h => by
    have h1 := falls_mid h.2
    have h2 := cmpT_range f x
    simp only [goP, app]
    rw [if_pos (by omega), goP_mid h.2]
theorem one_size : oneT.size = 1 := rfl
theorem w_size : wT.size = 2 := rfl
theorem w_ord : ordP wT = true := by decide
theorem one_ord : ordP oneT = true := by decide
/-! ### powers of finite ones -/
end Go.Proofs.Try

namespace Go.Proofs.Try
open Go Go.AX T
/-- A word: its runs. -/
inductive Wd where
  | nil
  | cons (p : Bool) (n : T) (l : Wd)
namespace Wd
def rowsW : Wd → Rw
  | nil => []
  | cons p n l => [.bool p, .sl n.rows] :: rowsW l
def sizeW : Wd → Nat
  | nil => 0
  | cons _ n l => 1 + n.size + sizeW l
def lenW : Wd → Nat
  | nil => 0
  | cons _ _ l => lenW l + 1
def dropW : Wd → Nat → Wd
  | w, 0 => w
  | nil, _ + 1 => nil
  | cons _ _ l, n + 1 => dropW l n
def appW : Wd → Wd → Wd
  | nil, b => b
  | cons p n l, b => cons p n (appW l b)
@[simp] theorem dropW_zero (w : Wd) : dropW w 0 = w := by cases w <;> rfl
@[simp] theorem dropW_nil (n : Nat) : dropW nil n = nil := by cases n <;> rfl
end Wd
open Wd
@[simp] theorem rowsW_len (w : Wd) : (rowsW w).length = lenW w := by
  induction w with
  | nil => rfl
  | cons p n l ih => simp [rowsW, lenW, ih]
theorem lenW_size (w : Wd) : lenW w ≤ sizeW w := by
  induction w with
  | nil => simp [lenW]
  | cons p n l ih => simp [lenW, sizeW]; omega
@[simp] theorem rowsW_app (a b : Wd) : rowsW (appW a b) = rowsW a ++ rowsW b := by
  induction a with
  | nil => rfl
  | cons p n l ih => simp [appW, rowsW, ih]
theorem rowsW_drop (w : Wd) (i : Nat) : rowsW (dropW w i) = (rowsW w).drop i := by
  induction w generalizing i with
  | nil => cases i <;> simp [rowsW]
  | cons p n l ih => cases i with
    | zero => simp [rowsW]
    | succ i => simp [dropW, rowsW, ih]
theorem rowsWideW (w : Wd) : ∀ cs ∈ rowsW w, cs.length = 2 := by
  induction w with
  | nil => intro cs h; cases h
  | cons p n l ih =>
    intro cs h
    simp only [rowsW, List.mem_cons] at h
    rcases h with rfl | h
    · rfl
    · exact ih cs h
theorem dropW_succ {w : Wd} {i : Nat} {p : Bool} {n : T} {l : Wd} (h : dropW w i = cons p n l) : dropW w (i + 1) = l := by
  induction w generalizing i with
  | nil => simp at h
  | cons q m r ih =>
    cases i with
    | zero => simp only [dropW, Wd.cons.injEq] at h ⊢; simp [h.2.2]
    | succ i => exact ih h
theorem dropW_size {w : Wd} {i : Nat} : sizeW (dropW w i) ≤ sizeW w := by
  induction w generalizing i with
  | nil => simp
  | cons p n l ih =>
    cases i with
    | zero => simp
    | succ i => simp only [dropW, sizeW]; have := ih (i := i); omega
theorem dropW_cons_size {w : Wd} {i : Nat} {p : Bool} {n : T} {l : Wd} (h : dropW w i = cons p n l) : 1 + n.size + sizeW l ≤ sizeW w := by
  have := dropW_size (w := w) (i := i); rw [h] at this; exact this
theorem dropW_len (w : Wd) (i : Nat) : lenW (dropW w i) = lenW w - i := by rw [← rowsW_len, rowsW_drop, List.length_drop, rowsW_len]
theorem dropW_lt {w : Wd} {i : Nat} {p : Bool} {n : T} {l : Wd} (h : dropW w i = cons p n l) : i < lenW w := by
  have := dropW_len w i; rw [h] at this; simp only [lenW] at this; omega
theorem dropW_ge {w : Wd} {i : Nat} (h : dropW w i = .nil) : lenW w ≤ i := by
  have := dropW_len w i; rw [h] at this; simp only [lenW] at this; omega
theorem dropW_of_ge {w : Wd} {i : Nat} (h : lenW w ≤ i) : dropW w i = .nil := by
  have := dropW_len w i
  cases hd : dropW w i with
  | nil => rfl
  | cons p n l => rw [hd] at this; simp only [lenW] at this; omega
theorem rowsW_get {w : Wd} {i : Nat} {p : Bool} {n : T} {l : Wd} (h : dropW w i = cons p n l) : (rowsW w)[i]? = some [.bool p, .sl n.rows] := by
  have := rowsW_drop w i
  rw [h] at this
  have h2 : ((rowsW w).drop i)[0]? = some [.bool p, .sl n.rows] := by rw [← this]; rfl
  rwa [List.getElem?_drop, Nat.add_zero] at h2
@[simp] theorem appW_nil (w : Wd) : appW w nil = w := by
  induction w with
  | nil => rfl
  | cons p n l ih => simp [appW, ih]
theorem appW_assoc (a b c : Wd) : appW (appW a b) c = appW a (appW b c) := by
  induction a with
  | nil => rfl
  | cons p n l ih => simp [appW, ih]
theorem sizeW_app (a b : Wd) : sizeW (appW a b) = sizeW a + sizeW b := by
  induction a with
  | nil => simp [appW, sizeW]
  | cons p n l ih => simp [appW, sizeW, ih]; omega
theorem lenW_app (a b : Wd) : lenW (appW a b) = lenW a + lenW b := by
  induction a with
  | nil => simp [appW, lenW]
  | cons p n l ih => simp [appW, lenW, ih]; omega
theorem dropW_app (l r : Wd) : dropW (appW l r) (lenW l) = r := by
  induction l with
  | nil => simp [appW, lenW]
  | cons p n l ih => exact ih
theorem snocW_len (l : Wd) (p : Bool) (n : T) : lenW (appW l (cons p n nil)) = lenW l + 1 := by rw [lenW_app]; rfl
theorem snocRowsW (l : Wd) (p : Bool) (n : T) : rowsW l ++ [[D.bool p, D.sl n.rows]] = rowsW (appW l (cons p n nil)) := by rw [rowsW_app]; rfl
theorem lenWI (w : Wd) : (((rowsW w).length : Nat) : Int) = (lenW w : Int) := by rw [rowsW_len]
@[simp] theorem cell_W {α : Type} (p : Bool) (x : Rw) (K : Bool → Rw → Option α) : cell_bs [.bool p, .sl x] K = K p x := rfl
theorem row_W {α : Type} {w : Wd} {i : Int} {j : Nat} (hi : i = j) {p : Bool} {n : T} {l : Wd} (h : dropW w j = cons p n l) (K : Bool → Rw → Option α) : row_bs (rowsW w) i K = K p n.rows := by
  subst hi
  unfold row_bs
  rw [if_pos (by omega), Int.toNat_natCast, rowsW_get h]; rfl
theorem setW (l r : Wd) (p p' : Bool) (n n' : T) : (rowsW (appW l (cons p n r))).set (lenW l) [D.bool p', D.sl n'.rows] = rowsW (appW l (cons p' n' r)) := by
  rw [rowsW_app, rowsW_app, ← rowsW_len l, List.set_append_right (h := Nat.le_refl _), Nat.sub_self]; rfl
/-! ### the exact laws' frame -/
def fitW : Wd → Prop
  | .nil => True
  | .cons _ n l => fitT n ∧ (n.len : Int) ≤ 9223372036854775807 ∧ fitW l
theorem toRun_eq {k : Nat} (p : Bool) (n : T) (h : n.size < k) (hc : n.size ≤ cap) : laws_toRun k p n.rows = some (p, n.rows) := by
  unfold laws_toRun
  rw [toOrd_eq k n h hc]
  cases p <;> rfl
theorem toWord_loop {k : Nat} {a : Wd} {K : Rw → Option Rw} (hk : sizeW a < k) (hc : sizeW a ≤ cap) :
    ∀ (t : Wd) (i : Nat) (done : Wd), sizeW t ≤ sizeW a → lenW done = i → laws_toRunS_l0 k (rowsW a) K (rowsW t) i (rowsW done ++ List.replicate (lenW t) [D.bool false, D.sl ([])]) = K (rowsW (appW done t))
  | .nil, i, done, _, hd => by
    simp only [rowsW, laws_toRunS_l0, lenW, List.replicate_zero, List.append_nil, rowsW_app]
  | .cons p n l, i, done, hs, hd => by
    simp only [sizeW] at hs
    simp only [rowsW, laws_toRunS_l0, cell_W, lenW]
    have hlen : (rowsW done ++ List.replicate (lenW l + 1) [D.bool false, D.sl ([])]).length = i + (lenW l + 1) := by rw [List.length_append, rowsW_len, hd, List.length_replicate]
    have hrow : ∀ {α : Type} (K : Bool → Rw → Option α), row_bs (rowsW done ++ List.replicate (lenW l + 1) [D.bool false, D.sl ([])]) (i : Int) K = K false [] := by
      intro α K
      unfold row_bs
      rw [if_pos (by omega), Int.toNat_natCast, List.getElem?_append_right (by rw [rowsW_len]; omega), rowsW_len, hd, Nat.sub_self, List.replicate_succ]
      rfl
    have hset : ∀ q : Bool, (rowsW done ++ List.replicate (lenW l + 1) [D.bool false, D.sl ([])]).set (i : Int).toNat [D.bool q, D.sl n.rows] = rowsW (appW done (.cons q n .nil)) ++ List.replicate (lenW l) [D.bool false, D.sl ([])] := by
      intro q
      rw [Int.toNat_natCast, List.set_append_right (h := by rw [rowsW_len]; omega), rowsW_len, hd, Nat.sub_self, List.replicate_succ, rowsW_app]
      simp [rowsW]
    have go : ∀ q : Bool, laws_toRunS_l0 k (rowsW a) K (rowsW l) (i + 1) (rowsW (appW done (.cons q n .nil)) ++ List.replicate (lenW l) [D.bool false, D.sl ([])]) = K (rowsW (appW done (.cons q n l))) := by
      intro q
      rw [toWord_loop hk hc l (i + 1) (appW done (.cons q n .nil)) (by omega) (by rw [snocW_len, hd]), appW_assoc]; rfl
    cases p with
    | true =>
      rw [if_pos rfl, toRun_eq true n (by omega) (by omega), Option.bind_some, if_pos rfl, if_pos ⟨by omega, by rw [hlen]; omega⟩, hrow, hset]
      exact go true
    | false =>
      rw [if_neg (by decide), toRun_eq false n (by omega) (by omega), Option.bind_some, if_neg (by simp), if_pos ⟨by omega, by rw [hlen]; omega⟩, hrow, hset]
      exact go false
theorem toWord_eq (k : Nat) (a : Wd) (h : sizeW a < k) (hc : sizeW a ≤ cap) : laws_toWord k (rowsW a) = some (rowsW a) := by
  have h3 : cap = 1099511627776 := rfl
  have hl := lenW_size a
  unfold laws_toWord laws_toRunS
  rw [if_pos (by rw [lenWI]; omega), if_pos (by rw [rowsW_len]; omega), lenWI, Int.toNat_natCast]
  have := toWord_loop (K := fun v69 => some v69) h hc a 0 .nil (Nat.le_refl _) rfl
  simp only [rowsW, List.nil_append, appW] at this
  rw [this]; rfl
theorem eqRun_refl {k : Nat} (p : Bool) (n : T) (h : n.size < k) (hc : n.size ≤ cap) : laws_eqRun k p n.rows p n.rows = some true := by
  unfold laws_eqRun
  rw [eqOrd_refl k n h hc]
  cases p <;> rfl
theorem eqWord_loop {k : Nat} {a : Wd} (hk : sizeW a < k) (hc : sizeW a ≤ cap) : ∀ (t : Wd) (i : Nat), dropW a i = t → laws_eqRunS_l0 k (rowsW a) (rowsW a) (some true) (rowsW t) i = some true
  | .nil, i, _ => rfl
  | .cons p n l, i, hd => by
    have hs := dropW_cons_size hd
    have ih := eqWord_loop hk hc l (i + 1) (dropW_succ hd)
    simp only [rowsW, laws_eqRunS_l0, cell_W]
    cases p with
    | true => rw [if_pos rfl, row_W rfl hd, if_pos rfl, eqRun_refl true n (by omega) (by omega), Option.bind_some, if_pos rfl]; exact ih
    | false => rw [if_neg (by decide), row_W rfl hd, if_neg (by decide), eqRun_refl false n (by omega) (by omega), Option.bind_some, if_pos rfl]; exact ih
theorem eqWord_refl (k : Nat) (a : Wd) (h : sizeW a < k) (hc : sizeW a ≤ cap) : laws_eqWord k (rowsW a) (rowsW a) = some true := by
  have hl := lenW_size a
  unfold laws_eqWord laws_eqRunS
  rw [if_pos rfl, if_pos (by rw [rowsW_len]; omega), eqWord_loop h hc a 0 (dropW_zero a)]; rfl
theorem szRun_eq {k : Nat} {v : Int} (p : Bool) (n : T) (h : n.size < k) (hf : fitT n) (hl : (n.len : Int) ≤ 9223372036854775807) (h0 : 0 ≤ v) (h1 : v ≤ 1048576) : ∃ r : Int, laws_szRun k p n.rows v = some r ∧ r ≤ v ∧ -1 ≤ r ∧ (0 ≤ r → r + n.size ≤ v) := by
  obtain ⟨r, e, q1, q2, q3⟩ := sz_eq k n v h hf hl h0 h1
  unfold laws_szRun
  rw [e]
  by_cases g : r < 0
  · refine ⟨-1, ?_, by omega, by omega, fun h => by omega⟩
    cases p <;> simp [cond, if_pos g]
  · refine ⟨r, ?_, q1, q2, q3⟩
    cases p <;> simp [cond, if_neg g]
theorem szWord_loop {k : Nat} {a : Wd} {K : Int → Option Int} (hk : sizeW a < k) : ∀ (t : Wd) (v : Int), sizeW t ≤ sizeW a → fitW t → 0 ≤ v → v ≤ 1048576 → (laws_szRunS_l0 k (rowsW a) K (rowsW t) v = some (-1)) ∨ ∃ r : Int, laws_szRunS_l0 k (rowsW a) K (rowsW t) v = K r ∧ 0 ≤ r ∧ r + sizeW t ≤ v + lenW t
  | .nil, v, _, _, h0, h1 => Or.inr ⟨v, rfl, h0, by simp [sizeW, lenW]⟩
  | .cons p n l, v, hs, hf, h0, h1 => by
    simp only [sizeW] at hs
    obtain ⟨r, e1, q1, q2, q3⟩ := szRun_eq (k := k) p n (by omega) hf.1 hf.2.1 h0 h1
    have key : laws_szRunS_l0 k (rowsW a) K (rowsW (.cons p n l)) v = if r < 0 then some (-1) else laws_szRunS_l0 k (rowsW a) K (rowsW l) r := by
      simp only [rowsW, laws_szRunS_l0, cell_W]
      cases p with
      | true => rw [if_pos rfl, e1, Option.bind_some]
      | false => rw [if_neg (by decide), e1, Option.bind_some]
    rw [key]
    by_cases g : r < 0
    · left; rw [if_pos g]
    · rw [if_neg g]
      rcases szWord_loop hk l r (by omega) hf.2.2 (by omega) (by omega) with h | ⟨u, h, p1, p2⟩
      · left; exact h
      · right; exact ⟨u, h, p1, by simp only [sizeW, lenW]; omega⟩
theorem szWord_eq (k : Nat) (a : Wd) (v : Int) (h : sizeW a < k) (hf : fitW a) (hl : (lenW a : Int) ≤ 9223372036854775807) (h0 : 0 ≤ v) (h1 : v ≤ 1048576) : ∃ r : Int, laws_szWord k (rowsW a) v = some r ∧ r ≤ v ∧ -1 ≤ r ∧ (0 ≤ r → r + sizeW a ≤ v) := by
  have h3 : cap = 1099511627776 := rfl
  unfold laws_szWord laws_szRunS
  have e1 : IntKind.i64.wrap (v - ((rowsW a).length : Int)) = v - (lenW a : Int) := by rw [lenWI, wid (by omega) (by omega)]
  rw [e1]
  by_cases g : v - (lenW a : Int) < 0
  · rw [if_pos g, Option.bind_some, if_pos (by omega)]
    exact ⟨-1, rfl, by omega, by omega, fun h => by omega⟩
  · rw [if_neg g, if_pos (by rw [rowsW_len]; omega)]
    rcases szWord_loop (a := a) (K := fun v22 => some v22) h a (v - (lenW a : Int)) (Nat.le_refl _) hf (by omega) (by omega) with q | ⟨r, q, p1, p2⟩
    · rw [q, Option.bind_some, if_pos (by omega)]
      exact ⟨-1, rfl, by omega, by omega, fun h => by omega⟩
    · rw [q, Option.bind_some, if_neg (by omega)]
      exact ⟨r, rfl, by omega, by omega, fun _ => by omega⟩
/-! ### marks -/
def mkW : Wd → Int → Wd
  | .nil, _ => .nil
  | .cons _ n l, k => .cons (decide (k.tmod 3 = 0)) (mkT n (k + 1)) (mkW l (k + 1 + n.size))
theorem mkW_len (t : Wd) (k : Int) : lenW (mkW t k) = lenW t := by
  induction t generalizing k with
  | nil => rfl
  | cons p n l ih => simp [mkW, lenW, ih]
end Go.Proofs.Try

namespace Go.Proofs.Try
open Go Go.AX T Wd
theorem NodesOf_eq (k : Nat) (a : T) (hk : a.size < k) (hc : a.size ≤ cap) : impl_NodesOf k a.rows = some (if ordP a = true then (1 + (nodesL a : Int), true) else (0, false)) := by
  obtain ⟨r, e, s, v⟩ := at1_eq k a hk hc
  unfold impl_NodesOf
  rw [e, Option.bind_some]
  by_cases h : ordP a = true
  · rw [if_pos h]
    have := s.2 h
    rw [if_pos this, v this]
  · rw [if_neg h]
    rw [if_neg fun q => h (s.1 q)]
def zr : T → Bool
  | .nil => true
  | .cons _ _ _ => false
theorem isZ0 (t : T) : impl_isZero t.rows = some (zr t) := by
  unfold impl_isZero
  cases t with
  | nil => rfl
  | cons e c l => rw [if_neg (by rw [lenI]; simp only [len]; omega)]; rfl
theorem odZ0 (t : T) : spec_odZero t.rows = some (zr t) := by
  unfold spec_odZero
  cases t with
  | nil => rfl
  | cons e c l => rw [if_neg (by rw [lenI]; simp only [len]; omega)]; rfl
/-- The nodes of a word's runs. -/
def wnodes : Wd → Nat
  | .nil => 0
  | .cons _ n l => 2 + nodesL n + wnodes l
/-- Runs that are right, and change their letter each time. -/
def wfW : Option Bool → Wd → Bool
  | _, .nil => true
  | q, .cons p n l => ordP n && (!zr n && ((match q with | none => true | some q => !(q == p)) && wfW (some p) l))
def wordP (w : Wd) : Bool := wfW none w && decide (1 + wnodes w ≤ 60)
/-- The letter of the run ahead of the i-th. -/
def aheadW (w : Wd) : Nat → Option Bool
  | 0 => none
  | i + 1 => match dropW w i with
    | .cons p _ _ => some p
    | .nil => none
theorem aheadW_succ {w : Wd} {i : Nat} {p : Bool} {n : T} {l : Wd} (h : dropW w i = .cons p n l) : aheadW w (i + 1) = some p := by simp [aheadW, h]
theorem aheadW_some {w : Wd} {i : Nat} (h0 : 0 < i) (h : i ≤ lenW w) : ∃ p n l, dropW w (i - 1) = .cons p n l ∧ aheadW w i = some p := by
  obtain ⟨j, rfl⟩ : ∃ j, i = j + 1 := ⟨i - 1, by omega⟩
  cases hq : dropW w j with
  | nil => have := dropW_ge hq; omega
  | cons p n l => exact ⟨p, n, l, hq, aheadW_succ hq⟩
theorem IsWord_step {k i : Nat} {a : Wd} {p : Bool} {n : T} {m : Int} {REC : Int → Option Bool} {R : Bool → Int → Option Bool} {b : Bool} (hR : ∀ q v, R q v = if (q == p) = true then some false else REC v) (hk : n.size < k) (hc : n.size ≤ cap) (h1 : 1 ≤ m) (h60 : m ≤ 60)
    (hi : i ≤ lenW a) (hla : lenW a ≤ cap) (hrec : m + 2 + nodesL n ≤ 60 → REC (m + 2 + nodesL n) = some b) (hb : ¬ (m + 2 + (nodesL n : Int) ≤ 60) → b = false) :
    ((impl_NodesOf k n.rows).bind fun y => (if y.2 = true then (if (60 : Int) < (IntKind.i64.wrap (m + (IntKind.i64.wrap (y.1 + 1)))) then some false else ((impl_isZero n.rows).bind fun z => (if z = true then some false else
      (if (0 : Int) < (i : Int) then (row_bs (rowsW a) (IntKind.i64.wrap ((i : Int) - 1)) fun x _ => R x (IntKind.i64.wrap (m + (IntKind.i64.wrap (y.1 + 1))))) else REC (IntKind.i64.wrap (m + (IntKind.i64.wrap (y.1 + 1)))))))) else some false)) =
    some (ordP n && (!zr n && ((match aheadW a i with | none => true | some q => !(q == p)) && b))) := by
  have h3 : cap = 1099511627776 := rfl
  rw [NodesOf_eq k n hk hc, Option.bind_some]
  by_cases ho : ordP n = true
  · have hn60 : nodesL n ≤ 60 := by simp only [ordP, Bool.and_eq_true, decide_eq_true_eq] at ho; omega
    rw [if_pos ho]
    simp only [if_true]
    have w1 : IntKind.i64.wrap ((1 + (nodesL n : Int)) + 1) = 2 + nodesL n := by rw [wid (by omega) (by omega)]; omega
    have w2 : IntKind.i64.wrap (m + (2 + (nodesL n : Int))) = m + 2 + nodesL n := by rw [wid (by omega) (by omega)]; omega
    rw [w1, w2]
    by_cases g : (60 : Int) < m + 2 + nodesL n
    · rw [if_pos g, hb (by omega)]
      simp
    · rw [if_neg g, isZ0, Option.bind_some]
      cases hz : zr n with
      | true => simp
      | false =>
        rw [if_neg (by decide)]
        have hrec := hrec (by omega)
        by_cases h0 : (0 : Int) < (i : Int)
        · obtain ⟨q, m', l', hq1, hq2⟩ := aheadW_some (w := a) (i := i) (by omega) hi
          rw [if_pos h0, wid (n := (i : Int) - 1) (by omega) (by omega), row_W (j := i - 1) (by omega) hq1, hR, hrec, hq2]
          rw [ho]
          cases q <;> cases p <;> simp
        · have : i = 0 := by omega
          subst this
          rw [if_neg h0, hrec]
          simp [ho, aheadW]
  · rw [if_neg ho]
    have : ordP n = false := by simpa using ho
    simp [this]
theorem IsWord_loop {k : Nat} {a : Wd} (hk : sizeW a < k) (hc : sizeW a ≤ cap) : ∀ (t : Wd) (i : Nat) (m : Int), dropW a i = t → i ≤ lenW a → 1 ≤ m → m ≤ 60 →
    impl_IsWord_l0 k (rowsW a) (some true) (rowsW t) i m = some (wfW (aheadW a i) t && decide (m + wnodes t ≤ 60))
  | .nil, i, m, hd, hi, h1, h60 => by
    rw [decide_eq_true (show m + ((wnodes .nil : Nat) : Int) ≤ 60 by simp only [wnodes]; omega)]; rfl
  | .cons p n l, i, m, hd, hi, h1, h60 => by
    have h3 : cap = 1099511627776 := rfl
    have hs := dropW_cons_size hd
    have hla := lenW_size a
    have ih : m + 2 + nodesL n ≤ 60 → impl_IsWord_l0 k (rowsW a) (some true) (rowsW l) (i + 1) (m + 2 + nodesL n) = some (wfW (some p) l && decide (m + (wnodes (.cons p n l) : Int) ≤ 60)) := by
      intro hle
      have := IsWord_loop hk hc l (i + 1) (m + 2 + nodesL n) (dropW_succ hd) (dropW_lt hd) (by omega) hle
      rw [this, aheadW_succ hd]
      have : (m + 2 + (nodesL n : Int) + (wnodes l : Int) ≤ 60) = (m + (wnodes (.cons p n l) : Int) ≤ 60) := by simp only [wnodes]; apply propext; omega
      simp only [this]
    have hb : ¬ (m + 2 + (nodesL n : Int) ≤ 60) → (wfW (some p) l && decide (m + (wnodes (.cons p n l) : Int) ≤ 60)) = false := by
      intro g
      have : decide (m + (wnodes (.cons p n l) : Int) ≤ 60) = false := decide_eq_false (by simp only [wnodes]; omega)
      rw [this, Bool.and_false]
    have e : (wfW (aheadW a i) (.cons p n l) && decide (m + (wnodes (.cons p n l) : Int) ≤ 60)) = (ordP n && (!zr n && ((match aheadW a i with | none => true | some q => !(q == p)) && (wfW (some p) l && decide (m + (wnodes (.cons p n l) : Int) ≤ 60))))) := by
      simp only [wfW, Bool.and_assoc]
    rw [e]
    simp only [rowsW, impl_IsWord_l0, cell_W]
    cases p with
    | true =>
      rw [if_pos rfl]
      exact IsWord_step (REC := fun v => impl_IsWord_l0 k (rowsW a) (some true) (rowsW l) (i + 1) v) (R := fun x v => if x = true then some false else impl_IsWord_l0 k (rowsW a) (some true) (rowsW l) (i + 1) v) (by intro q v; cases q <;> rfl) (by omega) (by omega) h1 h60 hi (by omega) ih hb
    | false =>
      rw [if_neg (by decide)]
      exact IsWord_step (REC := fun v => impl_IsWord_l0 k (rowsW a) (some true) (rowsW l) (i + 1) v) (R := fun x v => if x = true then impl_IsWord_l0 k (rowsW a) (some true) (rowsW l) (i + 1) v else some false) (by intro q v; cases q <;> rfl) (by omega) (by omega) h1 h60 hi (by omega) ih hb
theorem IsWord_eq (k : Nat) (a : Wd) (hk : sizeW a < k) (hc : sizeW a ≤ cap) : impl_IsWord k (rowsW a) = some (wordP a) := by
  have hl := lenW_size a
  unfold impl_IsWord impl_IsWord_p3
  rw [if_pos (by rw [rowsW_len]; omega), IsWord_loop hk hc a 0 1 (dropW_zero a) (by omega) (by omega) (by omega)]
  have : ((1 : Int) + (wnodes a : Int) ≤ 60) = (1 + wnodes a ≤ 60) := by apply propext; omega
  simp only [this]; rfl
/-! ### copies -/
def toldWT (w : Wd) : Wd × Bool := if wordP w = true then (w, true) else (.nil, false)
/-! ### spec's check -/
theorem odSize_loop {rec_ : Rw → Option Int} {a : T} {K : Int → Option Int} (hr : ∀ e : T, e.size < a.size → rec_ e.rows = some (1 + (nodesL e : Int))) : ∀ (t : T) (v : Int), t.size ≤ a.size → 0 ≤ v → v + nodesL t ≤ 4000000000000000000 → spec_odSize_l0 rec_ a.rows K t.rows v = K (v + nodesL t)
  | .nil, v, _, _, _ => by simp [rows, spec_odSize_l0, nodesL]
  | .cons e c l, v, hs, h0, h1 => by
    simp only [size] at hs
    simp only [nodesL] at h1
    simp only [rows, spec_odSize_l0, cell_T, hr e (by omega), Option.bind_some]
    rw [wid (n := 1 + (1 + (nodesL e : Int))) (by omega) (by omega), wid (by omega) (by omega), odSize_loop hr l _ (by omega) (by omega) (by omega)]
    congr 1; simp only [nodesL]; omega
theorem odSize_eq : ∀ (k : Nat) (a : T), a.size < k → a.size ≤ cap → spec_odSize k a.rows = some (1 + (nodesL a : Int))
  | 0, _, h, _ => absurd h (Nat.not_lt_zero _)
  | k + 1, a, h, hc => by
    have h3 : cap = 1099511627776 := rfl
    have hl := a.len_size
    have hn := nodes_size a
    simp only [spec_odSize, spec_odSize_b]
    rw [if_pos (by rw [rows_len]; omega), odSize_loop (a := a) (fun e he => odSize_eq k e (by omega) (by omega)) a 1 (Nat.le_refl _) (by omega) (by omega)]
theorem woSize_loop {k : Nat} {a : Wd} {K : Int → Option Int} (hk : sizeW a < k) (hc : sizeW a ≤ cap) : ∀ (t : Wd) (v : Int), sizeW t ≤ sizeW a → 0 ≤ v → v + wnodes t ≤ 4000000000000000000 → spec_woSize_l0 k (rowsW a) K (rowsW t) v = K (v + wnodes t)
  | .nil, v, _, _, _ => by simp [rowsW, spec_woSize_l0, wnodes]
  | .cons p n l, v, hs, h0, h1 => by
    simp only [sizeW] at hs
    simp only [wnodes] at h1
    have ih := woSize_loop (a := a) (K := K) hk hc l (v + (1 + (1 + (nodesL n : Int)))) (by omega) (by omega) (by omega)
    have e : v + (1 + (1 + (nodesL n : Int))) + (wnodes l : Int) = v + (wnodes (.cons p n l) : Int) := by simp only [wnodes]; omega
    rw [e] at ih
    simp only [rowsW, spec_woSize_l0, cell_W]
    cases p with
    | true => rw [if_pos rfl, odSize_eq k n (by omega) (by omega), Option.bind_some, wid (n := 1 + (1 + (nodesL n : Int))) (by omega) (by omega), wid (by omega) (by omega)]; exact ih
    | false => rw [if_neg (by decide), odSize_eq k n (by omega) (by omega), Option.bind_some, wid (n := 1 + (1 + (nodesL n : Int))) (by omega) (by omega), wid (by omega) (by omega)]; exact ih
theorem wnodes_size (w : Wd) : wnodes w ≤ 2 * sizeW w := by
  induction w with
  | nil => simp [wnodes]
  | cons p n l ih => have := nodes_size n; simp only [wnodes, sizeW]; omega
theorem woSize_eq (k : Nat) (a : Wd) (hk : sizeW a < k) (hc : sizeW a ≤ cap) : spec_woSize k (rowsW a) = some (1 + (wnodes a : Int)) := by
  have h3 : cap = 1099511627776 := rfl
  have hl := lenW_size a
  have hn := wnodes_size a
  unfold spec_woSize
  rw [if_pos (by rw [rowsW_len]; omega), woSize_loop hk hc a 1 (Nat.le_refl _) (by omega) (by omega)]
theorem woGood_loop {k : Nat} {a : Wd} {b : Bool} (hk : sizeW a < k) (hc : sizeW a ≤ cap) : ∀ (t : Wd) (i : Nat), dropW a i = t → i ≤ lenW a → spec_woGood_l0 k (rowsW a) (some b) (rowsW t) i = some (wfW (aheadW a i) t && b)
  | .nil, i, hd, hi => by simp [rowsW, spec_woGood_l0, wfW]
  | .cons p n l, i, hd, hi => by
    have h3 : cap = 1099511627776 := rfl
    have hs := dropW_cons_size hd
    have hla := lenW_size a
    have ih := woGood_loop (b := b) hk hc l (i + 1) (dropW_succ hd) (dropW_lt hd)
    rw [aheadW_succ hd] at ih
    simp only [rowsW, spec_woGood_l0, cell_W]
    rw [odGood_all k n (by omega) (by omega), odZ0]
    simp only [Option.bind_some]
    by_cases h0 : (0 : Int) < (i : Int)
    · obtain ⟨q, m', l', hq1, hq2⟩ := aheadW_some (w := a) (i := i) (by omega) hi
      rw [if_pos h0, if_pos h0, wid (n := (i : Int) - 1) (by omega) (by omega), row_W (j := i - 1) (by omega) hq1, row_W (j := i - 1) (by omega) hq1, ih]
      simp only [wfW, hq2]
      cases p <;> cases q <;> cases ordP n <;> cases zr n <;> simp
    · have : i = 0 := by omega
      subst this
      rw [if_neg h0, if_neg h0, ih]
      simp only [wfW, aheadW]
      cases p <;> cases ordP n <;> cases zr n <;> simp
theorem woGood_eq (k : Nat) (a : Wd) (hk : sizeW a < k) (hc : sizeW a ≤ cap) : spec_woGood k (rowsW a) = some (wordP a) := by
  have hl := lenW_size a
  unfold spec_woGood
  have e : ((spec_woSize k (rowsW a)).bind fun y80 => (if y80 ≤ (60 : Int) then some true else some false)) = some (decide (1 + wnodes a ≤ 60)) := by
    rw [woSize_eq k a hk hc, Option.bind_some]
    by_cases g : 1 + wnodes a ≤ 60
    · rw [if_pos (by omega), decide_eq_true g]
    · rw [if_neg (by omega), decide_eq_false g]
  rw [if_pos (by rw [rowsW_len]; omega), e, woGood_loop hk hc a 0 (dropW_zero a) (by omega)]
  rfl
end Go.Proofs.Try

namespace Go.Proofs.Try
open Go Go.AX T Wd
/-! ### lengths -/
/-- The sum of the lengths of runs, of those of pluses alone where told so. -/
def sumW (b : Bool) : Wd → T → T
  | .nil, acc => acc
  | .cons p n l, acc => sumW b l (if p = true ∨ b = false then plusT acc n else acc)
theorem wfW_cons {q : Option Bool} {p : Bool} {n : T} {l : Wd} (h : wfW q (.cons p n l) = true) : ordP n = true ∧ zr n = false ∧ wfW (some p) l = true := by
  simp only [wfW, Bool.and_eq_true, Bool.not_eq_true'] at h
  exact ⟨h.1, h.2.1, h.2.2.2⟩
theorem word_parts {w : Wd} (h : wordP w = true) : wfW none w = true ∧ wnodes w ≤ 59 := by
  simp only [wordP, Bool.and_eq_true, decide_eq_true_eq] at h
  exact ⟨h.1, by omega⟩
theorem wf_len {w : Wd} : 2 * lenW w ≤ wnodes w := by
  induction w with
  | nil => simp [lenW, wnodes]
  | cons p n l ih => simp only [lenW, wnodes]; omega
theorem word_len {w : Wd} (h : wordP w = true) : lenW w ≤ 29 := by
  have := (word_parts h).2
  have := wf_len (w := w)
  omega
theorem toldWT_size (w : Wd) : sizeW (toldWT w).1 ≤ sizeW w := by
  unfold toldWT; split <;> simp [sizeW]
/-- Lengths within bounds, their exponents falling. -/
def okW (C : Int) (Z : Nat) : Wd → Prop
  | .nil => True
  | .cons _ n l => (falls none n ∧ sm C n ∧ n.size ≤ Z) ∧ okW C Z l
theorem okW_app {C : Int} {Z : Nat} {a b : Wd} : okW C Z (appW a b) ↔ okW C Z a ∧ okW C Z b := by
  induction a with
  | nil => simp [appW, okW]
  | cons p n l ih => simp only [appW, okW, ih, and_assoc]
theorem okW_mono {C D : Int} {Z Y : Nat} {w : Wd} (h : okW C Z w) (hC : C ≤ D) (hZ : Z ≤ Y) : okW D Y w := by
  induction w with
  | nil => trivial
  | cons p n l ih => exact ⟨⟨h.1.1, sm_mono h.1.2.1 hC, by have := h.1.2.2; omega⟩, ih h.2⟩
theorem wf_ok {q : Option Bool} {w : Wd} (h : wfW q w = true) : okW 1000000 30 w := by
  induction w generalizing q with
  | nil => trivial
  | cons p n l ih =>
    obtain ⟨ho, _, hl⟩ := wfW_cons h
    exact ⟨⟨form_falls (ordP_form ho), form_sm (ordP_form ho), ordP_size ho⟩, ih hl⟩
theorem toldT_size' (t : T) : (toldT t).1.size ≤ 30 := by
  unfold toldT; split
  · rename_i q; exact ordP_size q
  · simp [size]
end Go.Proofs.Try

namespace Go.Proofs.Try
open Go Go.AX
abbrev L8 := List UInt8
def bA (l : L8) : ByteArray := ⟨l.toArray⟩
theorem bA_data (l : L8) : (bA l).data.toList = l := by simp [bA]
theorem bA_size (l : L8) : (bA l).size = l.length := by rw [Lib.size_eq, bA_data]
theorem bA_toList (l : L8) : (bA l).toList = l := by rw [ByteArray.toList_eq, bA_data]
theorem bA_inj {a b : ByteArray} (h : a.data.toList = b.data.toList) : a = b := by
  cases a; cases b; simp only [ByteArray.mk.injEq]; exact Array.toList_inj.1 h
theorem bA_app (a b : L8) : bA a ++ bA b = bA (a ++ b) := by
  apply bA_inj
  rw [ByteArray.data_append, Array.toList_append, bA_data, bA_data, bA_data]
theorem bA_nil : ByteArray.mk #[] = bA [] := rfl
theorem bA_43 : ByteArray.mk #[43] = bA [43] := rfl
theorem bA_42 : ByteArray.mk #[42] = bA [42] := rfl
theorem bA_41 : ByteArray.mk #[41] = bA [41] := rfl
theorem bA_45 : ByteArray.mk #[45] = bA [45] := rfl
theorem bA_47 : ByteArray.mk #[47] = bA [47] := rfl
theorem bA_48 : ByteArray.mk #[48] = bA [48] := rfl
theorem bA_94 : ByteArray.mk #[94, 40] = bA [94, 40] := rfl
theorem bA_119 : ByteArray.mk #[119] = bA [119] := rfl
theorem u8_lt {n : Int} (h0 : 0 ≤ n) (h1 : n ≤ 255) : IntKind.u8.wrap n = n := by
  simp only [IntKind.wrap, IntKind.bits, IntKind.signed]
  simp
  omega
theorem strD_one {n : Int} (h0 : 0 ≤ n) (h1 : n ≤ 9) : strD [[.int .u8 (IntKind.u8.wrap (IntKind.i64.wrap (48 + n)))]] = some (bA [UInt8.ofNat (48 + n.toNat)]) := by
  rw [wrap_in (by omega) (by omega), u8_lt (by omega) (by omega)]
  have : (48 + n).toNat = 48 + n.toNat := by omega
  simp only [strD, strN, Option.map_some, List.foldl_cons, List.foldl_nil, this]
  rfl
theorem dec_len {u : Nat} (hu : u ≤ 1000000000000000) : (Lib.decDigits u).length ≤ 21 := by
  have := Lib.itoa_length_le (u : Int) (by omega) (by omega)
  unfold Lib.itoa at this
  rwa [if_neg (by omega), show ((u : Int)).toNat = u by omega] at this
theorem dec_ne (u : Nat) : Lib.decDigits u ≠ [] := by
  rw [Lib.decDigits]
  split <;> simp
end Go.Proofs.Try

namespace Go.Proofs.Try
open Go Go.AX T Wd
def isF : T → Bool
  | .cons .nil _ .nil => true
  | _ => false
def big : T → Prop
  | .cons (.cons _ _ _) _ _ => True
  | _ => False
def finW : Wd → Bool
  | .nil => true
  | .cons _ n l => isF n && finW l
def okS : Wd → Bool
  | .nil => true
  | .cons _ n l => (isF n && decide (finB n ≤ 20)) && okS l
def cntW : Wd → Int
  | .nil => 0
  | .cons _ n l => finB n + cntW l
def letW (p : Bool) (c : Int) : L8 := List.replicate c.toNat (if p = true then 43 else 45)
def txW : Wd → L8
  | .nil => []
  | .cons p n l => letW p (finB n) ++ txW l
theorem run_fin {n : T} (h : ordP n = true) (hz : zr n = false) : (isF n = true ∧ ∃ c, n = .cons .nil c .nil ∧ 1 ≤ c ∧ c ≤ 1000000) ∨ (isF n = false ∧ big n ∧ limB n ≠ .nil) := by
  have hf := form_falls (ordP_form h)
  have hp := form_posT (ordP_form h)
  have hs := form_sm (ordP_form h)
  match n, hz, hf, hp, hs with
  | .cons .nil c .nil, _, _, hp, hs => exact .inl ⟨rfl, c, rfl, hp.1, hs.2.1.2⟩
  | .cons .nil c (.cons f d m), _, hf, _, _ =>
    have := hf.2.1 .nil rfl
    cases f <;> simp [cmpT] at this
  | .cons (.cons x y z) c l, _, _, _, _ => exact .inr ⟨rfl, trivial, by simp [limB]⟩
  | .nil, hz, _, _, _ => simp [zr] at hz
theorem goP_big {f : T} {d : Int} {m : T} : ∀ {a : T}, (big a ∨ f ≠ .nil) → big (goP a f d m)
  | .nil, h => by
    cases f with
    | nil => simp [big] at h
    | cons x y z => trivial
  | .cons e c l, h => by
    simp only [goP]
    cases e with
    | nil =>
      have hf : f ≠ .nil := h.resolve_left (by simp [big])
      cases f with
      | nil => exact absurd rfl hf
      | cons x y z =>
        rw [if_neg (by simp [cmpT]), if_neg (by simp [cmpT])]
        exact goP_big (.inr hf)
    | cons x y z =>
      split
      · trivial
      · split
        · trivial
        · rename_i h1 h2
          refine goP_big (.inr fun q => ?_)
          subst q
          simp [cmpT] at h1
theorem plus_big {a n : T} (h : big a ∨ big n) : big (plusT a n) := by
  cases n with
  | nil => simpa [plusT, big] using h
  | cons f d m =>
    simp only [plusT]
    refine goP_big (h.imp id fun q => ?_)
    cases f with
    | nil => simp [big] at q
    | cons => simp
theorem sum_big : ∀ {w : Wd} {acc : T}, big acc → big (sumW false w acc)
  | .nil, _, h => h
  | .cons p n l, acc, h => by
    simp only [sumW, or_true, if_true]
    exact sum_big (plus_big (.inl h))
theorem sum_inf : ∀ {w : Wd} {acc : T} {q : Option Bool}, wfW q w = true → finW w = false → big (sumW false w acc)
  | .nil, _, _, _, h => by simp [finW] at h
  | .cons p n l, acc, q, hw, h => by
    obtain ⟨ho, hz, hl⟩ := wfW_cons hw
    simp only [sumW, or_true, if_true]
    rcases run_fin ho hz with ⟨h1, _⟩ | ⟨_, h2, _⟩
    · simp only [finW, h1, Bool.true_and] at h
      exact sum_inf hl h
    · exact sum_big (plus_big (.inr h2))
theorem cnt_pos : ∀ {w : Wd} {q : Option Bool}, wfW q w = true → finW w = true → (w.lenW : Int) ≤ cntW w ∧ cntW w ≤ 1000000 * w.lenW ∧ ((txW w).length : Int) = cntW w
  | .nil, _, _, _ => by simp [cntW, lenW, txW]
  | .cons p n l, q, hw, h => by
    obtain ⟨ho, hz, hl⟩ := wfW_cons hw
    simp only [finW, Bool.and_eq_true] at h
    obtain ⟨i1, i2, i3⟩ := cnt_pos hl h.2
    rcases run_fin ho hz with ⟨_, c, rfl, h1, h2⟩ | ⟨h1, _⟩
    · simp only [cntW, lenW, txW, finB, letW, List.length_append, List.length_replicate]
      omega
    · rw [h1] at h; simp at h
theorem sum_fin : ∀ {w : Wd} {q : Option Bool} (c0 : Int), wfW q w = true → finW w = true → 0 ≤ c0 → c0 + 1000000 * w.lenW ≤ 1000000000 → sumW false w (.cons .nil c0 .nil) = .cons .nil (c0 + cntW w) .nil
  | .nil, _, c0, _, _, _, _ => by simp [sumW, cntW]
  | .cons p n l, q, c0, hw, h, h0, hb => by
    obtain ⟨ho, hz, hl⟩ := wfW_cons hw
    simp only [finW, Bool.and_eq_true] at h
    simp only [lenW] at hb
    rcases run_fin ho hz with ⟨_, c, rfl, h1, h2⟩ | ⟨h1, _⟩
    · simp only [sumW, or_true, if_true, plusT, goP, cmpT, cntW, finB]
      rw [show w (c0 + c) = c0 + c from wrap_in (by omega) (by omega), if_neg (by decide), sum_fin (c0 + c) hl h.2 (by omega) (by omega)]
      congr 1
      omega
    · rw [h1] at h; simp at h
def twenty : T := .cons .nil 20 .nil
theorem cmp_twenty {w : Wd} {q : Option Bool} (hw : wfW q w = true) (hl : w.lenW ≤ 29) : (0 < cmpT (sumW false w .nil) twenty) ↔ ¬ (finW w = true ∧ cntW w ≤ 20) := by
  cases hf : finW w with
  | false =>
    have hb := sum_inf (acc := .nil) hw hf
    have : 0 < cmpT (sumW false w .nil) twenty := by
      generalize sumW false w .nil = r at hb
      match r, hb with
      | .cons (.cons x y z) c l, _ => simp [twenty, cmpT]
    simp [this]
  | true =>
    cases w with
    | nil => simp [sumW, twenty, cmpT, cntW]
    | cons p n l =>
      obtain ⟨ho, hz, hl'⟩ := wfW_cons hw
      simp only [finW, Bool.and_eq_true] at hf
      simp only [lenW] at hl
      rcases run_fin ho hz with ⟨_, c, rfl, h1, h2⟩ | ⟨h1, _⟩
      · have e : sumW false (.cons p (.cons .nil c .nil) l) .nil = .cons .nil (c + cntW l) .nil := by
          simp only [sumW, or_true, if_true, plusT, goP]
          exact sum_fin c hl' hf.2 (by omega) (by omega)
        rw [e]
        simp only [twenty, cmpT, cntW, finB, true_and]
        by_cases hc : c + cntW l ≤ 20
        · have : ¬ (0 < (if cmpI (c + cntW l) 20 = 0 then (0 : Int) else cmpI (c + cntW l) 20)) := by
            unfold cmpI; split <;> (try split) <;> (try split) <;> omega
          simpa [hc] using this
        · have : 0 < (if cmpI (c + cntW l) 20 = 0 then (0 : Int) else cmpI (c + cntW l) 20) := by
            have : cmpI (c + cntW l) 20 = 1 := by unfold cmpI; rw [if_neg (by omega), if_pos (by omega)]
            rw [this]; decide
          simpa [hc] using this
      · rw [h1] at hf; simp at hf
theorem ok_iff : ∀ {w : Wd} {q : Option Bool}, wfW q w = true → ((okS w = true ∧ ((txW w).length : Int) ≤ 20) ↔ (finW w = true ∧ cntW w ≤ 20))
  | .nil, _, _ => by simp [okS, txW, finW, cntW]
  | .cons p n l, q, hw => by
    obtain ⟨ho, hz, hl⟩ := wfW_cons hw
    have ih := ok_iff hl
    rcases run_fin ho hz with ⟨h0, c, rfl, h1, h2⟩ | ⟨h1, _⟩
    · simp only [okS, h0, Bool.true_and, Bool.and_eq_true, decide_eq_true_eq, txW, finB, letW, List.length_append, List.length_replicate, finW, cntW]
      constructor
      · rintro ⟨⟨a, b⟩, d⟩
        obtain ⟨i1, i2⟩ := ih.1 ⟨b, by omega⟩
        obtain ⟨_, _, j⟩ := cnt_pos hl i1
        exact ⟨i1, by omega⟩
      · rintro ⟨a, b⟩
        obtain ⟨j0, _, j⟩ := cnt_pos hl a
        obtain ⟨i1, i2⟩ := ih.2 ⟨a, by omega⟩
        exact ⟨⟨decide_eq_true (by omega), i1⟩, by omega⟩
    · simp [okS, finW, h1]
end Go.Proofs.Try

namespace Go.Proofs.Try
open Go Go.AX T Wd
theorem ilen_loop {k : Nat} {a : Rw} {K : Rw → Option Rw} : ∀ (t : Wd) (acc : T), okW 1000000 30 t → acc.size + 30 * lenW t + 100 < k → acc.size + 30 * lenW t + 100 ≤ cap → impl_lengthOf_l0 k a K (rowsW t) acc.rows = K (sumW false t acc).rows
  | .nil, acc, _, _, _ => rfl
  | .cons p n l, acc, hw, hk, hc => by
    obtain ⟨⟨fn, sn, zn⟩, hl⟩ := hw
    simp only [lenW] at hk hc
    have ps := plusT_size acc n
    have pe := plus_eq k acc n (by omega) (by omega)
    simp only [rowsW, impl_lengthOf_l0, cell_W]
    simp only [sumW, or_true, if_true]
    have ih := ilen_loop (k := k) (a := a) (K := K) l (plusT acc n) hl (by omega) (by omega)
    cases p <;> simp [pe, ih]
theorem ilen_eq {k : Nat} {a : Wd} (hw : okW 1000000 30 a) (hl : lenW a ≤ 60) (hk : 5000 < k) : impl_lengthOf k (rowsW a) false = some (sumW false a .nil).rows := by
  have h3 : cap = 1099511627776 := rfl
  unfold impl_lengthOf
  refine cond_ff ?_
  rw [if_pos (by rw [rowsW_len]; omega)]
  exact (ilen_loop (k := k) a .nil hw (by simp only [size]; omega) (by simp only [size]; omega)).trans rfl
theorem sum_size : ∀ (w : Wd) (acc : T), okW 1000000 30 w → (sumW false w acc).size ≤ acc.size + 30 * w.lenW
  | .nil, acc, _ => by simp [sumW, lenW]
  | .cons p n l, acc, h => by
    have ps := plusT_size acc n
    have := sum_size l (plusT acc n) h.2
    have hz := h.1.2.2
    simp only [sumW, or_true, if_true, lenW]
    omega
theorem rep_one (b : UInt8) : ∀ n : Nat, Lib.repeatL [b] n = List.replicate n b
  | 0 => rfl
  | n + 1 => by simp [Lib.repeatL, rep_one b n, List.replicate_succ]
theorem repeat_eq (b : UInt8) {c : Int} (h0 : 0 ≤ c) (h1 : c ≤ 1000000) : lib_Repeat (bA [b]) c = some (bA (List.replicate c.toNat b)) := by
  unfold lib_Repeat
  rw [if_pos ⟨by omega, by omega, by rw [bA_size, List.length_singleton]; omega⟩, bA_data, rep_one]
  rfl
theorem iShort_loop {a : Rw} {K : ByteArray → Option (ByteArray × Bool)} : ∀ (t : Wd) (q : Option Bool) (acc : L8), wfW q t = true → finW t = true → acc.length + 1000000 * t.lenW ≤ 1000000000 → impl_ShortOfWord_l0 a K (rowsW t) (bA acc) = K (bA (acc ++ txW t))
  | .nil, _, acc, _, _, _ => by simp [rowsW, impl_ShortOfWord_l0, txW]
  | .cons p n l, q, acc, hw, hf, hb => by
    obtain ⟨ho, hz, hl⟩ := wfW_cons hw
    simp only [finW, Bool.and_eq_true] at hf
    simp only [lenW] at hb
    rcases run_fin ho hz with ⟨_, c, rfl, h1, h2⟩ | ⟨h1, _⟩
    · simp only [rowsW, impl_ShortOfWord_l0, cell_W, row_T0]
      rw [bA_43, bA_45]
      have hlen : (List.replicate c.toNat (43 : UInt8)).length = c.toNat := List.length_replicate
      have hlen2 : (List.replicate c.toNat (45 : UInt8)).length = c.toNat := List.length_replicate
      cases p with
      | true =>
        refine ite_pos rfl ?_
        refine bind_of (repeat_eq 43 (by omega) h2) ?_
        refine ite_pos (by rw [bA_size, bA_size, hlen]; omega) ?_
        rw [bA_app, iShort_loop l _ _ hl hf.2 (by rw [List.length_append, hlen]; omega)]
        simp only [txW, letW, finB, List.append_assoc, if_true]
      | false =>
        refine ite_neg (by simp) ?_
        refine bind_of (repeat_eq 45 (by omega) h2) ?_
        refine ite_pos (by rw [bA_size, bA_size, hlen2]; omega) ?_
        rw [bA_app, iShort_loop l _ _ hl hf.2 (by rw [List.length_append, hlen2]; omega)]
        simp [txW, letW, finB, List.append_assoc]
    · rw [h1] at hf; simp at hf
def shortR (a : Wd) : ByteArray × Bool := if wordP a = true ∧ finW a = true ∧ cntW a ≤ 20 then (bA (txW a), true) else (bA [], false)
theorem impl_short (k : Nat) (a : Wd) (h : a.sizeW + 10000 < k) (hc : a.sizeW ≤ cap) : impl_ShortOfWord k (rowsW a) = some (shortR a) := by
  have h3 : cap = 1099511627776 := rfl
  unfold impl_ShortOfWord shortR
  refine bind_of (IsWord_eq k a (by omega) hc) ?_
  cases ho : wordP a with
  | false => refine ite_neg (by simp) ?_; simp [bA]
  | true =>
    refine ite_pos rfl ?_
    have hl := word_len ho
    have hw := (word_parts ho).1
    have hok := wf_ok hw
    have hz := sum_size a .nil hok
    refine bind_of (ilen_eq hok (by omega) (by omega)) ?_
    refine bind_of (y := twenty.rows) rfl ?_
    refine bind_of (impl_cmp_eq k _ twenty (by simp only [size] at hz; omega) (by simp only [size] at hz; omega)) ?_
    have hcmp := cmp_twenty hw hl
    by_cases hq : finW a = true ∧ cntW a ≤ 20
    · refine ite_neg (fun hh => hcmp.1 hh hq) ?_
      refine ite_pos (by rw [rowsW_len]; omega) ?_
      rw [bA_nil, iShort_loop a none [] hw hq.1 (by simp only [List.length_nil]; omega), List.nil_append, if_pos ⟨rfl, hq⟩]
    · refine ite_pos (hcmp.2 hq) ?_
      rw [if_neg (fun hh => hq hh.2)]
      rfl
theorem sl1 {a : Rw} {i : Nat} {x : Rw} {K : ByteArray → Option (ByteArray × Bool)} : ∀ (n : Nat) (acc : L8) (c : Int), 0 ≤ c → c < n → acc.length + c ≤ 1000000000 → c ≤ 1000000 → spec_ShortOfWord_l1 a i x K n (bA acc) c = K (bA (acc ++ List.replicate c.toNat 43))
  | 0, _, _, _, h, _, _ => by omega
  | n + 1, acc, c, h0, h1, hb, hc => by
    simp only [spec_ShortOfWord_l1]
    by_cases hz : 0 < c
    · refine ite_pos hz ?_
      rw [bA_43]
      refine ite_pos (by rw [bA_size, bA_size, List.length_singleton]; omega) ?_
      rw [bA_app, wrap_in (by omega) (by omega), sl1 n _ (c - 1) (by omega) (by omega) (by rw [List.length_append, List.length_singleton]; omega) (by omega)]
      have : c.toNat = (c - 1).toNat + 1 := by omega
      rw [this, List.replicate_succ]
      simp
    · refine ite_neg hz ?_
      have : c = 0 := by omega
      subst this
      simp
theorem sl2 {a : Rw} {i : Nat} {x : Rw} {K : ByteArray → Option (ByteArray × Bool)} : ∀ (n : Nat) (acc : L8) (c : Int), 0 ≤ c → c < n → acc.length + c ≤ 1000000000 → c ≤ 1000000 → spec_ShortOfWord_l1_2 a i x K n (bA acc) c = K (bA (acc ++ List.replicate c.toNat 45))
  | 0, _, _, _, h, _, _ => by omega
  | n + 1, acc, c, h0, h1, hb, hc => by
    simp only [spec_ShortOfWord_l1_2]
    by_cases hz : 0 < c
    · refine ite_pos hz ?_
      rw [bA_45]
      refine ite_pos (by rw [bA_size, bA_size, List.length_singleton]; omega) ?_
      rw [bA_app, wrap_in (by omega) (by omega), sl2 n _ (c - 1) (by omega) (by omega) (by rw [List.length_append, List.length_singleton]; omega) (by omega)]
      have : c.toNat = (c - 1).toNat + 1 := by omega
      rw [this, List.replicate_succ]
      simp
    · refine ite_neg hz ?_
      have : c = 0 := by omega
      subst this
      simp
theorem sShort_loop {k : Nat} {a : Rw} {K : ByteArray → Option (ByteArray × Bool)} (hk : 1000 < k) : ∀ (t : Wd) (q : Option Bool) (i : Nat) (acc : L8), wfW q t = true → acc.length + 20 * t.lenW ≤ 1000000 → spec_ShortOfWord_l0 k a K (rowsW t) i (bA acc) = if okS t = true then K (bA (acc ++ txW t)) else some (bA [], false)
  | .nil, _, _, acc, _, _ => by simp [rowsW, spec_ShortOfWord_l0, okS, txW]
  | .cons p n l, q, i, acc, hw, hb => by
    obtain ⟨ho, hz, hl⟩ := wfW_cons hw
    simp only [lenW] at hb
    simp only [rowsW, spec_ShortOfWord_l0, cell_W, sfinite_eq ho, Option.bind_some, odZ0]
    rcases run_fin ho hz with ⟨h0, c, rfl, h1, h2⟩ | ⟨h1, h2, h4⟩
    · have hlim : zr (limB (.cons .nil c .nil)) = true := rfl
      have hfb : finB (.cons .nil c .nil) = c := rfl
      simp only [hlim, hfb, if_true, okS, h0, Bool.true_and]
      by_cases hc : (20 : Int) < c
      · have : decide (c ≤ 20) = false := by simpa using hc
        rw [this]
        cases p <;> simp [hc, bA_nil]
      · have : decide (c ≤ 20) = true := by simpa using hc
        rw [this]
        simp only [Bool.true_and]
        have ih : ∀ b : UInt8, spec_ShortOfWord_l0 k a K (rowsW l) (i + 1) (bA (acc ++ List.replicate c.toNat b)) = if okS l = true then K (bA (acc ++ List.replicate c.toNat b ++ txW l)) else some (bA [], false) :=
          fun b => sShort_loop hk l _ (i + 1) _ hl (by rw [List.length_append, List.length_replicate]; omega)
        cases p with
        | true =>
          refine ite_pos rfl ?_
          refine ite_neg hc ?_
          rw [sl1 k acc c (by omega) (by omega) (by omega) (by omega), ih]
          simp only [txW, letW, hfb, if_true, List.append_assoc]
        | false =>
          refine ite_neg (by simp) ?_
          refine ite_neg hc ?_
          rw [sl2 k acc c (by omega) (by omega) (by omega) (by omega), ih]
          simp [txW, letW, hfb, List.append_assoc]
    · have hlim : zr (limB n) = false := by
        generalize limB n = x at h4
        cases x with
        | nil => exact absurd rfl h4
        | cons => rfl
      simp only [hlim, okS, h1, Bool.false_and]
      cases p <;> simp [bA_nil]
theorem spec_short (k : Nat) (a : Wd) (h : a.sizeW + 10000 < k) (hc : a.sizeW ≤ cap) : spec_ShortOfWord k (rowsW a) = some (shortR a) := by
  have h3 : cap = 1099511627776 := rfl
  unfold spec_ShortOfWord shortR
  refine bind_of (woGood_eq k a (by omega) hc) ?_
  cases ho : wordP a with
  | false => refine ite_neg (by simp) ?_; simp [bA]
  | true =>
    refine ite_pos rfl ?_
    have hl := word_len ho
    have hw := (word_parts ho).1
    have hiff := ok_iff hw
    unfold spec_ShortOfWord_p2
    refine ite_pos (by rw [rowsW_len]; omega) ?_
    rw [bA_nil, sShort_loop (by omega) a none 0 [] hw (by simp only [List.length_nil]; omega), List.nil_append]
    unfold spec_ShortOfWord_p4
    rw [bA_size]
    by_cases hq : finW a = true ∧ cntW a ≤ 20
    · obtain ⟨g1, g2⟩ := hiff.2 hq
      rw [if_pos g1, if_neg (by omega), if_pos ⟨rfl, hq⟩]
    · have e2 : (if true = true ∧ finW a = true ∧ cntW a ≤ 20 then (bA (txW a), true) else (bA [], false)) = (bA [], false) := if_neg (fun hh => hq hh.2)
      rw [e2]
      by_cases g : okS a = true
      · rw [if_pos g, if_pos (by
          have : ¬ (((txW a).length : Int) ≤ 20) := fun hh => hq (hiff.1 ⟨g, hh⟩)
          omega)]
        rfl
      · rw [if_neg g]
end Go.Proofs.Try
