/- What the printed functions compute: plain data. -/
import Derived.Test.YtmhcdljkmngkpaaHYQ1
set_option linter.unusedVariables false
set_option linter.unusedSimpArgs false
namespace Go.Proofs.Try
open Go Go.AX

theorem wid {n : Int} (h1 : -9223372036854775808 ≤ n) (h2 : n < 9223372036854775808) : IntKind.i64.wrap n = n := wrap_in h1 h2
/-- An ordinal: its terms, exponents and coefficients. -/
inductive T where
  | nil
  | cons (e : T) (c : Int) (l : T)
namespace T
def rows : T → Rw
  | nil => []
  | cons e c l => [.sl (rows e), .int .i64 c] :: rows l
def size : T → Nat
  | nil => 0
  | cons e _ l => size e + size l + 1
def len : T → Nat
  | nil => 0
  | cons _ _ l => len l + 1
def drop : T → Nat → T
  | t, 0 => t
  | nil, _ + 1 => nil
  | cons _ _ l, n + 1 => drop l n
def app : T → T → T
  | nil, b => b
  | cons e c l, b => cons e c (app l b)
@[simp] theorem drop_zero (t : T) : drop t 0 = t := by cases t <;> rfl
@[simp] theorem drop_nil (n : Nat) : drop nil n = nil := by cases n <;> rfl
@[simp] theorem rows_len (t : T) : (rows t).length = len t := by
  induction t with
  | nil => rfl
  | cons e c l _ ih => simp [rows, len, ih]
theorem len_size (t : T) : len t ≤ size t := by
  induction t with
  | nil => simp [len]
  | cons e c l _ ih => simp [len, size]; omega
@[simp] theorem rows_app (a b : T) : rows (app a b) = rows a ++ rows b := by
  induction a with
  | nil => rfl
  | cons e c l _ ih => simp [app, rows, ih]
theorem rows_drop (t : T) (i : Nat) : rows (drop t i) = (rows t).drop i := by
  induction t generalizing i with
  | nil => cases i <;> simp [drop, rows]
  | cons e c l _ ih => cases i with
    | zero => simp [drop]
    | succ i => simp [drop, rows, ih]
theorem rowsWide (t : T) : ∀ cs ∈ rows t, cs.length = 2 := by
  induction t with
  | nil => intro cs h; cases h
  | cons e c l _ ih =>
    intro cs h
    simp only [rows, List.mem_cons] at h
    rcases h with rfl | h
    · rfl
    · exact ih cs h
theorem rowsWide_drop (t : T) (i : Nat) : ∀ cs ∈ (rows t).drop i, cs.length = 2 := fun cs h => rowsWide t cs (List.mem_of_mem_drop h)
theorem drop_len (t : T) (i : Nat) : len (drop t i) = len t - i := by rw [← rows_len, rows_drop, List.length_drop, rows_len]
theorem drop_succ {t : T} {i : Nat} {e : T} {c : Int} {l : T} (h : drop t i = cons e c l) : drop t (i + 1) = l := by
  induction t generalizing i with
  | nil => simp at h
  | cons e' c' l' _ ih =>
    cases i with
    | zero => simp only [drop, cons.injEq] at h ⊢; simp [h.2.2]
    | succ i => exact ih h
theorem drop_size {t : T} {i : Nat} : size (drop t i) ≤ size t := by
  induction t generalizing i with
  | nil => simp
  | cons e c l _ ih =>
    cases i with
    | zero => simp
    | succ i => simp only [drop, size]; have := ih (i := i); omega
theorem drop_cons_size {t : T} {i : Nat} {e : T} {c : Int} {l : T} (h : drop t i = cons e c l) : size e + size l + 1 ≤ size t := by
  have := drop_size (t := t) (i := i); rw [h] at this; exact this
theorem drop_lt {t : T} {i : Nat} {e : T} {c : Int} {l : T} (h : drop t i = cons e c l) : i < len t := by
  have := drop_len t i; rw [h] at this; simp only [len] at this; omega
theorem drop_ge {t : T} {i : Nat} (h : drop t i = nil) : len t ≤ i := by
  have := drop_len t i; rw [h] at this; simp only [len] at this; omega
theorem drop_of_ge {t : T} {i : Nat} (h : len t ≤ i) : drop t i = nil := by
  have := drop_len t i
  cases hd : drop t i with
  | nil => rfl
  | cons e c l => rw [hd] at this; simp only [len] at this; omega
theorem rows_get {t : T} {i : Nat} {e : T} {c : Int} {l : T} (h : drop t i = cons e c l) : (rows t)[i]? = some [.sl (rows e), .int .i64 c] := by
  have := rows_drop t i
  rw [h] at this
  have h2 : ((rows t).drop i)[0]? = some [.sl (rows e), .int .i64 c] := by rw [← this]; rfl
  rwa [List.getElem?_drop, Nat.add_zero] at h2
@[simp] theorem app_nil (t : T) : app t nil = t := by
  induction t with
  | nil => rfl
  | cons e c l _ ih => simp [app, ih]
theorem app_assoc (a b c : T) : app (app a b) c = app a (app b c) := by
  induction a with
  | nil => rfl
  | cons e k l _ ih => simp [app, ih]
theorem size_app (a b : T) : (app a b).size = a.size + b.size := by
  induction a with
  | nil => simp [app, size]
  | cons e c l _ ih => simp [app, size, ih]; omega
theorem len_app (a b : T) : (app a b).len = a.len + b.len := by
  induction a with
  | nil => simp [app, len]
  | cons e c l _ ih => simp [app, len, ih]; omega
theorem rows_inj : ∀ {a b : T}, rows a = rows b → a = b
  | nil, nil, _ => rfl
  | nil, cons _ _ _, h => by simp [rows] at h
  | cons _ _ _, nil, h => by simp [rows] at h
  | cons e c l, cons f d m, h => by
    simp only [rows, List.cons.injEq, D.sl.injEq, D.int.injEq, true_and, and_true] at h
    obtain ⟨⟨h1, h2⟩, h3⟩ := h
    rw [rows_inj h1, h2, rows_inj h3]
end T
open T
theorem row_rows {α : Type} {t : T} {i : Int} {n : Nat} (hi : i = n) {e : T} {c : Int} {l : T} (h : drop t n = cons e c l) (F : Rw → List D → Option α) : (if 0 ≤ i then (match (rows t)[i.toNat]? with | some cs => F (rows t) cs | none => none) else none) = F (rows t) [.sl (rows e), .int .i64 c] := by
  subst hi
  rw [if_pos (by omega), Int.toNat_natCast, rows_get h]

/-! ### the order -/
def cmpI (a b : Int) : Int := if a < b then -1 else if b < a then 1 else 0
def cmpT : T → T → Int
  | nil, nil => 0
  | nil, cons _ _ _ => -1
  | cons _ _ _, nil => 1
  | cons e c l, cons f d m => if cmpT e f = 0 then (if cmpI c d = 0 then cmpT l m else cmpI c d) else cmpT e f
theorem cmpI_refl (a : Int) : cmpI a a = 0 := by simp [cmpI]
theorem cmpI_eq {a b : Int} : cmpI a b = 0 ↔ a = b := by unfold cmpI; split <;> (try split) <;> simp <;> omega
theorem cmpI_neg (a b : Int) : cmpI b a = - cmpI a b := by unfold cmpI; split <;> split <;> (try split) <;> omega
theorem cmpT_range (a b : T) : cmpT a b = -1 ∨ cmpT a b = 0 ∨ cmpT a b = 1 := by
  induction a generalizing b with
  | nil => cases b <;> simp [cmpT]
  | cons e c l ihe ihl =>
    cases b with
    | nil => simp [cmpT]
    | cons f d m =>
      simp only [cmpT]
      split
      · split
        · exact ihl m
        · unfold cmpI; split <;> (try split) <;> simp
      · exact ihe f
theorem cmpT_refl (a : T) : cmpT a a = 0 := by
  induction a with
  | nil => rfl
  | cons e c l ihe ihl => simp [cmpT, ihe, ihl, cmpI_refl]
theorem cmpT_eq {a b : T} : cmpT a b = 0 ↔ a = b := by
  induction a generalizing b with
  | nil => cases b <;> simp [cmpT]
  | cons e c l ihe ihl =>
    cases b with
    | nil => simp [cmpT]
    | cons f d m =>
      simp only [cmpT, cons.injEq]
      constructor
      · intro h
        split at h
        · rename_i h1
          split at h
          · rename_i h2; exact ⟨ihe.1 h1, cmpI_eq.1 h2, ihl.1 h⟩
          · rename_i h2; exact absurd h h2
        · rename_i h1; exact absurd h h1
      · rintro ⟨rfl, rfl, rfl⟩
        rw [if_pos (cmpT_refl e), if_pos (cmpI_refl c)]; exact cmpT_refl l
theorem cmpT_neg (a b : T) : cmpT b a = - cmpT a b := by
  induction a generalizing b with
  | nil => cases b <;> simp [cmpT]
  | cons e c l ihe ihl =>
    cases b with
    | nil => simp [cmpT]
    | cons f d m =>
      simp only [cmpT, ihe f, ihl m, cmpI_neg c d]
      split <;> split <;> (try split) <;> (try split) <;> omega
theorem cmpI_trans {a b c : Int} (h1 : cmpI a b < 0) (h2 : cmpI b c < 0) : cmpI a c < 0 := by
  unfold cmpI at *
  split at h1 <;> (try split at h1) <;> split at h2 <;> (try split at h2) <;> split <;> (try split) <;> omega
theorem cmpT_trans {a b c : T} (h1 : cmpT a b < 0) (h2 : cmpT b c < 0) : cmpT a c < 0 := by
  induction a generalizing b c with
  | nil =>
    cases b with
    | nil => simp [cmpT] at h1
    | cons f d m => cases c with
      | nil => simp [cmpT] at h2
      | cons g k n => simp [cmpT]
  | cons e x l ihe ihl =>
    cases b with
    | nil => simp [cmpT] at h1
    | cons f y m =>
      cases c with
      | nil => simp [cmpT] at h2
      | cons g z n =>
        simp only [cmpT] at h1 h2 ⊢
        by_cases q1 : cmpT e f = 0
        · rw [if_pos q1] at h1
          obtain rfl := cmpT_eq.1 q1
          by_cases q2 : cmpT e g = 0
          · rw [if_pos q2] at h2 ⊢
            by_cases q3 : cmpI x y = 0
            · rw [if_pos q3] at h1
              obtain rfl := cmpI_eq.1 q3
              by_cases q4 : cmpI x z = 0
              · rw [if_pos q4] at h2 ⊢; exact ihl h1 h2
              · rw [if_neg q4] at h2 ⊢; exact h2
            · rw [if_neg q3] at h1
              by_cases q4 : cmpI y z = 0
              · rw [if_pos q4] at h2
                obtain rfl := cmpI_eq.1 q4
                rw [if_neg q3]; exact h1
              · rw [if_neg q4] at h2
                have := cmpI_trans h1 h2
                rw [if_neg (by omega)]; exact this
          · rw [if_neg q2] at h2 ⊢; exact h2
        · rw [if_neg q1] at h1
          by_cases q2 : cmpT f g = 0
          · obtain rfl := cmpT_eq.1 q2
            rw [if_neg q1]; exact h1
          · rw [if_neg q2] at h2
            have := ihe h1 h2
            rw [if_neg (by omega)]; exact this

/-! ### what is right -/
def nodesL : T → Nat
  | nil => 0
  | cons e _ l => 2 + nodesL e + nodesL l
def dp : T → Nat
  | nil => 0
  | cons e _ l => max (1 + dp e) (dp l)
/-- Coefficients in their range, exponents that fall; p: the exponent ahead. -/
def formA : Option T → T → Bool
  | _, nil => true
  | p, cons e c l => decide (1 ≤ c) && decide (c ≤ 1000000) && formA none e && (match p with | none => true | some q => decide (0 < cmpT q e)) && formA (some e) l
def ordP (t : T) : Bool := decide (1 + nodesL t ≤ 60) && decide (dp t ≤ 6) && formA none t
theorem nodes_size (t : T) : nodesL t = 2 * size t := by
  induction t with
  | nil => rfl
  | cons e c l ihe ihl => simp only [nodesL, size, ihe, ihl]; omega
theorem ordP_size {t : T} (h : ordP t = true) : size t ≤ 30 := by
  simp only [ordP, Bool.and_eq_true, decide_eq_true_eq] at h
  have := nodes_size t
  omega
end Go.Proofs.Try

namespace Go.Proofs.Try
theorem bind_of {α β : Type} {o : Option α} {y : α} {K : α → Option β} {r : Option β} (h : o = some y) (hk : K y = r) : o.bind K = r := by rw [h]; exact hk
theorem ite_pos {α : Type} {c : Prop} [Decidable c] {a b r : α} (h : c) (hk : a = r) : (if c then a else b) = r := by rw [if_pos h]; exact hk
theorem ite_neg {α : Type} {c : Prop} [Decidable c] {a b r : α} (h : ¬ c) (hk : b = r) : (if c then a else b) = r := by rw [if_neg h]; exact hk
theorem cond_tt {α : Type} {a b r : α} (h : a = r) : cond true a b = r := h
theorem cond_ff {α : Type} {a b r : α} (h : b = r) : cond false a b = r := h
end Go.Proofs.Try

namespace Go.Proofs.Try
open Go Go.AX T
/-! ### rows of terms -/
@[simp] theorem cell_T {α : Type} (x : Rw) (c : Int) (K : Rw → Int → Option α) : cell_si [.sl x, .int .i64 c] K = K x c := rfl
theorem row_T {α : Type} {t : T} {i : Int} {n : Nat} (hi : i = n) {e : T} {c : Int} {l : T} (h : drop t n = cons e c l) (K : Rw → Int → Option α) : row_si t.rows i K = K e.rows c := by
  subst hi
  unfold row_si
  rw [if_pos (by omega), Int.toNat_natCast, rows_get h]; rfl
@[simp] theorem row_T0 {α : Type} (e : T) (c : Int) (l : T) (K : Rw → Int → Option α) : row_si (cons e c l).rows 0 K = K e.rows c := row_T (n := 0) rfl rfl K
theorem lenI (t : T) : ((t.rows.length : Nat) : Int) = (t.len : Int) := by rw [rows_len]
/-! ### impl's order -/
theorem impl_compare_eq (a b : Int) : impl_compare a b = some (cmpI a b) := by unfold impl_compare cmpI; split <;> (try split) <;> rfl
theorem CompareFunc_loop {rec_ : Rw → Rw → Option Int} {a b : T} {K : Option Int} (hr : ∀ e f : T, e.size < a.size → rec_ e.rows f.rows = some (cmpT e f)) (hK : K = (if (a.len : Int) < b.len then some (-1) else some 0)) :
    ∀ (t : T) (i : Nat), drop a i = t → i ≤ a.len → i ≤ b.len → slices_CompareFunc__cmpTerms_l0 rec_ a.rows b.rows K t.rows i = some (cmpT t (drop b i))
  | nil, i, hd, ha', hb => by
    simp only [rows, slices_CompareFunc__cmpTerms_l0, hK]
    have h1 := drop_ge hd
    by_cases h2 : i < b.len
    · cases hq : drop b i with
      | nil => have := drop_ge hq; omega
      | cons f d m =>
        have : a.len = i ∨ a.len < i := by omega
        rw [if_pos (by omega)]; rfl
    · rw [drop_of_ge (t := b) (by omega), if_neg (by
        intro q
        omega)]; rfl
  | cons e c l, i, hd, ha', hb => by
    simp only [rows, slices_CompareFunc__cmpTerms_l0, cell_T]
    have hs := drop_cons_size hd
    by_cases h2 : b.len ≤ i
    · rw [if_pos (by rw [lenI]; omega), drop_of_ge h2]; rfl
    · rw [if_neg (by rw [lenI]; omega)]
      cases hq : drop b i with
      | nil => have := drop_ge hq; omega
      | cons f d m =>
        rw [row_T rfl hq]
        simp only [impl_cmpTerms, hr e f (by omega), Option.bind_some, impl_compare_eq]
        by_cases h3 : cmpT e f = 0
        · simp only [h3, if_true, Option.bind_some]
          by_cases h4 : cmpI c d = 0
          · rw [if_pos h4, CompareFunc_loop hr hK l (i + 1) (drop_succ hd) (drop_lt hd) (by omega), drop_succ hq]
            simp [cmpT, h3, h4]
          · rw [if_neg h4]; simp [cmpT, h3, h4]
        · simp only [if_neg h3, Option.bind_some]; simp [cmpT, h3]
theorem impl_cmp_eq : ∀ (k : Nat) (a b : T), a.size < k → a.size ≤ cap → impl_cmp k a.rows b.rows = some (cmpT a b)
  | 0, _, _, h, _ => absurd h (Nat.not_lt_zero _)
  | k + 1, a, b, h, hc => by
    have hl := a.len_size
    simp only [impl_cmp, impl_cmp_b, slices_CompareFunc__cmpTerms]
    rw [if_pos (by rw [rows_len]; omega)]
    rw [CompareFunc_loop (a := a) (b := b) (fun e f he => impl_cmp_eq k e f (by omega) (by omega)) (by rw [lenI, lenI]) a 0 (drop_zero a) (by omega) (by omega)]
    simp
/-! ### spec's order -/
/-- Coefficients whose differences do not run over. -/
def calm : T → Prop
  | nil => True
  | cons e c l => calm e ∧ (-1000000000000000 ≤ c ∧ c ≤ 1000000000000000) ∧ calm l
theorem calm_drop {t : T} (h : calm t) : ∀ {i : Nat}, calm (drop t i) := by
  induction t with
  | nil => intro i; simpa using h
  | cons e c l _ ih => intro i; cases i with
    | zero => simpa using h
    | succ i => exact ih h.2.2
theorem sign_eq {c d : Int} (hc : -1000000000000000 ≤ c ∧ c ≤ 1000000000000000) (hd : -1000000000000000 ≤ d ∧ d ≤ 1000000000000000) : spec_l1Sign (IntKind.i64.wrap (c - d)) = some (cmpI c d) := by
  rw [wid (by omega) (by omega)]
  unfold spec_l1Sign cmpI
  by_cases h1 : c < d
  · rw [if_neg (by omega), if_pos (by omega), if_pos h1]
  · by_cases h2 : d < c
    · rw [if_pos (by omega), if_neg h1, if_pos h2]
    · rw [if_neg (by omega), if_neg (by omega), if_neg h1, if_neg h2]
theorem odCmp_loop {rec_ : Rw → Rw → Option Int} {a b : T} {K : Option Int} (ha : calm a) (hb : calm b) (hr : ∀ e f : T, e.size < a.size → calm e → calm f → rec_ e.rows f.rows = some (cmpT e f)) (hK : K = (if (a.len : Int) < b.len then some (-1) else some 0)) :
    ∀ (t : T) (i : Nat), drop a i = t → i ≤ a.len → i ≤ b.len → spec_odCmp_l0 rec_ a.rows b.rows K t.rows i = some (cmpT t (drop b i))
  | nil, i, hd, ha', hb' => by
    simp only [rows, spec_odCmp_l0, hK]
    have h1 := drop_ge hd
    by_cases h2 : i < b.len
    · cases hq : drop b i with
      | nil => have := drop_ge hq; omega
      | cons f d m => rw [if_pos (by omega)]; rfl
    · rw [drop_of_ge (t := b) (by omega), if_neg (by
        intro q
        omega)]; rfl
  | cons e c l, i, hd, ha', hb' => by
    simp only [rows, spec_odCmp_l0, cell_T]
    have hs := drop_cons_size hd
    have hca := calm_drop ha (i := i)
    rw [hd] at hca
    by_cases h2 : i = b.len
    · rw [if_pos (by rw [lenI]; omega), drop_of_ge (by omega)]; rfl
    · rw [if_neg (by rw [lenI]; omega)]
      cases hq : drop b i with
      | nil => have := drop_ge hq; omega
      | cons f d m =>
        have hcb := calm_drop hb (i := i)
        rw [hq] at hcb
        rw [row_T rfl hq]
        simp only [hr e f (by omega) hca.1 hcb.1, Option.bind_some]
        by_cases h3 : cmpT e f = 0
        · rw [if_pos h3]
          by_cases h4 : c = d
          · subst h4
            rw [if_pos rfl, odCmp_loop ha hb hr hK l (i + 1) (drop_succ hd) (drop_lt hd) (drop_lt hq), drop_succ hq]
            simp [cmpT, h3, cmpI_refl]
          · rw [if_neg h4, sign_eq hca.2.1 hcb.2.1]
            have : cmpI c d ≠ 0 := fun q => h4 (cmpI_eq.1 q)
            simp [cmpT, h3, this]
        · rw [if_neg h3]; simp [cmpT, h3]
theorem odCmp_eq : ∀ (k : Nat) (a b : T), calm a → calm b → a.size < k → a.size ≤ cap → spec_odCmp k a.rows b.rows = some (cmpT a b)
  | 0, _, _, _, _, h, _ => absurd h (Nat.not_lt_zero _)
  | k + 1, a, b, ha, hb, h, hc => by
    have hl := a.len_size
    simp only [spec_odCmp, spec_odCmp_b]
    rw [if_pos (by rw [rows_len]; omega)]
    have := odCmp_loop (rec_ := spec_odCmp k) (a := a) (b := b) (K := spec_odCmp_p2 a.rows b.rows) ha hb (fun e f he h1 h2 => odCmp_eq k e f h1 h2 (by omega) (by omega)) (by unfold spec_odCmp_p2; rw [lenI, lenI]) a 0 (drop_zero a) (by omega) (by omega)
    rw [this, drop_zero]
end Go.Proofs.Try

namespace Go.Proofs.Try
open Go Go.AX T
theorem impl_in_eq (n a b : Int) : impl_in n a b = some (decide (a ≤ n) && decide (n ≤ b)) := by
  unfold impl_in
  by_cases h1 : a ≤ n <;> by_cases h2 : n ≤ b <;> simp [h1, h2]
theorem l1In_eq (n a b : Int) : spec_l1In n a b = some (decide (a ≤ n) && decide (n ≤ b)) := by
  unfold spec_l1In
  by_cases h1 : a ≤ n <;> by_cases h2 : n ≤ b <;> simp [h1, h2]
/-- The exponent of the term ahead of the i-th. -/
def ahead (t : T) : Nat → Option T
  | 0 => none
  | i + 1 => match drop t i with
    | cons e _ _ => some e
    | nil => none
theorem ahead_succ {t : T} {i : Nat} {e : T} {c : Int} {l : T} (h : drop t i = cons e c l) : ahead t (i + 1) = some e := by simp [ahead, h]
theorem ahead_some {t : T} {i : Nat} (h0 : 0 < i) (h : i ≤ t.len) : ∃ q c l, drop t (i - 1) = cons q c l ∧ ahead t i = some q := by
  obtain ⟨j, rfl⟩ : ∃ j, i = j + 1 := ⟨i - 1, by omega⟩
  cases hq : drop t j with
  | nil => have := drop_ge hq; omega
  | cons q c l => exact ⟨q, c, l, hq, ahead_succ hq⟩
theorem dp_drop {t : T} : ∀ {i : Nat}, dp (drop t i) ≤ dp t := by
  induction t with
  | nil => intro i; simp
  | cons e c l _ ih => intro i; cases i with
    | zero => simp
    | succ i => have := ih (i := i); simp only [drop, dp]; omega
/-- What a check of a tree tells. -/
def Tells (r : Bool × Int) (n : Int) (ok : Prop) (m : Int) : Prop := (r.1 = true ↔ ok) ∧ (r.1 = true → r.2 = m) ∧ 0 ≤ r.2 ∧ r.2 ≤ 61 ∧ n ≤ r.2
theorem at2_loop {k : Nat} {rec_ : Rw → Int → Int → Int → Option (Bool × Int)} {a : T} {d1 deep : Int} (hd : 0 ≤ deep ∧ deep ≤ 6) (hk : a.size ≤ k) (hc : a.size ≤ cap)
    (hr : ∀ (e : T) (x n : Int), e.size < a.size → 0 ≤ n → n ≤ 60 → ∃ r, rec_ e.rows x (deep + 1) n = some r ∧ Tells r n (n + 1 + nodesL e ≤ 60 ∧ deep + 1 + dp e ≤ 6 ∧ formA none e = true) (n + 1 + nodesL e)) :
    ∀ (t : T) (i : Nat) (m : Int), drop a i = t → i ≤ a.len → 0 ≤ m → m ≤ 60 → ∃ r, impl_ordinalAt_2_l0 k rec_ a.rows d1 deep (fun v => impl_ordinalAt_2_p3 v) t.rows i m = some r ∧ Tells r m (m + nodesL t ≤ 60 ∧ deep + dp t ≤ 6 ∧ formA (ahead a i) t = true) (m + nodesL t)
  | nil, i, m, hdr, hi, h0, h60 => by
    refine ⟨(true, m), rfl, ?_⟩
    simp only [Tells, nodesL, dp, formA]
    refine ⟨⟨fun _ => ⟨by omega, by omega, trivial⟩, fun _ => trivial⟩, fun _ => by omega, h0, by omega, by omega⟩
  | cons e c l, i, m, hdr, hi, h0, h60 => by
    have hs := drop_cons_size hdr
    simp only [rows, impl_ordinalAt_2_l0, cell_T]
    rw [wid (n := m + 1) (by omega) (by omega)]
    by_cases h1 : 60 < m + 1
    · rw [if_pos h1]
      refine ⟨_, rfl, ?_⟩
      simp only [Tells, nodesL]
      refine ⟨⟨fun h => (by cases h), fun h => by omega⟩, fun h => (by cases h), by omega, by omega, by omega⟩
    · rw [if_neg h1, impl_in_eq, Option.bind_some]
      by_cases h2 : (decide (1 ≤ c) && decide (c ≤ 1000000)) = true
      · rw [if_pos h2, wid (n := deep + 1) (by omega) (by omega)]
        obtain ⟨r1, e1, t1, t2, t3, t4, t5⟩ := hr e c (m + 1) (by omega) (by omega) (by omega)
        rw [e1, Option.bind_some]
        obtain ⟨b1, m1⟩ := r1
        dsimp only at t1 t2 t3 t4 t5 ⊢
        cases b1 with
        | false =>
          rw [if_neg (by simp)]
          refine ⟨_, rfl, ?_⟩
          simp only [Tells]
          refine ⟨⟨fun h => (by cases h), fun h => ?_⟩, fun h => (by cases h), t3, t4, by omega⟩
          obtain ⟨q1, q2, q3⟩ := h
          simp only [nodesL, dp, formA, Bool.and_eq_true] at q1 q2 q3
          exact t1.2 ⟨by omega, by omega, q3.1.1.2⟩
        | true =>
          obtain ⟨u1, u2, u3⟩ := t1.1 rfl
          obtain rfl := t2 rfl
          rw [if_pos rfl]
          have go : ∀ (hp : (match ahead a i with | none => true | some q => decide (0 < cmpT q e)) = true), ∃ r, impl_ordinalAt_2_l0 k rec_ a.rows d1 deep (fun v => impl_ordinalAt_2_p3 v) l.rows (i + 1) (m + 1 + 1 + nodesL e) = some r ∧ Tells r m (m + nodesL (cons e c l) ≤ 60 ∧ deep + dp (cons e c l) ≤ 6 ∧ formA (ahead a i) (cons e c l) = true) (m + nodesL (cons e c l)) := by
            intro hp
            obtain ⟨r, er, s1, s2, s3, s4, s5⟩ := at2_loop hd hk hc hr l (i + 1) (m + 1 + 1 + nodesL e) (drop_succ hdr) (drop_lt hdr) (by omega) (by omega)
            refine ⟨r, er, ?_⟩
            rw [ahead_succ hdr] at s1
            simp only [Tells, nodesL, dp, formA, Bool.and_eq_true]
            refine ⟨s1.trans ⟨fun q => ⟨by have := q.1; omega, by have := q.2.1; omega, ⟨⟨(by simpa using h2), u3⟩, hp⟩, q.2.2⟩, fun q => ⟨by have := q.1; omega, by have := q.2.1; omega, q.2.2.2⟩⟩, fun q => by rw [s2 q]; omega, s3, s4, by omega⟩
          by_cases h3 : (0 : Int) < (i : Int)
          · obtain ⟨q, qc, ql, hq, ha⟩ := ahead_some (t := a) (i := i) (by omega) hi
            have hqs := drop_cons_size hq
            rw [if_pos h3, wid (n := (i : Int) - 1) (by omega) (by have := a.len_size; have : cap = 1099511627776 := rfl; omega), row_T (n := i - 1) (by omega) hq, impl_cmp_eq k q e (by omega) (by omega), Option.bind_some]
            by_cases h4 : cmpT q e ≤ 0
            · rw [if_pos h4]
              refine ⟨_, rfl, ?_⟩
              simp only [Tells]
              refine ⟨⟨fun h => (by cases h), fun h => ?_⟩, fun h => (by cases h), t3, t4, by omega⟩
              obtain ⟨_, _, q3⟩ := h
              simp only [formA, ha, Bool.and_eq_true, decide_eq_true_eq] at q3
              have := q3.1.2
              omega
            · rw [if_neg h4]
              exact go (by rw [ha]; simp; omega)
          · rw [if_neg h3]
            have : i = 0 := by omega
            subst this
            exact go rfl
      · rw [if_neg h2]
        refine ⟨_, rfl, ?_⟩
        simp only [Tells]
        refine ⟨⟨fun h => (by cases h), fun h => ?_⟩, fun h => (by cases h), by omega, by omega, by omega⟩
        obtain ⟨_, _, q3⟩ := h
        simp only [formA, Bool.and_eq_true] at q3 h2
        exact absurd q3.1.1.1 h2
theorem at2_eq : ∀ (k : Nat) (a : T) (x deep n : Int), a.size < k → a.size ≤ cap → 0 ≤ deep → deep ≤ 7 → 0 ≤ n → n ≤ 60 →
    ∃ r, impl_ordinalAt_2 k a.rows x deep n = some r ∧ Tells r n (n + 1 + nodesL a ≤ 60 ∧ deep + dp a ≤ 6 ∧ formA none a = true) (n + 1 + nodesL a)
  | 0, _, _, _, _, h, _, _, _, _, _ => absurd h (Nat.not_lt_zero _)
  | k + 1, a, x, deep, n, h, hc, h0, h7, n0, n60 => by
    have hl := a.len_size
    simp only [impl_ordinalAt_2, impl_ordinalAt_2_b]
    rw [wid (n := n + 1) (by omega) (by omega)]
    by_cases h1 : 60 < n + 1
    · rw [if_pos h1]
      refine ⟨_, rfl, ?_⟩
      simp only [Tells]
      exact ⟨⟨fun h => (by cases h), fun h => by omega⟩, fun h => (by cases h), by omega, by omega, by omega⟩
    · rw [if_neg h1]
      by_cases h2 : 6 < deep
      · rw [if_pos h2]
        refine ⟨_, rfl, ?_⟩
        simp only [Tells]
        exact ⟨⟨fun h => (by cases h), fun h => by omega⟩, fun h => (by cases h), by omega, by omega, by omega⟩
      · rw [if_neg h2, if_pos (by rw [rows_len]; omega)]
        obtain ⟨r, e, s1, s2, s3, s4, s5⟩ := at2_loop (k := k) (rec_ := impl_ordinalAt_2 k) (a := a) (d1 := x) (deep := deep) (by omega) (by omega) hc (fun e y m he m0 m60 => at2_eq k e y (deep + 1) m (by omega) (by omega) (by omega) (by omega) m0 m60) a 0 (n + 1) (drop_zero a) (by omega) (by omega) (by omega)
        exact ⟨r, e, s1, s2, s3, s4, by omega⟩
theorem at1_loop {k : Nat} {a : T} (hk : a.size < k) (hc : a.size ≤ cap) :
    ∀ (t : T) (i : Nat) (m : Int), drop a i = t → i ≤ a.len → 0 ≤ m → m ≤ 60 → ∃ r : Bool × Int, impl_ordinalAt_l0 k a.rows 0 (fun v => impl_ordinalAt_p3 a.rows v) t.rows i m = some (r.1, a.rows, r.2) ∧ (r.1 = true ↔ m + nodesL t ≤ 60 ∧ dp t ≤ 6 ∧ formA (ahead a i) t = true) ∧ (r.1 = true → r.2 = m + nodesL t)
  | nil, i, m, hdr, hi, h0, h60 => by
    refine ⟨(true, m), rfl, ?_⟩
    simp only [nodesL, dp, formA]
    exact ⟨⟨fun _ => ⟨by omega, by omega, trivial⟩, fun _ => trivial⟩, fun _ => by omega⟩
  | cons e c l, i, m, hdr, hi, h0, h60 => by
    have hs := drop_cons_size hdr
    simp only [rows, impl_ordinalAt_l0, cell_T]
    rw [wid (n := m + 1) (by omega) (by omega)]
    by_cases h1 : 60 < m + 1
    · rw [if_pos h1]
      exact ⟨(false, _), rfl, ⟨fun h => (by cases h), fun h => by simp only [nodesL] at h; omega⟩, fun h => (by cases h)⟩
    · rw [if_neg h1, impl_in_eq, Option.bind_some]
      by_cases h2 : (decide (1 ≤ c) && decide (c ≤ 1000000)) = true
      · rw [if_pos h2, wid (n := 0 + 1) (by omega) (by omega)]
        obtain ⟨r1, e1, t1, t2, t3, t4, t5⟩ := at2_eq k e c (0 + 1) (m + 1) (by omega) (by omega) (by omega) (by omega) (by omega) (by omega)
        rw [e1, Option.bind_some]
        obtain ⟨b1, m1⟩ := r1
        dsimp only at t1 t2 t3 t4 t5 ⊢
        cases b1 with
        | false =>
          rw [if_neg (by simp)]
          refine ⟨(false, _), rfl, ⟨fun h => (by cases h), fun h => ?_⟩, fun h => (by cases h)⟩
          obtain ⟨q1, q2, q3⟩ := h
          simp only [nodesL, dp, formA, Bool.and_eq_true] at q1 q2 q3
          exact t1.2 ⟨by omega, by omega, q3.1.1.2⟩
        | true =>
          obtain ⟨u1, u2, u3⟩ := t1.1 rfl
          obtain rfl := t2 rfl
          rw [if_pos rfl]
          have go : ∀ (hp : (match ahead a i with | none => true | some q => decide (0 < cmpT q e)) = true), ∃ r : Bool × Int, impl_ordinalAt_l0 k a.rows 0 (fun v => impl_ordinalAt_p3 a.rows v) l.rows (i + 1) (m + 1 + 1 + nodesL e) = some (r.1, a.rows, r.2) ∧ (r.1 = true ↔ m + nodesL (cons e c l) ≤ 60 ∧ dp (cons e c l) ≤ 6 ∧ formA (ahead a i) (cons e c l) = true) ∧ (r.1 = true → r.2 = m + nodesL (cons e c l)) := by
            intro hp
            obtain ⟨r, er, s1, s2⟩ := at1_loop hk hc l (i + 1) (m + 1 + 1 + nodesL e) (drop_succ hdr) (drop_lt hdr) (by omega) (by omega)
            refine ⟨r, er, ?_⟩
            rw [ahead_succ hdr] at s1
            simp only [nodesL, dp, formA, Bool.and_eq_true]
            exact ⟨s1.trans ⟨fun q => ⟨by have := q.1; omega, by have := q.2.1; omega, ⟨⟨(by simpa using h2), u3⟩, hp⟩, q.2.2⟩, fun q => ⟨by have := q.1; omega, by have := q.2.1; omega, q.2.2.2⟩⟩, fun q => by rw [s2 q]; omega⟩
          by_cases h3 : (0 : Int) < (i : Int)
          · obtain ⟨q, qc, ql, hq, ha⟩ := ahead_some (t := a) (i := i) (by omega) hi
            have hqs := drop_cons_size hq
            rw [if_pos h3, wid (n := (i : Int) - 1) (by omega) (by have := a.len_size; have : cap = 1099511627776 := rfl; omega), row_T (n := i - 1) (by omega) hq, impl_cmp_eq k q e (by omega) (by omega), Option.bind_some]
            by_cases h4 : cmpT q e ≤ 0
            · rw [if_pos h4]
              refine ⟨(false, _), rfl, ⟨fun h => (by cases h), fun h => ?_⟩, fun h => (by cases h)⟩
              obtain ⟨_, _, q3⟩ := h
              simp only [formA, ha, Bool.and_eq_true, decide_eq_true_eq] at q3
              have := q3.1.2
              omega
            · rw [if_neg h4]
              exact go (by rw [ha]; simp; omega)
          · rw [if_neg h3]
            have : i = 0 := by omega
            subst this
            exact go rfl
      · rw [if_neg h2]
        refine ⟨(false, _), rfl, ⟨fun h => (by cases h), fun h => ?_⟩, fun h => (by cases h)⟩
        obtain ⟨_, _, q3⟩ := h
        simp only [formA, Bool.and_eq_true] at q3 h2
        exact absurd q3.1.1.1 h2
theorem at1_eq (k : Nat) (a : T) (hk : a.size < k) (hc : a.size ≤ cap) : ∃ r : Bool × Int, impl_ordinalAt k a.rows 0 0 = some (r.1, a.rows, r.2) ∧ (r.1 = true ↔ ordP a = true) ∧ (r.1 = true → r.2 = 1 + nodesL a) := by
  have hl := a.len_size
  unfold impl_ordinalAt
  rw [wid (n := 0 + 1) (by omega) (by omega), if_neg (by omega), if_neg (by omega), if_pos (by rw [rows_len]; omega)]
  obtain ⟨r, e, s, v⟩ := at1_loop hk hc a 0 (0 + 1) (drop_zero a) (by omega) (by omega) (by omega)
  refine ⟨r, e, s.trans ?_, fun q => by rw [v q]; omega⟩
  simp only [ordP, Bool.and_eq_true, decide_eq_true_eq, ahead]
  exact ⟨fun q => ⟨⟨by have := q.1; omega, q.2.1⟩, q.2.2⟩, fun q => ⟨by have := q.1.1; omega, q.1.2, q.2⟩⟩
theorem IsOrdinal_eq (k : Nat) (a : T) (hk : a.size < k) (hc : a.size ≤ cap) : impl_IsOrdinal k a.rows = some (ordP a) := by
  obtain ⟨r, e, s, _⟩ := at1_eq k a hk hc
  unfold impl_IsOrdinal
  rw [e, Option.bind_some]
  cases hb : ordP a with
  | true => rw [if_pos (s.2 hb)]
  | false => rw [if_neg (fun q => by rw [s.1 q] at hb; cases hb)]
theorem clone_loop {rec_ : Rw → Option Rw} {a : T} {K : Rw → Option Rw} (hr : ∀ e : T, e.size < a.size → rec_ e.rows = some e.rows) : ∀ (t : T) (acc : Rw), t.size ≤ a.size → acc.length + t.len ≤ cap → impl_cloneOrdinal_l0 rec_ a.rows K t.rows acc = K (acc ++ t.rows)
  | nil, acc, _, _ => by simp [rows, impl_cloneOrdinal_l0]
  | cons e c l, acc, hs, hl => by
    simp only [size, len] at hs hl
    simp only [rows, impl_cloneOrdinal_l0, cell_T, hr e (by omega), Option.bind_some]
    rw [if_pos (by omega), clone_loop hr l _ (by omega) (by simp; omega)]
    simp
theorem clone_eq : ∀ (k : Nat) (a : T), a.size < k → a.size ≤ cap → impl_cloneOrdinal k a.rows = some a.rows
  | 0, _, h, _ => absurd h (Nat.not_lt_zero _)
  | k + 1, a, h, hc => by
    have hl := a.len_size
    simp only [impl_cloneOrdinal, impl_cloneOrdinal_b]
    rw [if_pos (by rw [rows_len]; omega), clone_loop (fun e he => clone_eq k e (by omega) (by omega)) a [] (Nat.le_refl _) (by simp; omega)]
    simp
def toldT (t : T) : T × Bool := if ordP t then (t, true) else (nil, false)
theorem own_loop {rec_ : Rw → Option Rw} {a : T} {K : Rw → Option Rw} (hr : ∀ e : T, e.size < a.size → rec_ e.rows = some e.rows) : ∀ (t : T) (acc : Rw), t.size ≤ a.size → acc.length + t.len ≤ cap → spec_odOwn_l0 rec_ a.rows K t.rows acc = K (acc ++ t.rows)
  | nil, acc, _, _ => by simp [rows, spec_odOwn_l0]
  | cons e c l, acc, hs, hl => by
    simp only [size, len] at hs hl
    simp only [rows, spec_odOwn_l0, cell_T, hr e (by omega), Option.bind_some]
    rw [if_pos (by omega), own_loop hr l _ (by omega) (by simp; omega)]
    simp
theorem own_eq : ∀ (k : Nat) (a : T), a.size < k → a.size ≤ cap → spec_odOwn k a.rows = some a.rows
  | 0, _, h, _ => absurd h (Nat.not_lt_zero _)
  | k + 1, a, h, hc => by
    have hl := a.len_size
    simp only [spec_odOwn, spec_odOwn_b]
    rw [if_pos (by rw [rows_len]; omega), own_loop (fun e he => own_eq k e (by omega) (by omega)) a [] (Nat.le_refl _) (by simp; omega)]
    simp
/-! ### spec's check -/
theorem left_loop {rec_ : Rw → Int → Int → Option Int} {a : T} {depth : Int} (hd : 0 ≤ depth ∧ depth ≤ 6) (hr : ∀ (e : T) (v : Int), e.size < a.size → 0 < depth → -1 ≤ v → v ≤ 60 → ∃ r, rec_ e.rows (depth - 1) v = some r ∧ -2 ≤ r ∧ r ≤ 60 ∧ (1 + nodesL e ≤ v ∧ dp e ≤ depth - 1 → r = v - 1 - nodesL e) ∧ (¬ (1 + nodesL e ≤ v ∧ dp e ≤ depth - 1) → r < 0)) :
    ∀ (t : T) (v : Int), t.size ≤ a.size → -2 ≤ v → v ≤ 60 → ∃ r, spec_odLeft_l0 rec_ a.rows depth (fun v => some v) t.rows v = some r ∧ -2 ≤ r ∧ r ≤ 60 ∧ (nodesL t ≤ v ∧ dp t ≤ depth → r = v - nodesL t) ∧ (¬ (nodesL t ≤ v ∧ dp t ≤ depth) → r < 0)
  | nil, v, _, v0, v60 => ⟨v, rfl, v0, v60, fun _ => by simp [nodesL], fun h => by simp only [nodesL, dp] at h; omega⟩
  | cons e c l, v, hs, v0, v60 => by
    simp only [size] at hs
    simp only [rows, spec_odLeft_l0, cell_T]
    by_cases h1 : v < 0
    · rw [if_pos h1]
      exact ⟨-1, rfl, by omega, by omega, fun h => by simp only [nodesL] at h; omega, fun _ => by omega⟩
    · rw [if_neg h1]
      by_cases h2 : depth = 0
      · rw [if_pos h2]
        exact ⟨-1, rfl, by omega, by omega, fun h => by simp only [dp] at h; omega, fun _ => by omega⟩
      · rw [if_neg h2, wid (n := depth - 1) (by omega) (by omega), wid (n := v - 1) (by omega) (by omega)]
        obtain ⟨r1, e1, p1, p2, p3, p4⟩ := hr e (v - 1) (by omega) (by omega) (by omega) (by omega)
        rw [e1, Option.bind_some]
        obtain ⟨r, er, q1, q2, q3, q4⟩ := left_loop hd hr l r1 (by omega) p1 p2
        refine ⟨r, er, q1, q2, fun h => ?_, fun h => ?_⟩
        · simp only [nodesL, dp] at h ⊢
          have e2 := p3 ⟨by omega, by omega⟩
          rw [q3 ⟨by omega, by omega⟩, e2]; omega
        · by_cases h3 : 1 + (nodesL e : Int) ≤ v - 1 ∧ dp e ≤ depth - 1
          · have e2 := p3 h3
            refine q4 fun q => h ?_
            simp only [nodesL, dp]
            omega
          · exact q4 fun q => by have := p4 h3; omega
theorem left_eq : ∀ (k : Nat) (a : T) (depth v : Int), a.size < k → a.size ≤ cap → 0 ≤ depth → depth ≤ 6 → -1 ≤ v → v ≤ 60 →
    ∃ r, spec_odLeft k a.rows depth v = some r ∧ -2 ≤ r ∧ r ≤ 60 ∧ (1 + nodesL a ≤ v ∧ dp a ≤ depth → r = v - 1 - nodesL a) ∧ (¬ (1 + nodesL a ≤ v ∧ dp a ≤ depth) → r < 0)
  | 0, _, _, _, h, _, _, _, _, _ => absurd h (Nat.not_lt_zero _)
  | k + 1, a, depth, v, h, hc, d0, d6, v0, v60 => by
    have hl := a.len_size
    simp only [spec_odLeft, spec_odLeft_b]
    rw [if_pos (by rw [rows_len]; omega), wid (n := v - 1) (by omega) (by omega)]
    obtain ⟨r, er, q1, q2, q3, q4⟩ := left_loop (rec_ := spec_odLeft k) (a := a) (depth := depth) ⟨d0, d6⟩ (fun e u he hd u0 u60 => left_eq k e (depth - 1) u (by omega) (by omega) (by omega) (by omega) u0 u60) a (v - 1) (Nat.le_refl _) (by omega) (by omega)
    exact ⟨r, er, q1, q2, fun q => q3 ⟨by omega, q.2⟩, fun q => q4 fun u => q ⟨by omega, u.2⟩⟩
theorem form_loop {k : Nat} {rec_ : Rw → Int → Option Bool} {a : T} {depth : Int} (hd : 0 ≤ depth ∧ depth ≤ 6) (hk : a.size ≤ k) (hc : a.size ≤ cap) (ha : calm a)
    (hr : ∀ e : T, e.size < a.size → calm e → rec_ e.rows (depth - 1) = some (decide ((dp e : Int) ≤ depth - 1) && formA none e)) :
    ∀ (t : T) (i : Nat), drop a i = t → i ≤ a.len → spec_odForm_l0 k rec_ a.rows depth spec_odForm_p3 t.rows i = some (decide ((dp t : Int) ≤ depth) && formA (ahead a i) t)
  | nil, i, hdr, hi => by
    have : decide ((dp nil : Int) ≤ depth) = true := decide_eq_true (by simp only [dp]; omega)
    rw [this]; rfl
  | cons e c l, i, hdr, hi => by
    have hs := drop_cons_size hdr
    have hca := calm_drop ha (i := i)
    rw [hdr] at hca
    simp only [rows, spec_odForm_l0, cell_T, l1In_eq, Option.bind_some]
    by_cases h2 : (decide (1 ≤ c) && decide (c ≤ 1000000)) = true
    · rw [if_pos h2, wid (n := depth - 1) (by omega) (by omega), hr e (by omega) hca.1, Option.bind_some]
      by_cases h3 : (decide ((dp e : Int) ≤ depth - 1) && formA none e) = true
      · rw [if_pos h3]
        simp only [Bool.and_eq_true, decide_eq_true_eq] at h3
        have go : ∀ (hp : (match ahead a i with | none => true | some q => decide (0 < cmpT q e)) = true), spec_odForm_l0 k rec_ a.rows depth spec_odForm_p3 l.rows (i + 1) = some (decide ((dp (cons e c l) : Int) ≤ depth) && formA (ahead a i) (cons e c l)) := by
          intro hp
          rw [form_loop hd hk hc ha hr l (i + 1) (drop_succ hdr) (drop_lt hdr), ahead_succ hdr]
          have e1 : decide ((dp (cons e c l) : Int) ≤ depth) = decide ((dp l : Int) ≤ depth) := by simp only [dp]; congr 1; apply propext; omega
          have h6 : formA (ahead a i) (cons e c l) = formA (some e) l := by
            simp only [formA, h2, h3.2, Bool.true_and]
            cases hq : ahead a i with
            | none => simp
            | some q => rw [hq] at hp; simp only at hp; simp [hp]
          rw [e1, h6]
        by_cases h4 : (0 : Int) < (i : Int)
        · obtain ⟨q, qc, ql, hq, ha'⟩ := ahead_some (t := a) (i := i) (by omega) hi
          have hqs := drop_cons_size hq
          have hcq := calm_drop ha (i := i - 1)
          rw [hq] at hcq
          rw [if_pos h4, wid (n := (i : Int) - 1) (by omega) (by have := a.len_size; have : cap = 1099511627776 := rfl; omega), row_T (n := i - 1) (by omega) hq, odCmp_eq k q e hcq.1 hca.1 (by omega) (by omega), Option.bind_some]
          by_cases h5 : cmpT q e ≤ 0
          · rw [if_pos h5]
            have : decide (0 < cmpT q e) = false := by simpa using h5
            simp [formA, ha', this]
          · rw [if_neg h5]
            exact go (by rw [ha']; simp; omega)
        · rw [if_neg h4]
          have : i = 0 := by omega
          subst this
          exact go rfl
      · rw [if_neg h3]
        have : (decide ((dp (cons e c l) : Int) ≤ depth) && formA (ahead a i) (cons e c l)) = false := by
          refine Bool.eq_false_iff.2 fun hx => h3 ?_
          rw [Bool.and_eq_true, decide_eq_true_eq] at hx ⊢
          obtain ⟨x1, x2⟩ := hx
          simp only [dp] at x1
          simp only [formA, Bool.and_eq_true] at x2
          exact ⟨by omega, x2.1.1.2⟩
        rw [this]
    · rw [if_neg h2]
      have : formA (ahead a i) (cons e c l) = false := by
        simp only [formA]
        cases hx : (decide (1 ≤ c) && decide (c ≤ 1000000)) with
        | true => exact absurd hx h2
        | false => simp
      rw [this, Bool.and_false]
theorem form_eq : ∀ (k : Nat) (a : T) (depth : Int), a.size < k → a.size ≤ cap → calm a → -1 ≤ depth → depth ≤ 6 → spec_odForm k a.rows depth = some (decide ((dp a : Int) ≤ depth) && formA none a)
  | 0, _, _, h, _, _, _, _ => absurd h (Nat.not_lt_zero _)
  | k + 1, a, depth, h, hc, ha, d0, d6 => by
    have hl := a.len_size
    simp only [spec_odForm, spec_odForm_b]
    by_cases h1 : depth < 0
    · rw [if_pos h1]
      have : decide ((dp a : Int) ≤ depth) = false := by simp; omega
      rw [this, Bool.false_and]
    · rw [if_neg h1, if_pos (by rw [rows_len]; omega), form_loop (a := a) (by omega) (by omega) hc ha (fun e he hce => form_eq k e (depth - 1) (by omega) (by omega) hce (by omega) (by omega)) a 0 (drop_zero a) (by omega)]
      rfl
theorem odGood_eq (k : Nat) (a : T) (h : a.size < k) (hc : a.size ≤ cap) (ha : calm a) : spec_odGood k a.rows = some (ordP a) := by
  unfold spec_odGood
  obtain ⟨r, er, q1, q2, q3, q4⟩ := left_eq k a 6 60 h hc (by omega) (by omega) (by omega) (by omega)
  rw [er, Option.bind_some]
  by_cases h1 : 1 + nodesL a ≤ 60 ∧ dp a ≤ 6
  · have := q3 ⟨by omega, by omega⟩
    rw [if_pos (by omega), form_eq k a 6 h hc ha (by omega) (by omega), Option.bind_some]
    have h2 : decide ((dp a : Int) ≤ 6) = true := by simp; omega
    simp only [ordP, h2, h1.1, h1.2, decide_true, Bool.true_and]
    cases formA none a <;> rfl
  · have := q4 (by omega)
    rw [if_neg (by omega)]
    have : ordP a = false := by
      cases hx : ordP a with
      | false => rfl
      | true => simp only [ordP, Bool.and_eq_true, decide_eq_true_eq] at hx; exact absurd hx.1 h1
    rw [this]
end Go.Proofs.Try

namespace Go.Proofs.Try
open Go Go.AX T
theorem fr_snocLen (l e : T) (c : Int) : (app l (cons e c nil)).len = l.len + 1 := by rw [len_app]; rfl
/-- Slices no longer than a machine has. -/
def fitT : T → Prop
  | nil => True
  | cons e c l => fitT e ∧ (e.len : Int) ≤ 9223372036854775807 ∧ fitT l
end Go.Proofs.Try

namespace Go.Proofs.Try
open Go Go.AX T
theorem fr_drop_app (l r : T) : drop (app l r) l.len = r := by
  induction l with
  | nil => simp [app, len]
  | cons e c l _ ih => exact ih
def mkT : T → Int → T
  | nil, _ => nil
  | cons e _ l, k => cons (mkT e k) (k + size e) (mkT l (k + size e + 1))
theorem mkT_len (t : T) (k : Int) : (mkT t k).len = t.len := by
  induction t generalizing k with
  | nil => rfl
  | cons e c l _ ih => simp [mkT, len, ih]
theorem mkT_size (t : T) (k : Int) : (mkT t k).size = t.size := by
  induction t generalizing k with
  | nil => rfl
  | cons e c l ihe ih => simp [mkT, size, ihe, ih]
theorem set_rows (l e e' r : T) (c c' : Int) : (app l (cons e c r)).rows.set l.len [D.sl e'.rows, D.int .i64 c'] = (app l (cons e' c' r)).rows := by
  rw [rows_app, rows_app, ← rows_len l, List.set_append_right (h := Nat.le_refl _), Nat.sub_self]; rfl
end Go.Proofs.Try

namespace Go.Proofs.Try
open Go Go.AX T
abbrev w (n : Int) : Int := IntKind.i64.wrap n
theorem drop_app (l r : T) : drop (app l r) l.len = r := by
  induction l with
  | nil => simp [app, len]
  | cons e c l _ ih => exact ih
theorem T.snoc (t : T) : t = nil ∨ ∃ l x c, t = app l (cons x c nil) := by
  induction t with
  | nil => exact .inl rfl
  | cons e c l _ ih =>
    rcases ih with rfl | ⟨l', x, d, rfl⟩
    · exact .inr ⟨nil, e, c, rfl⟩
    · exact .inr ⟨cons e c l', x, d, rfl⟩
theorem calm_app {a b : T} : calm (app a b) ↔ calm a ∧ calm b := by
  induction a with
  | nil => simp [app, calm]
  | cons e c l _ ih => simp only [app, calm, ih, and_assoc]
/-! ### impl's sum -/
def goP : T → T → Int → T → T
  | nil, f, d, m => cons f d m
  | cons e c l, f, d, m => if cmpT e f = 1 then cons e c (goP l f d m) else if cmpT e f = 0 then cons e (w (c + d)) m else goP l f d m
def plusT : T → T → T
  | a, nil => a
  | a, cons f d m => goP a f d m
theorem goP_size (a f : T) (d : Int) (m : T) : (goP a f d m).size ≤ a.size + f.size + m.size + 1 := by
  induction a with
  | nil => simp [goP, size]
  | cons e c l _ ih =>
    simp only [goP]
    split
    · simp only [size]; omega
    · split
      · simp only [size]; omega
      · simp only [size]; omega
theorem plusT_size (a b : T) : (plusT a b).size ≤ a.size + b.size := by
  cases b with
  | nil => simp [plusT]
  | cons f d m => simp only [plusT, size]; have := goP_size a f d m; omega
theorem calm_less {a b : T} (h : ordP a = true) : True := trivial
theorem form_calm {p : Option T} {t : T} (h : formA p t = true) : calm t := by
  induction t generalizing p with
  | nil => trivial
  | cons e c l ihe ihl =>
    simp only [formA, Bool.and_eq_true, decide_eq_true_eq] at h
    obtain ⟨⟨⟨⟨h1, h2⟩, h3⟩, _⟩, h5⟩ := h
    exact ⟨ihe h3, by omega, ihl h5⟩
theorem ordP_form {t : T} (h : ordP t = true) : formA none t = true := by
  simp only [ordP, Bool.and_eq_true] at h; exact h.2
theorem form_any {p : Option T} {t : T} (h : formA p t = true) : formA none t = true := by
  cases t with
  | nil => rfl
  | cons e c l =>
    simp only [formA, Bool.and_eq_true] at h ⊢
    exact ⟨⟨⟨h.1.1.1, h.1.1.2⟩, trivial⟩, h.2⟩
end Go.Proofs.Try

namespace Go.Proofs.Try
open Go Go.AX T
/-- Without the terms at the end that are less than w^e. -/
def popT : T → T → T
  | nil, _ => nil
  | cons x c l, e => match popT l e with
    | nil => if cmpT x e < 0 then nil else cons x c nil
    | cons y d m => cons x c (cons y d m)
/-- A term added at the end. -/
def addL : T → T → Int → T
  | nil, e, d => cons e d nil
  | cons x c l, e, d => match l with
    | nil => if cmpT x e = 0 then cons x (w (c + d)) nil else cons x c (cons e d nil)
    | cons _ _ _ => cons x c (addL l e d)
def splus : T → T → T
  | a, nil => a
  | a, cons f d m => splus (addL (popT a f) f d) m
theorem popT_snoc (l x : T) (c : Int) (e : T) : popT (app l (cons x c nil)) e = if cmpT x e < 0 then popT l e else app l (cons x c nil) := by
  induction l with
  | nil => simp [app, popT]
  | cons y d l _ ih =>
    by_cases h : cmpT x e < 0
    · rw [if_pos h] at ih ⊢
      simp only [app, popT]
      rw [ih]
    · rw [if_neg h] at ih ⊢
      simp only [app, popT]
      rw [ih]
      cases l <;> simp [app]
theorem addL_snoc (l x : T) (c : Int) (e : T) (d : Int) : addL (app l (cons x c nil)) e d = if cmpT x e = 0 then app l (cons x (w (c + d)) nil) else app (app l (cons x c nil)) (cons e d nil) := by
  induction l with
  | nil => simp only [app, addL]
  | cons y k l _ ih =>
    have : app l (cons x c nil) ≠ nil := by cases l <;> simp [app]
    simp only [app, addL]
    split
    · rename_i h; exact absurd h this
    · rename_i h
      rw [ih]
      split <;> rfl
theorem popT_size (a e : T) : (popT a e).size ≤ a.size := by
  induction a with
  | nil => simp [popT, size]
  | cons x c l _ ih =>
    simp only [popT]
    split
    · split <;> simp [size]
    · rename_i h; rw [h] at ih; simp only [size] at ih ⊢; omega
theorem addL_size (a e : T) (d : Int) : (addL a e d).size ≤ a.size + e.size + 1 := by
  induction a with
  | nil => simp [addL, size]
  | cons x c l _ ih =>
    simp only [addL]
    split
    · split <;> simp [size] <;> omega
    · simp only [size] at ih ⊢; omega
theorem splus_size (a b : T) : (splus a b).size ≤ a.size + b.size := by
  induction b generalizing a with
  | nil => simp [splus, size]
  | cons f d m _ ih =>
    have h1 := ih (addL (popT a f) f d)
    have h2 := addL_size (popT a f) f d
    have h3 := popT_size a f
    simp only [splus, size] at *; omega
/-- Coefficients within a bound. -/
def sm (B : Int) : T → Prop
  | nil => True
  | cons e c l => sm B e ∧ (-B ≤ c ∧ c ≤ B) ∧ sm B l
theorem sm_calm {B : Int} {t : T} (h : sm B t) (hB : B ≤ 1000000000000000) : calm t := by
  induction t with
  | nil => trivial
  | cons e c l ihe ihl => exact ⟨ihe h.1, by have := h.2.1; omega, ihl h.2.2⟩
theorem sm_mono {B C : Int} {t : T} (h : sm B t) (hB : B ≤ C) : sm C t := by
  induction t with
  | nil => trivial
  | cons e c l ihe ihl => exact ⟨ihe h.1, by have := h.2.1; omega, ihl h.2.2⟩
theorem sm_app {B : Int} {a b : T} : sm B (app a b) ↔ sm B a ∧ sm B b := by
  induction a with
  | nil => simp [app, sm]
  | cons e c l _ ih => simp only [app, sm, ih, and_assoc]
theorem sm_pop {B : Int} {a e : T} (h : sm B a) : sm B (popT a e) := by
  induction a with
  | nil => trivial
  | cons x c l _ ih =>
    have ih := ih h.2.2
    simp only [popT]
    split
    · split
      · trivial
      · exact ⟨h.1, h.2.1, trivial⟩
    · rename_i hq; rw [hq] at ih; exact ⟨h.1, h.2.1, ih⟩
theorem sm_addL {B C : Int} {a e : T} {d : Int} (h : sm B a) (he : sm C e) (hd : -C ≤ d ∧ d ≤ C) (hB : 0 ≤ B ∧ 0 ≤ C ∧ B + C ≤ 1000000000000000) : sm (B + C) (addL a e d) := by
  induction a with
  | nil => exact ⟨sm_mono he (by omega), by omega, trivial⟩
  | cons x c l _ ih =>
    obtain ⟨h1, h2, h3⟩ := h
    simp only [addL]
    split
    · split
      · refine ⟨sm_mono h1 (by omega), ?_, trivial⟩
        show _ ≤ w (c + d) ∧ w (c + d) ≤ _
        rw [show w (c + d) = c + d from wid (by omega) (by omega)]; omega
      · exact ⟨sm_mono h1 (by omega), by omega, sm_mono he (by omega), by omega, trivial⟩
    · exact ⟨sm_mono h1 (by omega), by omega, ih h3⟩
theorem snoc_last (l x : T) (c : Int) : drop (app l (cons x c nil)) l.len = cons x c nil := drop_app l _
/-! ### right ones -/
theorem form_sm {p : Option T} {t : T} (h : formA p t = true) : sm 1000000 t := by
  induction t generalizing p with
  | nil => trivial
  | cons e c l ihe ihl =>
    simp only [formA, Bool.and_eq_true, decide_eq_true_eq] at h
    obtain ⟨⟨⟨⟨h1, h2⟩, h3⟩, _⟩, h5⟩ := h
    exact ⟨ihe h3, by omega, ihl h5⟩
/-- Exponents that fall, from below p on. -/
def falls : Option T → T → Prop
  | _, nil => True
  | p, cons e _ l => (∀ q, p = some q → 0 < cmpT q e) ∧ falls (some e) l
theorem form_falls {p : Option T} {t : T} (h : formA p t = true) : falls p t := by
  induction t generalizing p with
  | nil => trivial
  | cons e c l _ ihl =>
    simp only [formA, Bool.and_eq_true, decide_eq_true_eq] at h
    refine ⟨fun q hq => ?_, ihl h.2⟩
    subst hq
    simpa using h.1.2
theorem cmp_lt_of {a b c : T} (h1 : 0 < cmpT a b) (h2 : cmpT b c = 1 ∨ cmpT b c = 0) : 0 < cmpT a c := by
  rcases h2 with h2 | h2
  · have q1 : cmpT b a < 0 := by rw [cmpT_neg a b]; omega
    have q2 : cmpT c b < 0 := by rw [cmpT_neg b c]; omega
    have := cmpT_trans q2 q1
    rw [cmpT_neg c a]; omega
  · obtain rfl := cmpT_eq.1 h2; exact h1
/-- In falling terms, those ahead of a greater one are greater. -/
theorem goP_pop {a f : T} {d : Int} : ∀ {p : Option T}, falls p a → addL (popT a f) f d = goP a f d nil
  | p, h => by
    induction a generalizing p with
    | nil => rfl
    | cons e c l _ ih =>
      have h2 := h.2
      have key : ∀ {x : T}, falls (some x) l → cmpT x f ≤ 0 → popT l f = nil := by
        intro x hx hxf
        clear ih h h2
        induction l generalizing x with
        | nil => rfl
        | cons y k m _ ihm =>
          have hy := hx.1 x rfl
          have hyf : cmpT y f < 0 := by
            rcases cmpT_range x f with q | q | q
            · have q2 : cmpT y x < 0 := by rw [cmpT_neg x y]; omega
              exact cmpT_trans q2 (by omega)
            · obtain rfl := cmpT_eq.1 q
              rw [cmpT_neg x y]; omega
            · omega
          simp only [popT, ihm hx.2 (by omega), if_pos hyf]
      have ih := ih _ h2
      simp only [popT, goP]
      rcases cmpT_range e f with q | q | q
      · rw [key h2 (by omega)]
        have e1 : ¬ cmpT e f = 1 := by omega
        have e2 : ¬ cmpT e f = 0 := by omega
        simp only [if_neg e1, if_neg e2, if_pos (by omega : cmpT e f < 0)]
        rw [← ih, key h2 (by omega)]
      · rw [key h2 (by omega)]
        have e1 : ¬ cmpT e f = 1 := by omega
        simp only [if_neg e1, if_pos q, if_neg (by omega : ¬ cmpT e f < 0), addL]
      · simp only [if_pos q]
        rw [← ih]
        cases hq : popT l f with
        | nil =>
          simp only [if_neg (by omega : ¬ cmpT e f < 0), addL, if_neg (by omega : ¬ cmpT e f = 0)]
        | cons y k m => simp only [addL]
theorem goP_app {a f : T} {d : Int} {m : T} : goP a f d m = app (goP a f d nil) m := by
  induction a with
  | nil => rfl
  | cons e c l _ ih =>
    simp only [goP]
    split
    · simp only [app, ih]
    · split
      · rfl
      · exact ih
/-- What is less than all ahead of it is only added at the end. -/
theorem splus_end {a x : T} {c : Int} : ∀ {m : T}, falls (some x) m → splus (app a (cons x c nil)) m = app (app a (cons x c nil)) m
  | nil, _ => by simp [splus]
  | cons g k m, h => by
    have h1 := h.1 x rfl
    simp only [splus]
    rw [popT_snoc, if_neg (by omega), addL_snoc, if_neg (by omega)]
    rw [splus_end (a := app a (cons x c nil)) h.2, app_assoc (app a (cons x c nil))]
    rfl
theorem goP_snoc {a f : T} {d : Int} : ∃ l c, goP a f d nil = app l (cons f c nil) := by
  induction a with
  | nil => exact ⟨nil, d, rfl⟩
  | cons e c l _ ih =>
    obtain ⟨l', c', h⟩ := ih
    simp only [goP]
    split
    · exact ⟨cons e c l', c', by rw [h]; rfl⟩
    · split
      · rename_i q; obtain rfl := cmpT_eq.1 q; exact ⟨nil, _, rfl⟩
      · exact ⟨l', c', h⟩
theorem splus_plus {a b : T} (ha : falls none a) (hb : falls none b) : splus a b = plusT a b := by
  cases b with
  | nil => cases a <;> rfl
  | cons f d m =>
    simp only [splus, plusT]
    rw [goP_pop ha, goP_app (m := m)]
    obtain ⟨l, c, h⟩ := goP_snoc (a := a) (f := f) (d := d)
    rw [h]
    exact splus_end hb.2
theorem plusT_sm {B C : Int} {a b : T} (ha : sm B a) (hb : sm C b) (hB : 0 ≤ B ∧ 0 ≤ C ∧ B + C ≤ 1000000000000000) : sm (B + C) (plusT a b) := by
  cases b with
  | nil => exact sm_mono ha (by omega)
  | cons f d m =>
    simp only [plusT]
    have hm : sm (B + C) m := sm_mono hb.2.2 (by omega)
    induction a with
    | nil => exact ⟨sm_mono hb.1 (by omega), by have := hb.2.1; omega, hm⟩
    | cons e c l _ ih =>
      have h1 := ha.2.1
      have h2 := hb.2.1
      simp only [goP]
      split
      · exact ⟨sm_mono ha.1 (by omega), by omega, ih ha.2.2⟩
      · split
        · refine ⟨sm_mono ha.1 (by omega), ?_, hm⟩
          show _ ≤ w (c + d) ∧ w (c + d) ≤ _
          rw [show w (c + d) = c + d from wid (by omega) (by omega)]; omega
        · exact ih ha.2.2
def intT (n : Int) : T := if n = 0 then nil else cons nil n nil
theorem intT_size (n : Int) : (intT n).size ≤ 1 := by unfold intT; split <;> simp [size]
theorem intT_sm {n B : Int} (h : -B ≤ n ∧ n ≤ B) : sm B (intT n) := by
  unfold intT; split
  · trivial
  · exact ⟨trivial, h, trivial⟩
theorem snocRows (l e : T) (c : Int) : l.rows ++ [[D.sl e.rows, D.int .i64 c]] = (app l (cons e c nil)).rows := by rw [rows_app]; rfl
end Go.Proofs.Try

namespace Go.Proofs.Try
open Go Go.AX T
theorem form_loop_all {k : Nat} {rec_ : Rw → Int → Option Bool} {a : T} {depth : Int} (hd : 0 ≤ depth ∧ depth ≤ 6) (hk : a.size ≤ k) (hc : a.size ≤ cap)
    (hr : ∀ e : T, e.size < a.size → rec_ e.rows (depth - 1) = some (decide ((dp e : Int) ≤ depth - 1) && formA none e)) :
    ∀ (t : T) (i : Nat), drop a i = t → i ≤ a.len → (∀ q, ahead a i = some q → calm q) → spec_odForm_l0 k rec_ a.rows depth spec_odForm_p3 t.rows i = some (decide ((dp t : Int) ≤ depth) && formA (ahead a i) t)
  | nil, i, hdr, hi, _ => by
    have : decide ((dp nil : Int) ≤ depth) = true := decide_eq_true (by simp only [dp]; omega)
    rw [this]; rfl
  | cons e c l, i, hdr, hi, hcalm => by
    have hs := drop_cons_size hdr
    simp only [rows, spec_odForm_l0, cell_T, l1In_eq, Option.bind_some]
    by_cases h2 : (decide (1 ≤ c) && decide (c ≤ 1000000)) = true
    · rw [if_pos h2, wid (n := depth - 1) (by omega) (by omega), hr e (by omega), Option.bind_some]
      by_cases h3 : (decide ((dp e : Int) ≤ depth - 1) && formA none e) = true
      · rw [if_pos h3]
        simp only [Bool.and_eq_true, decide_eq_true_eq] at h3
        have hce := form_calm h3.2
        have go : ∀ (hp : (match ahead a i with | none => true | some q => decide (0 < cmpT q e)) = true), spec_odForm_l0 k rec_ a.rows depth spec_odForm_p3 l.rows (i + 1) = some (decide ((dp (cons e c l) : Int) ≤ depth) && formA (ahead a i) (cons e c l)) := by
          intro hp
          rw [form_loop_all hd hk hc hr l (i + 1) (drop_succ hdr) (drop_lt hdr) (by rw [ahead_succ hdr]; intro q hq; cases hq; exact hce), ahead_succ hdr]
          have e1 : decide ((dp (cons e c l) : Int) ≤ depth) = decide ((dp l : Int) ≤ depth) := by simp only [dp]; congr 1; apply propext; omega
          have h6 : formA (ahead a i) (cons e c l) = formA (some e) l := by
            simp only [formA, h2, h3.2, Bool.true_and]
            cases hq : ahead a i with
            | none => simp
            | some q => rw [hq] at hp; simp only at hp; simp [hp]
          rw [e1, h6]
        by_cases h4 : (0 : Int) < (i : Int)
        · obtain ⟨q, qc, ql, hq, ha'⟩ := ahead_some (t := a) (i := i) (by omega) hi
          have hqs := drop_cons_size hq
          have hcq := hcalm q ha'
          rw [if_pos h4, wid (n := (i : Int) - 1) (by omega) (by have := a.len_size; have : cap = 1099511627776 := rfl; omega), row_T (n := i - 1) (by omega) hq, odCmp_eq k q e hcq hce (by omega) (by omega), Option.bind_some]
          by_cases h5 : cmpT q e ≤ 0
          · rw [if_pos h5]
            have : decide (0 < cmpT q e) = false := by simpa using h5
            simp [formA, ha', this]
          · rw [if_neg h5]
            exact go (by rw [ha']; simp; omega)
        · rw [if_neg h4]
          have : i = 0 := by omega
          subst this
          exact go rfl
      · rw [if_neg h3]
        have : (decide ((dp (cons e c l) : Int) ≤ depth) && formA (ahead a i) (cons e c l)) = false := by
          refine Bool.eq_false_iff.2 fun hx => h3 ?_
          rw [Bool.and_eq_true, decide_eq_true_eq] at hx ⊢
          obtain ⟨x1, x2⟩ := hx
          simp only [dp] at x1
          simp only [formA, Bool.and_eq_true] at x2
          exact ⟨by omega, x2.1.1.2⟩
        rw [this]
    · rw [if_neg h2]
      have : formA (ahead a i) (cons e c l) = false := by
        simp only [formA]
        cases hx : (decide (1 ≤ c) && decide (c ≤ 1000000)) with
        | true => exact absurd hx h2
        | false => simp
      rw [this, Bool.and_false]
theorem form_all : ∀ (k : Nat) (a : T) (depth : Int), a.size < k → a.size ≤ cap → -1 ≤ depth → depth ≤ 6 → spec_odForm k a.rows depth = some (decide ((dp a : Int) ≤ depth) && formA none a)
  | 0, _, _, h, _, _, _ => absurd h (Nat.not_lt_zero _)
  | k + 1, a, depth, h, hc, d0, d6 => by
    have hl := a.len_size
    simp only [spec_odForm, spec_odForm_b]
    by_cases h1 : depth < 0
    · rw [if_pos h1]
      have : decide ((dp a : Int) ≤ depth) = false := by simp; omega
      rw [this, Bool.false_and]
    · rw [if_neg h1, if_pos (by rw [rows_len]; omega), form_loop_all (a := a) (by omega) (by omega) hc (fun e he => form_all k e (depth - 1) (by omega) (by omega) (by omega) (by omega)) a 0 (drop_zero a) (by omega) (by intro q hq; cases hq)]
      rfl
theorem odGood_all (k : Nat) (a : T) (h : a.size < k) (hc : a.size ≤ cap) : spec_odGood k a.rows = some (ordP a) := by
  unfold spec_odGood
  obtain ⟨r, er, q1, q2, q3, q4⟩ := left_eq k a 6 60 h hc (by omega) (by omega) (by omega) (by omega)
  rw [er, Option.bind_some]
  by_cases h1 : 1 + nodesL a ≤ 60 ∧ dp a ≤ 6
  · have := q3 ⟨by omega, by omega⟩
    rw [if_pos (by omega), form_all k a 6 h hc (by omega) (by omega), Option.bind_some]
    have h2 : decide ((dp a : Int) ≤ 6) = true := by simp; omega
    simp only [ordP, h2, h1.1, h1.2, decide_true, Bool.true_and]
    cases formA none a <;> rfl
  · have := q4 (by omega)
    rw [if_neg (by omega)]
    have : ordP a = false := by
      cases hx : ordP a with
      | false => rfl
      | true => simp only [ordP, Bool.and_eq_true, decide_eq_true_eq] at hx; exact absurd hx.1 h1
    rw [this]
end Go.Proofs.Try

namespace Go.Proofs.Try
open Go Go.AX T
theorem told_eq (k : Nat) (a : T) (h : a.size < k) (hc : a.size ≤ cap) : impl_told k a.rows = some ((toldT a).1.rows, (toldT a).2) := by
  unfold impl_told toldT
  rw [IsOrdinal_eq k a h hc, Option.bind_some]
  cases ordP a with
  | false => rfl
  | true => rw [if_pos rfl, clone_eq k a h hc]; rfl
end Go.Proofs.Try

namespace Go.Proofs.Try
open Go Go.AX T
theorem odIf_eq (k : Nat) (a : T) (h : a.size < k) (hc : a.size ≤ cap) (ha : calm a) : spec_odIf k a.rows = some ((toldT a).1.rows, (toldT a).2) := by
  unfold spec_odIf toldT
  rw [odGood_eq k a h hc ha, Option.bind_some]
  cases ordP a with
  | false => rfl
  | true => rw [if_pos rfl, own_eq k a h hc]; rfl
theorem odIf_all (k : Nat) (a : T) (h : a.size < k) (hc : a.size ≤ cap) : spec_odIf k a.rows = some ((toldT a).1.rows, (toldT a).2) := by
  unfold spec_odIf toldT
  rw [odGood_all k a h hc]
  simp only [Option.bind_some]
  cases ordP a with
  | false => rfl
  | true => rw [if_pos rfl, own_eq k a h hc]; rfl
end Go.Proofs.Try

namespace Go.Proofs.Try
open Go Go.AX T
/-! ### what is left -/
def lessT : T → T → T
  | a, nil => a
  | nil, cons _ _ _ => nil
  | cons e c l, cons f d m => if cmpT e f = 0 then (if c = d then lessT l m else cons e (w (c - d)) l) else cons e c l
theorem lessT_nil (a : T) : lessT a nil = a := by cases a <;> rfl
theorem lessT_size (a b : T) : (lessT a b).size ≤ a.size := by
  induction a generalizing b with
  | nil => cases b <;> simp [lessT]
  | cons e c l _ ih =>
    cases b with
    | nil => simp [lessT]
    | cons f d m =>
      simp only [lessT]
      split
      · split
        · have := ih m; simp only [size]; omega
        · simp [size]
      · simp
theorem rows_cons_drop {a : T} {i : Nat} {e : T} {c : Int} {l : T} (h : drop a i = cons e c l) : a.rows.drop (i + 1) = l.rows := by rw [← rows_drop, drop_succ h]
theorem lessT_calm {a b : T} (ha : formA none a = true) (hb : formA none b = true) : calm (lessT a b) := by
  induction a generalizing b with
  | nil => cases b <;> trivial
  | cons e c l _ ih =>
    cases b with
    | nil => rw [lessT_nil]; exact form_calm ha
    | cons f d m =>
      have h1 := form_calm ha
      have h2 := form_calm hb
      simp only [formA, Bool.and_eq_true, decide_eq_true_eq] at ha hb
      simp only [lessT]
      split
      · split
        · exact ih (form_any ha.2) (form_any hb.2)
        · refine ⟨h1.1, ?_, h1.2.2⟩
          show _ ≤ w (c - d) ∧ w (c - d) ≤ _
          rw [show w (c - d) = c - d from wid (by omega) (by omega)]; omega
      · exact h1
end Go.Proofs.Try

namespace Go.Proofs.Try
open Go Go.AX T
theorem gt_of {e f : T} (h : ¬ cmpT e f = 1) (h0 : ¬ cmpT e f = 0) : cmpT e f < 0 := by
  rcases cmpT_range e f with q | q | q <;> omega
theorem gt_trans {e f g : T} (h1 : cmpT e f = 1) (h2 : cmpT f g = 1) : cmpT e g = 1 := by
  have q1 : cmpT f e < 0 := by rw [cmpT_neg e f]; omega
  have q2 : cmpT g f < 0 := by rw [cmpT_neg f g]; omega
  have := cmpT_trans q2 q1
  have q3 := cmpT_neg g e
  rcases cmpT_range e g with q | q | q <;> omega
theorem goP_low {m f g n : T} {h : Int} (hf : falls (some f) m) (hfg : cmpT f g < 0) : goP m g h n = cons g h n := by
  induction m generalizing f with
  | nil => rfl
  | cons x c l _ ih =>
    have h1 := hf.1 f rfl
    have h2 : cmpT x g < 0 := by
      have : cmpT x f < 0 := by rw [cmpT_neg f x]; omega
      exact cmpT_trans this hfg
    simp only [goP]
    rw [if_neg (by omega), if_neg (by omega)]
    exact ih hf.2 h2
theorem goP_A {a f g m n : T} {d h : Int} (hfg : cmpT f g = 1) : goP (goP a f d m) g h n = goP a f d (goP m g h n) := by
  induction a with
  | nil => simp only [goP, if_pos hfg]
  | cons e c l _ ih =>
    simp only [goP]
    split
    · rename_i q; simp only [goP]; rw [if_pos (gt_trans q hfg), ih]
    · split
      · rename_i q; obtain rfl := cmpT_eq.1 q; simp only [goP]; rw [if_pos hfg]
      · exact ih
theorem goP_BX {a f m n : T} {d h : Int} (ha : sm 1000000000000000 a) (hd : -1000000000000000 ≤ d ∧ d ≤ 1000000000000000) (hh : -1000000000000000 ≤ h ∧ h ≤ 1000000000000000) : goP (goP a f d m) f h n = goP a f (w (d + h)) n := by
  have r : cmpT f f = 0 := cmpT_refl f
  induction a with
  | nil => simp only [goP]; rw [if_neg (by omega), if_pos r]
  | cons e c l _ ih =>
    simp only [goP]
    split
    · rename_i q; simp only [goP]; rw [if_pos q, ih ha.2.2]
    · rename_i q0
      split
      · rename_i q; simp only [goP]; rw [if_neg q0, if_pos q]
        have hc := ha.2.1
        have e1 : w (c + d) = c + d := wid (by omega) (by omega)
        have e2 : w (d + h) = d + h := wid (by omega) (by omega)
        rw [e1, e2, Int.add_assoc]
      · exact ih ha.2.2
theorem goP_C {a f g m n : T} {d h : Int} : ∀ {p : Option T}, falls p a → falls (some f) m → cmpT f g < 0 → goP (goP a f d m) g h n = goP a g h n := by
  induction a with
  | nil =>
    intro p _ hm hfg
    simp only [goP]
    rw [if_neg (by omega), if_neg (by omega), goP_low hm hfg]
  | cons e c l _ ih =>
    intro p ha hm hfg
    have ih := ih ha.2 hm hfg
    by_cases q : cmpT e f = 1
    · simp only [goP, if_pos q]
      rw [ih]
    · by_cases q0 : cmpT e f = 0
      · obtain rfl := cmpT_eq.1 q0
        simp only [goP, if_neg q, if_pos q0]
        rw [if_neg (by omega), if_neg (by omega), if_neg (by omega), if_neg (by omega), goP_low hm hfg, goP_low ha.2 hfg]
      · have lt := gt_of q q0
        have lt2 := cmpT_trans lt hfg
        simp only [goP, if_neg q, if_neg q0]
        rw [if_neg (by omega), if_neg (by omega)]
        exact ih
theorem plusT_assocX {a b c : T} (sa : sm 1000000000000000 a) (sb : sm 1000000000000000 b) (sc : sm 1000000000000000 c) (fa : falls none a) (fb : falls none b) : plusT a (plusT b c) = plusT (plusT a b) c := by
  cases c with
  | nil => rfl
  | cons g h n =>
    cases b with
    | nil => rfl
    | cons f d m =>
      show plusT a (goP (cons f d m) g h n) = goP (goP a f d m) g h n
      by_cases q : cmpT f g = 1
      · rw [goP_A q]; simp only [goP, if_pos q]; rfl
      · by_cases q0 : cmpT f g = 0
        · obtain rfl := cmpT_eq.1 q0
          rw [goP_BX sa sb.2.1 sc.2.1]
          simp only [goP, if_neg q, if_pos q0]; rfl
        · have lt := gt_of q q0
          rw [goP_C fa fb.2 lt]
          simp only [goP, if_neg q, if_neg q0]
          rw [goP_low fb.2 lt]
          rfl
theorem plusT_assocB {a b c : T} (sa : sm 1000000000 a) (sb : sm 1000000000 b) (sc : sm 1000000000 c) (fa : falls none a) (fb : falls none b) : plusT a (plusT b c) = plusT (plusT a b) c :=
  plusT_assocX (sm_mono sa (by omega)) (sm_mono sb (by omega)) (sm_mono sc (by omega)) fa fb
theorem cmpT_cons_eq {e : T} {c : Int} {x y : T} : cmpT (cons e c x) (cons e c y) = cmpT x y := by
  simp only [cmpT, cmpT_refl, cmpI_refl, if_true]
theorem lessT_self {a : T} : lessT a a = nil := by
  induction a with
  | nil => rfl
  | cons e c l _ ih => simp only [lessT, cmpT_refl, if_true, ih]
theorem sub_goPB {a f m : T} {d : Int} (hd : 1 ≤ d ∧ d ≤ 1000000000) : ∀ {p : Option T}, falls p a → sm 1000000000 a → lessT (goP a f d m) a = cons f d m ∧ 0 ≤ cmpT (goP a f d m) a := by
  induction a with
  | nil => intro p _ _; exact ⟨rfl, by simp [goP, cmpT]⟩
  | cons e c l _ ih =>
    intro p hf hs
    have ih := ih hf.2 hs.2.2
    have hc := hs.2.1
    by_cases q : cmpT e f = 1
    · simp only [goP, if_pos q, lessT, cmpT_refl, if_true, cmpT_cons_eq]
      exact ih
    · by_cases q0 : cmpT e f = 0
      · obtain rfl := cmpT_eq.1 q0
        have e1 : w (c + d) = c + d := wid (by omega) (by omega)
        have e2 : w (c + d - c) = d := by rw [show w (c + d - c) = c + d - c from wid (by omega) (by omega)]; omega
        simp only [goP, if_neg q, if_pos q0, e1]
        refine ⟨?_, ?_⟩
        · simp only [lessT, cmpT_refl, if_true]
          rw [if_neg (by omega), e2]
        · have e3 : cmpI (c + d) c = 1 := by unfold cmpI; rw [if_neg (by omega), if_pos (by omega)]
          simp only [cmpT, cmpT_refl, e3]
          simp
      · have lt := gt_of q q0
        have e1 : cmpT f e = 1 := by rw [cmpT_neg e f]; rcases cmpT_range e f with z | z | z <;> omega
        have e2 : goP (cons e c l) f d m = cons f d m := by
          simp only [goP, if_neg q, if_neg q0]; exact goP_low hf.2 lt
        rw [e2]
        refine ⟨?_, ?_⟩
        · simp only [lessT]; rw [if_neg (by omega)]
        · simp only [cmpT, e1]; simp
theorem sub_plusB {a b : T} (fa : falls none a) (sa : sm 1000000000 a) (sb : sm 1000000000 b) (pb : ∀ f d m, b = cons f d m → 1 ≤ d) : lessT (plusT a b) a = b ∧ 0 ≤ cmpT (plusT a b) a := by
  cases b with
  | nil => exact ⟨lessT_self, by show 0 ≤ cmpT a a; rw [cmpT_refl]; omega⟩
  | cons f d m => exact sub_goPB ⟨pb f d m rfl, sb.2.1.2⟩ fa sa
end Go.Proofs.Try

namespace Go.Proofs.Try
open Go Go.AX T
theorem falls_weak {q e l : T} {p : Option T} (h : falls (some e) l) (hp : ∀ q, p = some q → 0 < cmpT q e) : falls p l := by
  cases l with
  | nil => trivial
  | cons x c m =>
    refine ⟨fun r hr => ?_, h.2⟩
    have h1 := hp r hr
    have h2 := h.1 e rfl
    have := cmpT_range e x
    exact cmp_lt_of h1 (by omega)
theorem falls_goP {a f m : T} {d : Int} {p : Option T} (ha : falls p a) (hp : ∀ q, p = some q → 0 < cmpT q f) (hm : falls (some f) m) : falls p (goP a f d m) := by
  induction a generalizing p with
  | nil => exact ⟨hp, hm⟩
  | cons e c l _ ih =>
    simp only [goP]
    split
    · rename_i q
      exact ⟨ha.1, ih ha.2 fun r hr => by cases hr; omega⟩
    · split
      · rename_i q; obtain rfl := cmpT_eq.1 q; exact ⟨ha.1, hm⟩
      · exact ih (falls_weak (q := e) ha.2 ha.1) hp
theorem falls_plusT {a b : T} (ha : falls none a) (hb : falls none b) : falls none (plusT a b) := by
  cases b with
  | nil => exact ha
  | cons f d m => exact falls_goP ha (fun q hq => by cases hq) hb.2
/-- Coefficients above nothing. -/
def posT : T → Prop
  | .nil => True
  | .cons _ c l => 1 ≤ c ∧ posT l
/-- Terms as those of a right ordinal, but for its nodes. -/
def okT (B : Int) (Z : Nat) (n : T) : Prop := falls none n ∧ posT n ∧ sm B n ∧ n.size ≤ Z
theorem ordP_okT {t : T} (h : ordP t = true) : okT 1000000 30 t := by
  refine ⟨form_falls (ordP_form h), ?_, form_sm (ordP_form h), ordP_size h⟩
  have key : ∀ (p : Option T) (t : T), formA p t = true → posT t := by
    intro p t
    induction t generalizing p with
    | nil => intro _; trivial
    | cons e c l _ ih =>
      intro h
      simp only [formA, Bool.and_eq_true, decide_eq_true_eq] at h
      exact ⟨h.1.1.1.1, ih _ h.2⟩
  exact key _ _ (ordP_form h)
theorem okT_calm {B : Int} {Z : Nat} {n : T} (h : okT B Z n) (hB : B ≤ 1000000000000000) : calm n := sm_calm h.2.2.1 hB
theorem okT_mono {B C : Int} {Z Y : Nat} {n : T} (h : okT B Z n) (hB : B ≤ C) (hZ : Z ≤ Y) : okT C Y n := ⟨h.1, h.2.1, sm_mono h.2.2.1 hB, by have := h.2.2.2; omega⟩
theorem less_parts {B : Int} (hB : B ≤ 1000000000000000) {a : T} : ∀ {b : T} {p : Option T}, falls p a → posT a → posT b → sm B a → 0 ≤ cmpT a b → falls none (lessT a b) ∧ posT (lessT a b) ∧ sm B (lessT a b) := by
  induction a with
  | nil =>
    intro b p _ _ _ _ _
    have : lessT .nil b = .nil := by cases b <;> rfl
    rw [this]
    exact ⟨trivial, trivial, trivial⟩
  | cons e c l _ ih =>
    intro b p fa pa pb sa h
    have f0 : ∀ x, falls none (.cons e x l) := fun x => ⟨fun _ h => (by cases h), fa.2⟩
    cases b with
    | nil => exact ⟨f0 c, pa, sa⟩
    | cons f d m =>
      simp only [lessT]
      simp only [cmpT] at h
      split
      · rename_i q1
        rw [if_pos q1] at h
        split
        · rename_i q2
          rw [if_pos (cmpI_eq.2 q2)] at h
          exact ih (p := some e) fa.2 pa.2 pb.2 sa.2.2 h
        · rename_i q2
          rw [if_neg (fun q => q2 (cmpI_eq.1 q))] at h
          have hcd : d < c := by
            unfold cmpI at h
            split at h
            · omega
            · omega
          have b1 := sa.2.1
          have b2 := pb.1
          have e1 : w (c - d) = c - d := wid (by omega) (by omega)
          rw [e1]
          exact ⟨f0 _, ⟨by omega, pa.2⟩, sa.1, by omega, sa.2.2⟩
      · exact ⟨f0 c, pa, sa⟩
theorem less_ok {B C : Int} {Z Y : Nat} {a b : T} (hB : B ≤ 1000000000000000) (ha : okT B Z a) (hb : okT C Y b) (h : 0 ≤ cmpT a b) : okT B Z (lessT a b) := by
  obtain ⟨h1, h2, h3⟩ := less_parts hB ha.1 ha.2.1 hb.2.1 ha.2.2.1 h
  have := lessT_size a b
  exact ⟨h1, h2, h3, by have := ha.2.2.2; omega⟩
theorem lessT_same (a : T) : lessT a a = .nil := by
  induction a with
  | nil => rfl
  | cons e c l _ ih => simp [lessT, cmpT_refl, ih]
theorem plusT_nilL (x : T) : plusT .nil x = x := by cases x <;> rfl
theorem posT_goP {a f m : T} {d : Int} (sa : sm 1000000000 a) (pa : posT a) (hd : 1 ≤ d ∧ d ≤ 1000000000) (pm : posT m) : posT (goP a f d m) := by
  induction a with
  | nil => exact ⟨hd.1, pm⟩
  | cons e c l _ ih =>
    have := ih sa.2.2 pa.2
    simp only [goP]
    split
    · exact ⟨pa.1, this⟩
    · split
      · have b1 := sa.2.1
        have b2 := pa.1
        refine ⟨?_, pm⟩
        rw [show w (c + d) = c + d from wid (by omega) (by omega)]; omega
      · exact this
theorem posT_plus {a b : T} (sa : sm 1000000000 a) (sb : sm 1000000000 b) (pa : posT a) (pb : posT b) : posT (plusT a b) := by
  cases b with
  | nil => exact pa
  | cons f d m => exact posT_goP sa pa ⟨pb.1, sb.2.1.2⟩ pb.2
/-- Exponents that are so. -/
def exOk (B : Int) : T → Prop
  | .nil => True
  | .cons e _ l => (falls none e ∧ posT e ∧ sm B e) ∧ exOk B l
theorem form_posT {p : Option T} {t : T} (h : formA p t = true) : posT t := by
  induction t generalizing p with
  | nil => trivial
  | cons e c l _ ih =>
    simp only [formA, Bool.and_eq_true, decide_eq_true_eq] at h
    exact ⟨h.1.1.1.1, ih h.2⟩
theorem form_exOk {p : Option T} {t : T} (h : formA p t = true) : exOk 1000000 t := by
  induction t generalizing p with
  | nil => trivial
  | cons e c l _ ih =>
    simp only [formA, Bool.and_eq_true, decide_eq_true_eq] at h
    exact ⟨⟨form_falls h.1.1.2, form_posT h.1.1.2, form_sm h.1.1.2⟩, ih h.2⟩
theorem exOk_mono {B C : Int} {t : T} (h : exOk B t) (hB : B ≤ C) : exOk C t := by
  induction t with
  | nil => trivial
  | cons e c l _ ih => exact ⟨⟨h.1.1, h.1.2.1, sm_mono h.1.2.2 hB⟩, ih h.2⟩
theorem exOk_app {B : Int} {a b : T} : exOk B (app a b) ↔ exOk B a ∧ exOk B b := by
  induction a with
  | nil => simp [app, exOk]
  | cons e c l _ ih => simp only [app, exOk, ih, and_assoc]
theorem exOk_goP {B : Int} {a f m : T} {d : Int} (ha : exOk B a) (hf : falls none f ∧ posT f ∧ sm B f) (hm : exOk B m) : exOk B (goP a f d m) := by
  induction a with
  | nil => exact ⟨hf, hm⟩
  | cons e c l _ ih =>
    simp only [goP]
    split
    · exact ⟨ha.1, ih ha.2⟩
    · split
      · exact ⟨ha.1, hm⟩
      · exact ih ha.2
theorem exOk_plus {B : Int} {a b : T} (ha : exOk B a) (hb : exOk B b) : exOk B (plusT a b) := by
  cases b with
  | nil => exact ha
  | cons f d m => exact exOk_goP ha hb.1 hb.2
/-- What is added on the right decides. -/
theorem plus_lt {a g n : T} {h : Int} {p : Option T} (fa : falls p a) (sa : sm 1000000000 a) (hh : 1 ≤ h ∧ h ≤ 1000000000) : cmpT (goP a g h n) a = 1 := by
  obtain ⟨k1, k2⟩ := sub_goPB (f := g) (m := n) hh fa sa
  rcases cmpT_range (goP a g h n) a with q | q | q
  · omega
  · rw [cmpT_eq.1 q, lessT_same] at k1; cases k1
  · exact q
theorem plus_mono {a : T} : ∀ {p : Option T} {f g m n : T} {d h : Int}, falls p a → sm 1000000000 a → (1 ≤ d ∧ d ≤ 1000000000) → (1 ≤ h ∧ h ≤ 1000000000) → cmpT (goP a f d m) (goP a g h n) = cmpT (cons f d m) (cons g h n) := by
  induction a with
  | nil => intros; rfl
  | cons e c l _ ih =>
    intro p f g m n d h fa sa hd hh
    have b1 := sa.2.1
    have wd : w (c + d) = c + d := wid (by omega) (by omega)
    have wh : w (c + h) = c + h := wid (by omega) (by omega)
    have n1 := cmpT_neg e f
    have n2 := cmpT_neg e g
    have n3 := cmpT_neg f g
    have r3 := cmpT_range f g
    have same : ∀ x y : T, cmpT (cons e c x) (cons e c y) = cmpT x y := fun x y => by simp [cmpT, cmpT_refl, cmpI_refl]
    have cI1 : cmpI c (c + h) = -1 := by unfold cmpI; rw [if_pos (by omega)]
    have cI2 : cmpI (c + d) c = 1 := by unfold cmpI; rw [if_neg (by omega), if_pos (by omega)]
    have cI3 : cmpI (c + d) (c + h) = cmpI d h := by
      unfold cmpI
      by_cases q1 : d < h
      · rw [if_pos (by omega), if_pos q1]
      · by_cases q2 : h < d
        · rw [if_neg (by omega), if_pos (by omega), if_neg q1, if_pos q2]
        · rw [if_neg (by omega), if_neg (by omega), if_neg q1, if_neg q2]
    rcases cmpT_range e f with rf | rf | rf <;> rcases cmpT_range e g with rg | rg | rg
    · -- both are greater
      have z1 : goP (cons e c l) f d m = cons f d m := by simp only [goP]; rw [if_neg (by omega), if_neg (by omega)]; exact goP_low fa.2 (by omega)
      have z2 : goP (cons e c l) g h n = cons g h n := by simp only [goP]; rw [if_neg (by omega), if_neg (by omega)]; exact goP_low fa.2 (by omega)
      rw [z1, z2]
    · have z1 : goP (cons e c l) f d m = cons f d m := by simp only [goP]; rw [if_neg (by omega), if_neg (by omega)]; exact goP_low fa.2 (by omega)
      obtain rfl := cmpT_eq.1 rg
      have z2 : goP (cons e c l) e h n = cons e (c + h) n := by simp only [goP]; rw [if_neg (by omega), if_pos rg, wh]
      rw [z1, z2]
      simp only [cmpT]
      rw [if_neg (by omega), if_neg (by omega)]
    · have z1 : goP (cons e c l) f d m = cons f d m := by simp only [goP]; rw [if_neg (by omega), if_neg (by omega)]; exact goP_low fa.2 (by omega)
      have z2 : goP (cons e c l) g h n = cons e c (goP l g h n) := by simp only [goP]; rw [if_pos rg]
      have fg : cmpT f g = 1 := gt_trans (e := f) (f := e) (by omega) rg
      rw [z1, z2]
      simp only [cmpT]
      rw [if_neg (by omega), if_neg (by omega)]; omega
    · obtain rfl := cmpT_eq.1 rf
      have z1 : goP (cons e c l) e d m = cons e (c + d) m := by simp only [goP]; rw [if_neg (by omega), if_pos rf, wd]
      have z2 : goP (cons e c l) g h n = cons g h n := by simp only [goP]; rw [if_neg (by omega), if_neg (by omega)]; exact goP_low fa.2 (by omega)
      rw [z1, z2]
      simp only [cmpT]
      rw [if_neg (by omega), if_neg (by omega)]
    · obtain rfl := cmpT_eq.1 rf
      obtain rfl := cmpT_eq.1 rg
      have z1 : ∀ (x : Int) (y : T), w (c + x) = c + x → goP (cons e c l) e x y = cons e (c + x) y := fun x y hx => by simp only [goP]; rw [if_neg (by omega), if_pos rf, hx]
      rw [z1 d m wd, z1 h n wh]
      simp only [cmpT, cI3]
    · obtain rfl := cmpT_eq.1 rf
      have z1 : goP (cons e c l) e d m = cons e (c + d) m := by simp only [goP]; rw [if_neg (by omega), if_pos rf, wd]
      have z2 : goP (cons e c l) g h n = cons e c (goP l g h n) := by simp only [goP]; rw [if_pos rg]
      rw [z1, z2]
      simp only [cmpT, cI2, cmpT_refl]
      rw [if_neg (show ¬ cmpT e g = 0 by omega)]
      simp; omega
    · have z1 : goP (cons e c l) f d m = cons e c (goP l f d m) := by simp only [goP]; rw [if_pos rf]
      have z2 : goP (cons e c l) g h n = cons g h n := by simp only [goP]; rw [if_neg (by omega), if_neg (by omega)]; exact goP_low fa.2 (by omega)
      have fg : cmpT g f = 1 := gt_trans (e := g) (f := e) (by omega) rf
      rw [z1, z2]
      simp only [cmpT]
      rw [if_neg (by omega), if_neg (by omega)]; omega
    · obtain rfl := cmpT_eq.1 rg
      have z1 : goP (cons e c l) f d m = cons e c (goP l f d m) := by simp only [goP]; rw [if_pos rf]
      have z2 : goP (cons e c l) e h n = cons e (c + h) n := by simp only [goP]; rw [if_neg (by omega), if_pos rg, wh]
      rw [z1, z2]
      simp only [cmpT, cI1, cmpT_refl]
      rw [if_neg (show ¬ cmpT f e = 0 by omega)]
      simp; omega
    · have z1 : goP (cons e c l) f d m = cons e c (goP l f d m) := by simp only [goP]; rw [if_pos rf]
      have z2 : goP (cons e c l) g h n = cons e c (goP l g h n) := by simp only [goP]; rw [if_pos rg]
      rw [z1, z2, same]
      exact ih fa.2 sa.2.2 hd hh
/-- A sum is monotone in what is added on the right. -/
theorem plusT_cmp {a x y : T} (fa : falls none a) (sa : sm 1000000000 a) (px : posT x) (py : posT y) (sx : sm 1000000000 x) (sy : sm 1000000000 y) : cmpT (plusT a x) (plusT a y) = cmpT x y := by
  cases x with
  | nil =>
    cases y with
    | nil => exact cmpT_refl _
    | cons g h n =>
      have := plus_lt (g := g) (n := n) fa sa ⟨py.1, sy.2.1.2⟩
      show cmpT a (goP a g h n) = _
      rw [cmpT_neg (goP a g h n) a, this]; rfl
  | cons f d m =>
    cases y with
    | nil =>
      have := plus_lt (g := f) (n := m) fa sa ⟨px.1, sx.2.1.2⟩
      show cmpT (goP a f d m) a = _
      rw [this]; rfl
    | cons g h n => exact plus_mono fa sa ⟨px.1, sx.2.1.2⟩ ⟨py.1, sy.2.1.2⟩
end Go.Proofs.Try

namespace Go.Proofs.Try
open Go Go.AX T
/-- A product with a right ordinal w^a1 c1 + a', term by term. -/
def tmG (a1 : T) (c1 : Int) (a' : T) : T → T
  | nil => nil
  | cons nil d m => app (cons a1 (w (c1 * d)) a') (tmG a1 c1 a' m)
  | cons (cons x y z) d m => cons (plusT a1 (cons x y z)) d (tmG a1 c1 a' m)
def timesT : T → T → T
  | nil, _ => nil
  | cons a1 c1 a', b => tmG a1 c1 a' b
theorem tmG_size (a1 : T) (c1 : Int) (a' : T) : ∀ b : T, (tmG a1 c1 a' b).size ≤ b.size * (a1.size + a'.size + 2)
  | nil => by simp [tmG, size]
  | cons nil d m => by
    have ih := tmG_size a1 c1 a' m
    simp only [tmG, size_app, size]
    rw [show 0 + m.size + 1 = m.size + 1 by omega, Nat.add_mul, Nat.one_mul]
    omega
  | cons (cons x y z) d m => by
    have ih := tmG_size a1 c1 a' m
    have h1 := plusT_size a1 (cons x y z)
    simp only [tmG]
    rw [show (cons (plusT a1 (cons x y z)) d (tmG a1 c1 a' m)).size = (plusT a1 (cons x y z)).size + (tmG a1 c1 a' m).size + 1 from rfl, show (cons (cons x y z) d m).size = (cons x y z).size + m.size + 1 from rfl, Nat.add_mul, Nat.add_mul, Nat.one_mul]
    have : (cons x y z).size ≤ (cons x y z).size * (a1.size + a'.size + 2) := Nat.le_mul_of_pos_right _ (by omega)
    omega
theorem posT_app {a b : T} : posT (app a b) ↔ posT a ∧ posT b := by
  induction a with
  | nil => simp [app, posT]
  | cons e c l _ ih => simp only [app, posT, ih, and_assoc]
theorem mul_in {a b B C : Int} (ha : 0 ≤ a ∧ a ≤ B) (hb : 0 ≤ b ∧ b ≤ C) : 0 ≤ a * b ∧ a * b ≤ B * C :=
  ⟨Int.mul_nonneg ha.1 hb.1, Int.mul_le_mul ha.2 hb.2 hb.1 (by omega)⟩
theorem tmG_sm {B C D : Int} {a1 a' : T} {c1 : Int} (s1 : sm B a1) (hc : 0 ≤ c1 ∧ c1 ≤ B) (s' : sm B a') (hB : 0 ≤ B ∧ 0 ≤ C ∧ B + C ≤ D ∧ B * C ≤ D ∧ D ≤ 1000000000000000) : ∀ b : T, sm C b → posT b → sm D (tmG a1 c1 a' b)
  | nil, _, _ => trivial
  | cons nil d m, hs, hp => by
    have ih := tmG_sm s1 hc s' hB m hs.2.2 hp.2
    have hm := mul_in hc ⟨by have := hp.1; omega, hs.2.1.2⟩
    simp only [tmG, sm_app]
    refine ⟨⟨sm_mono s1 (by omega), ?_, sm_mono s' (by omega)⟩, ih⟩
    rw [show w (c1 * d) = c1 * d from wid (by omega) (by omega)]; omega
  | cons (cons x y z) d m, hs, hp => by
    have ih := tmG_sm s1 hc s' hB m hs.2.2 hp.2
    have h1 := hs.2.1
    exact ⟨sm_mono (plusT_sm s1 hs.1 ⟨by omega, by omega, by omega⟩) (by omega), ⟨by omega, by omega⟩, ih⟩
theorem tmG_pos {B C : Int} {a1 a' : T} {c1 : Int} (hc : 1 ≤ c1 ∧ c1 ≤ B) (p' : posT a') (hB : B * C ≤ 1000000000000000) : ∀ b : T, sm C b → posT b → posT (tmG a1 c1 a' b)
  | nil, _, _ => trivial
  | cons nil d m, hs, hp => by
    have ih := tmG_pos (a1 := a1) hc p' hB m hs.2.2 hp.2
    have hm := mul_in (B := B) ⟨by omega, hc.2⟩ ⟨by have := hp.1; omega, hs.2.1.2⟩
    have h1 : 1 * 1 ≤ c1 * d := Int.mul_le_mul hc.1 hp.1 (by omega) (by omega)
    have e1 : w (c1 * d) = c1 * d := wid (by omega) (by omega)
    simp only [tmG, posT_app]
    exact ⟨⟨by omega, p'⟩, ih⟩
  | cons (cons x y z) d m, hs, hp => ⟨hp.1, tmG_pos hc p' hB m hs.2.2 hp.2⟩
theorem tmG_exOk {B C D : Int} {a1 a' : T} {c1 : Int} (f1 : falls none a1 ∧ posT a1 ∧ sm B a1) (e' : exOk D a') (hB : 0 ≤ B ∧ 0 ≤ C ∧ B ≤ 1000000000 ∧ C ≤ 1000000000 ∧ B + C ≤ D) : ∀ b : T, exOk C b → exOk D (tmG a1 c1 a' b)
  | nil, _ => trivial
  | cons nil d m, hb => by
    have ih := tmG_exOk (c1 := c1) f1 e' hB m hb.2
    simp only [tmG, exOk_app]
    exact ⟨⟨⟨f1.1, f1.2.1, sm_mono f1.2.2 (by omega)⟩, e'⟩, ih⟩
  | cons (cons x y z) d m, hb => by
    have ih := tmG_exOk (c1 := c1) f1 e' hB m hb.2
    have h1 := hb.1
    refine ⟨⟨falls_plusT f1.1 h1.1, posT_plus (sm_mono f1.2.2 (by omega)) (sm_mono h1.2.2 (by omega)) f1.2.1 h1.2.1, ?_⟩, ih⟩
    exact sm_mono (plusT_sm f1.2.2 h1.2.2 ⟨by omega, by omega, by omega⟩) (by omega)
theorem falls_low {m : T} (h : falls (some nil) m) : m = nil := by
  cases m with
  | nil => rfl
  | cons e c l => exfalso; have := h.1 nil rfl; cases e <;> simp [cmpT] at this
theorem tmG_falls {a1 a' : T} {c1 : Int} (f1 : falls none a1) (s1 : sm 1000000000 a1) (fa : falls (some a1) a') : ∀ (b : T) (q : Option T), (∀ r, q = some r → posT r ∧ sm 1000000000 r) → falls q b → exOk 1000000000 b → falls (q.map (plusT a1)) (tmG a1 c1 a' b)
  | nil, _, _, _, _ => trivial
  | cons nil d m, q, hq, hf, he => by
    have hm := falls_low hf.2
    subst hm
    simp only [tmG, T.app_nil]
    refine ⟨fun r hr => ?_, fa⟩
    cases q with
    | none => cases hr
    | some q =>
      have := plusT_cmp (y := nil) f1 s1 (hq q rfl).1 trivial (hq q rfl).2 trivial
      have h0 := hf.1 q rfl
      obtain rfl : plusT a1 q = r := Option.some.inj hr
      rw [show plusT a1 nil = a1 from rfl] at this
      omega
  | cons (cons x y z) d m, q, hq, hf, he => by
    have ih := tmG_falls (c1 := c1) f1 s1 fa m (some (cons x y z)) (fun r hr => by cases hr; exact ⟨he.1.2.1, he.1.2.2⟩) hf.2 he.2
    refine ⟨fun r hr => ?_, ih⟩
    cases q with
    | none => cases hr
    | some q =>
      have := plusT_cmp (y := cons x y z) f1 s1 (hq q rfl).1 he.1.2.1 (hq q rfl).2 he.1.2.2
      have h0 := hf.1 q rfl
      obtain rfl : plusT a1 q = r := Option.some.inj hr
      omega
/-! ### impl's product -/
/-! ### the reference's product -/
/-- What is less than all ahead of it is only added at the end. -/
theorem splus_at {acc p : T} (h : acc = nil ∨ ∃ l y c, acc = app l (cons y c nil) ∧ falls (some y) p) (hp : falls none p) : splus acc p = app acc p := by
  rcases h with rfl | ⟨l, y, c, rfl, h⟩
  · rw [splus_plus (a := nil) trivial hp, plusT_nilL]; rfl
  · exact splus_end h
theorem falls_app1 {p : Option T} {l x : T} (h : falls p (app l x)) : falls p l := by
  induction l generalizing p with
  | nil => trivial
  | cons e c l _ ih => exact ⟨h.1, ih h.2⟩
theorem falls_none {p : Option T} {l : T} (h : falls p l) : falls none l := by
  cases l with
  | nil => trivial
  | cons e c l => exact ⟨fun _ h => (by cases h), h.2⟩
end Go.Proofs.Try

namespace Go.Proofs.Try
open Go Go.AX T
theorem tm_head {a1 a' : T} {c1 : Int} (f : T) (d : Int) (m : T) : ∃ d' m', tmG a1 c1 a' (cons f d m) = cons (plusT a1 f) d' m' := by
  cases f with
  | nil => exact ⟨w (c1 * d), app a' (tmG a1 c1 a' m), rfl⟩
  | cons x y z => exact ⟨d, tmG a1 c1 a' m, rfl⟩
theorem plusT_c (a f : T) (d : Int) (m : T) : plusT a (cons f d m) = goP a f d m := rfl
theorem tm_dist {a1 a' : T} {c1 : Int} (f1 : falls none a1) (s1 : sm 1000000000 a1) (fa : falls (some a1) a') (hc1 : 0 ≤ c1 ∧ c1 ≤ 1000000000) {f : T} {d : Int} {m : T} (fc : falls none (cons f d m)) (sc : sm 1000000000 (cons f d m)) (ec : exOk 1000000000 (cons f d m)) (pc : posT (cons f d m)) :
    ∀ (b : T) (p : Option T), falls p b → sm 1000000000 b → exOk 1000000000 b → posT b → tmG a1 c1 a' (goP b f d m) = plusT (tmG a1 c1 a' b) (tmG a1 c1 a' (cons f d m))
  | nil, _, _, _, _, _ => by simp only [goP]; rw [show tmG a1 c1 a' nil = nil from rfl, plusT_nilL]
  | cons e c l, p, fb, sb, eb, pb => by
    obtain ⟨d', m', hX⟩ := tm_head (a1 := a1) (a' := a') (c1 := c1) f d m
    have hcmp := plusT_cmp (y := f) f1 s1 eb.1.2.1 ec.1.2.1 eb.1.2.2 ec.1.2.2
    by_cases q : cmpT e f = 1
    · have ih := tm_dist f1 s1 fa hc1 fc sc ec pc l (some e) fb.2 sb.2.2 eb.2 pb.2
      have hne : ∃ x y z, e = cons x y z := by
        cases e with
        | nil => cases f <;> simp [cmpT] at q
        | cons x y z => exact ⟨x, y, z, rfl⟩
      obtain ⟨x, y, z, rfl⟩ := hne
      simp only [goP, if_pos q, tmG]
      rw [ih, hX, plusT_c _ (plusT a1 f) d' m', plusT_c _ (plusT a1 f) d' m']
      have hg : cmpT (plusT a1 (cons x y z)) (plusT a1 f) = 1 := by omega
      simp only [goP, if_pos hg]
    · by_cases q0 : cmpT e f = 0
      · obtain rfl := cmpT_eq.1 q0
        have hb := sb.2.1
        have hd := sc.2.1
        have p1 := pb.1
        have p2 := pc.1
        simp only [goP, if_neg q, if_pos q0]
        cases e with
        | nil =>
          obtain rfl := falls_low fb.2
          obtain rfl := falls_low fc.2
          have e1 : w (c + d) = c + d := wid (by omega) (by omega)
          have m1 := mul_in hc1 (show 0 ≤ c ∧ c ≤ 1000000000 by omega)
          have m2 := mul_in hc1 (show 0 ≤ d ∧ d ≤ 1000000000 by omega)
          simp only [tmG, T.app_nil, plusT, goP, cmpT_refl]
          rw [if_neg (by omega), if_pos trivial, e1, show w (c1 * c) = c1 * c from wid (by omega) (by omega), show w (c1 * d) = c1 * d from wid (by omega) (by omega), Int.mul_add]
        | cons x y z =>
          simp only [tmG]
          rw [show ∀ t u v s, plusT (cons (plusT a1 (cons x y z)) t u) (cons (plusT a1 (cons x y z)) v s) = goP (cons (plusT a1 (cons x y z)) t u) (plusT a1 (cons x y z)) v s from fun _ _ _ _ => rfl]
          simp only [goP, cmpT_refl]
          rw [if_neg (by omega), if_pos trivial]
      · have lt := gt_of q q0
        have e1 : goP (cons e c l) f d m = cons f d m := by simp only [goP, if_neg q, if_neg q0]; exact goP_low fb.2 lt
        rw [e1, hX]
        obtain ⟨c', l', hY⟩ := tm_head (a1 := a1) (a' := a') (c1 := c1) e c l
        have hfy := tmG_falls (c1 := c1) f1 s1 fa (cons e c l) none (fun r h => (by cases h)) ⟨fun r h => (by cases h), fb.2⟩ eb
        rw [hY] at hfy ⊢
        rw [plusT_c _ (plusT a1 f) d' m']
        have hg : cmpT (plusT a1 e) (plusT a1 f) < 0 := by omega
        simp only [goP]
        rw [if_neg (by omega), if_neg (by omega), goP_low hfy.2 hg]
theorem times_dist {a b c : T} (fa : falls none a) (pa : posT a) (sa : sm 1000000000 a) (ea : exOk 1000000000 a) (fb : falls none b) (sb : sm 1000000000 b) (eb : exOk 1000000000 b) (pb : posT b) (fc : falls none c) (sc : sm 1000000000 c) (ec : exOk 1000000000 c) (pc : posT c) : timesT a (plusT b c) = plusT (timesT a b) (timesT a c) := by
  cases a with
  | nil => rfl
  | cons a1 c1 a' =>
    cases c with
    | nil => rfl
    | cons f d m => exact tm_dist ea.1.1 ea.1.2.2 fa.2 ⟨by have := pa.1; omega, sa.2.1.2⟩ fc sc ec pc b none fb sb eb pb
theorem falls_less {l : T} : ∀ {e m x : T} {y : Int} {z : T}, falls (some e) l → lessT l m = cons x y z → 0 < cmpT e x := by
  induction l with
  | nil => intro e m x y z _ h; cases m <;> simp [lessT] at h
  | cons a c l _ ih =>
    intro e m x y z hf h
    have h1 := hf.1 e rfl
    cases m with
    | nil => rw [lessT_nil] at h; injection h with h2; rw [← h2]; exact h1
    | cons f d m =>
      simp only [lessT] at h
      split at h
      · split at h
        · have := ih hf.2 h
          have q1 : cmpT x a < 0 := by rw [cmpT_neg a x]; omega
          have q2 : cmpT a e < 0 := by rw [cmpT_neg e a]; omega
          have := cmpT_trans q1 q2
          rw [cmpT_neg x e]; omega
        · injection h with h2; rw [← h2]; exact h1
      · injection h with h2; rw [← h2]; exact h1
/-- What is left, added again. -/
theorem plus_lessX {a : T} : ∀ {b : T} {p q : Option T}, falls p a → falls q b → posT a → posT b → sm 1000000000000000 a → sm 1000000000000000 b → 0 ≤ cmpT a b → plusT b (lessT a b) = a := by
  induction a with
  | nil =>
    intro b p q _ _ _ _ _ _ h
    cases b with
    | nil => rfl
    | cons f d m => simp [cmpT] at h
  | cons e c l _ ih =>
    intro b p q fa fb pa pb sa sb h
    cases b with
    | nil => rw [lessT_nil, plusT_nilL]
    | cons f d m =>
      simp only [cmpT] at h
      simp only [lessT]
      by_cases q1 : cmpT e f = 0
      · obtain rfl := cmpT_eq.1 q1
        rw [if_pos q1] at h ⊢
        by_cases q2 : c = d
        · subst q2
          rw [cmpI_refl, if_pos rfl] at h
          rw [if_pos rfl]
          have ih := ih fa.2 fb.2 pa.2 pb.2 sa.2.2 sb.2.2 h
          obtain ⟨h1, h2, h3⟩ := less_parts (B := 1000000000000000) (by omega) fa.2 pa.2 pb.2 sa.2.2 h
          cases hx : lessT l m with
          | nil =>
            rw [hx] at ih
            show cons e c m = cons e c l
            rw [show plusT m nil = m from rfl] at ih
            rw [ih]
          | cons x y z =>
            rw [hx] at ih
            have hxe : cmpT e x = 1 := by
              have := (falls_less fa.2 hx)
              have := cmpT_range e x
              omega
            simp only [plusT] at ih ⊢
            simp only [goP, if_pos hxe]
            rw [ih]
        · rw [if_neg (fun z => q2 (cmpI_eq.1 z))] at h
          have hcd : d < c := by
            unfold cmpI at h
            split at h
            · omega
            · omega
          rw [if_neg q2]
          have b1 := sa.2.1
          have b2 := sb.2.1
          have p2 := pb.1
          have e1 : w (c - d) = c - d := wid (by omega) (by omega)
          simp only [plusT, goP, cmpT_refl]
          rw [if_neg (by omega), if_pos trivial, e1, show w (d + (c - d)) = d + (c - d) from wid (by omega) (by omega)]
          rw [show d + (c - d) = c by omega]
      · rw [if_neg q1] at h ⊢
        have hfe : cmpT f e < 0 := by rw [cmpT_neg e f]; have := cmpT_range e f; omega
        simp only [plusT]
        simp only [goP]
        rw [if_neg (by omega), if_neg (by omega), goP_low fb.2 hfe]
theorem plus_less {a b : T} {p q : Option T} (fa : falls p a) (fb : falls q b) (pa : posT a) (pb : posT b) (sa : sm 1000000000 a) (sb : sm 1000000000 b) (h : 0 ≤ cmpT a b) : plusT b (lessT a b) = a :=
  plus_lessX fa fb pa pb (sm_mono sa (by omega)) (sm_mono sb (by omega)) h
end Go.Proofs.Try

namespace Go.Proofs.Try
open Go Go.AX T
def pwT (e : T) (n : Int) : T := if n = 0 then nil else cons e n nil
theorem ipower_eq (e : T) (n : Int) : impl_power e.rows n = some (pwT e n).rows := by
  unfold impl_power pwT
  split <;> rfl
theorem exOk_less {B : Int} {a : T} : ∀ {b : T}, exOk B a → exOk B (lessT a b) := by
  induction a with
  | nil => intro b _; cases b <;> exact trivial
  | cons e c l _ ih =>
    intro b h
    cases b with
    | nil => rw [lessT_nil]; exact h
    | cons f d m =>
      simp only [lessT]
      split
      · split
        · exact ih h.2
        · exact h
      · exact h
/-- A right ordinal but for its nodes: terms and exponents. -/
def rt (B : Int) (Z : Nat) (n : T) : Prop := okT B Z n ∧ exOk B n
theorem ordP_rt {t : T} (h : ordP t = true) : rt 1000000 30 t := ⟨ordP_okT h, form_exOk (ordP_form h)⟩
/-- The next part of a quotient. -/
def nextT : T → T → T
  | cons s c l, cons t d m => if cmpT s t = 0 then (if 0 < cmpT (timesT (cons t d m) (pwT nil (w (c.tdiv d)))) (cons s c l) then pwT nil (w (w (c.tdiv d) - 1)) else pwT nil (w (c.tdiv d))) else pwT (lessT s t) c
  | _, _ => nil
theorem times_int {t m : T} {d k : Int} (hk : k ≠ 0) : timesT (cons t d m) (pwT nil k) = cons t (w (d * k)) m := by
  unfold pwT
  rw [if_neg hk]
  simp only [timesT, tmG, T.app_nil]
theorem times_pow {t e m : T} {d k : Int} (he : e ≠ nil) (hk : k ≠ 0) : timesT (cons t d m) (pwT e k) = cons (plusT t e) k nil := by
  unfold pwT
  rw [if_neg hk]
  cases e with
  | nil => exact absurd rfl he
  | cons x y z => simp only [timesT, tmG]
theorem cmp_gtI {c d : Int} (h : d < c) : cmpI c d = 1 := by unfold cmpI; rw [if_neg (by omega), if_pos h]
theorem cmp_ltI {c d : Int} (h : c < d) : cmpI c d = -1 := by unfold cmpI; rw [if_pos h]
theorem cmp_sameE {s l m : T} {c d : Int} : cmpT (cons s c l) (cons s d m) = if cmpI c d = 0 then cmpT l m else cmpI c d := by simp only [cmpT, cmpT_refl, if_true]
/-- One round: what is next, and what is left. -/
theorem div_round {a b : T} (ra : rt 1000000 30 a) (rb : rt 1000000 30 b) (hb : b ≠ nil) (h : 0 ≤ cmpT a b) :
    rt 1000000 31 (nextT a b) ∧ 0 ≤ cmpT a (timesT b (nextT a b)) ∧ rt 1000000 30 (lessT a (timesT b (nextT a b))) ∧ rt 1000000000000 1000 (timesT b (nextT a b)) ∧
    ((lessT a (timesT b (nextT a b))).len < a.len ∨ cmpT (lessT a (timesT b (nextT a b))) b < 0) := by
  obtain ⟨⟨fa, pa, sa, za⟩, ea⟩ := ra
  obtain ⟨⟨fb, pb, sb, zb⟩, eb⟩ := rb
  cases b with
  | nil => exact absurd rfl hb
  | cons t d m =>
    cases a with
    | nil => simp [cmpT] at h
    | cons s c l =>
      have ec := sa.2.1
      have ed := sb.2.1
      have c1 := pa.1
      have d1 := pb.1
      simp only [size] at za zb
      -- whatever is next: it is enough to know that it is right and no more than a
      have key : ∀ x : T, rt 1000000 31 x → 0 ≤ cmpT (cons s c l) (timesT (cons t d m) x) → ((lessT (cons s c l) (timesT (cons t d m) x)).len < (cons s c l).len ∨ cmpT (lessT (cons s c l) (timesT (cons t d m) x)) (cons t d m) < 0) →
          rt 1000000 31 x ∧ 0 ≤ cmpT (cons s c l) (timesT (cons t d m) x) ∧ rt 1000000 30 (lessT (cons s c l) (timesT (cons t d m) x)) ∧ rt 1000000000000 1000 (timesT (cons t d m) x) ∧
          ((lessT (cons s c l) (timesT (cons t d m) x)).len < (cons s c l).len ∨ cmpT (lessT (cons s c l) (timesT (cons t d m) x)) (cons t d m) < 0) := by
        intro x rx hx hl
        obtain ⟨⟨fx, px, sx, zx⟩, ex⟩ := rx
        have o1 : okT 1000000000000 1000 (timesT (cons t d m) x) := by
          refine ⟨?_, ?_, ?_, ?_⟩
          · exact tmG_falls (c1 := d) eb.1.1 (sm_mono eb.1.2.2 (by omega)) fb.2 x none (fun r h => by cases h) fx (exOk_mono ex (by omega))
          · exact tmG_pos (B := 1000000) (C := 1000000) ⟨d1, ed.2⟩ pb.2 (by omega) x sx px
          · exact tmG_sm (B := 1000000) (C := 1000000) (sm_mono eb.1.2.2 (by omega)) ⟨by omega, ed.2⟩ sb.2.2 (by omega) x sx px
          · have := tmG_size t d m x
            have h2 : x.size * (t.size + m.size + 2) ≤ 31 * 31 := Nat.mul_le_mul zx (by omega)
            show (tmG t d m x).size ≤ 1000
            omega
        refine ⟨⟨⟨fx, px, sx, zx⟩, ex⟩, hx, ⟨less_ok (C := 1000000000000) (Y := 1000) (by omega) ⟨fa, pa, sa, by simp only [size]; omega⟩ o1 hx, exOk_less ea⟩, ⟨o1, ?_⟩, hl⟩
        exact tmG_exOk (B := 1000000) (C := 1000000) (D := 1000000000000) ⟨eb.1.1, eb.1.2.1, eb.1.2.2⟩ (exOk_mono eb.2 (by omega)) (by omega) x ex
      by_cases q : cmpT s t = 0
      · obtain rfl := cmpT_eq.1 q
        have hint : ∀ k : Int, 1 ≤ k ∧ k ≤ 1000000 → rt 1000000 31 (pwT nil k) := by
          intro k hk
          unfold pwT
          rw [if_neg (by omega)]
          exact ⟨⟨⟨fun _ h => (by cases h), trivial⟩, ⟨hk.1, trivial⟩, ⟨trivial, by omega, trivial⟩, by simp [size]⟩, ⟨⟨trivial, trivial, trivial⟩, trivial⟩⟩
        rw [cmp_sameE] at h
        have hcd : d ≤ c := by
          rcases Int.lt_or_le c d with x | x
          · rw [cmp_ltI x] at h; simp at h
          · exact x
        have hdiv : c.tdiv d = c / d := Int.tdiv_eq_ediv_of_nonneg (by omega)
        have hk1 : 1 ≤ c / d := Int.le_ediv_of_mul_le (by omega) (by omega)
        have hk2 : c / d ≤ c := Int.ediv_le_self _ (by omega)
        have hmd := Int.mul_ediv_add_emod c d
        have hm0 := Int.emod_nonneg c (show d ≠ 0 by omega)
        have hm1 := Int.emod_lt_of_pos c (show 0 < d by omega)
        obtain ⟨k, hk⟩ : ∃ k, c / d = k := ⟨_, rfl⟩
        obtain ⟨dk, hdk⟩ : ∃ x, d * k = x := ⟨_, rfl⟩
        rw [hk] at hmd hk1 hk2
        rw [hdk] at hmd
        have wk : w (c.tdiv d) = k := by rw [hdiv, hk]; exact wid (by omega) (by omega)
        have wk1 : w (k - 1) = k - 1 := wid (by omega) (by omega)
        have wdk : w (d * k) = dk := by rw [hdk]; exact wid (by omega) (by omega)
        have hdk1 : d * (k - 1) = dk - d := by rw [Int.mul_sub, hdk]; omega
        have wdk1 : w (d * (k - 1)) = dk - d := by rw [hdk1]; exact wid (by omega) (by omega)
        simp only [nextT, if_pos q, wk, wk1]
        have ht := times_int (t := s) (m := m) (d := d) (k := k) (by omega)
        rw [wdk] at ht
        by_cases g : 0 < cmpT (timesT (cons s d m) (pwT nil k)) (cons s c l)
        · rw [if_pos g]
          rw [ht, cmp_sameE] at g
          have hdc : dk = c := by
            rcases Int.lt_or_le dk c with x | x
            · rw [cmp_ltI x] at g; simp at g
            · omega
          subst hdc
          rw [cmpI_refl, if_pos rfl] at g
          have hlm : cmpT l m < 0 := by rw [cmpT_neg m l]; omega
          have hk3 : 2 ≤ k := by
            rcases Int.lt_or_le k 2 with x | x
            · have : k = 1 := by omega
              subst this
              rw [Int.mul_one] at hdk
              subst hdk
              rw [cmpI_refl, if_pos rfl] at h
              omega
            · exact x
          have ht2 := times_int (t := s) (m := m) (d := d) (k := k - 1) (by omega)
          rw [wdk1] at ht2
          have hc2 : cmpI dk (dk - d) = 1 := cmp_gtI (by omega)
          refine key _ (hint (k - 1) (by omega)) ?_ (.inr ?_)
          · rw [ht2, cmp_sameE, hc2]; simp
          · rw [ht2]
            simp only [lessT, cmpT_refl, if_true]
            rw [if_neg (by omega), show w (dk - (dk - d)) = d from by rw [show dk - (dk - d) = d by omega]; exact wid (by omega) (by omega), cmp_sameE, cmpI_refl, if_pos rfl]
            exact hlm
        · rw [if_neg g]
          have hge : 0 ≤ cmpT (cons s c l) (timesT (cons s d m) (pwT nil k)) := by rw [cmpT_neg (timesT (cons s d m) (pwT nil k))]; omega
          refine key _ (hint k (by omega)) hge (.inr ?_)
          rw [ht] at hge ⊢
          rw [cmp_sameE] at hge
          simp only [lessT, cmpT_refl, if_true]
          by_cases x : c = dk
          · rw [if_pos x]
            cases hx : lessT l m with
            | nil => simp [cmpT]
            | cons e y z =>
              have := falls_less fa.2 hx
              have hes : cmpT e s < 0 := by rw [cmpT_neg s e]; omega
              simp only [cmpT]
              rw [if_neg (by omega)]
              exact hes
          · rw [if_neg x, cmp_sameE, show w (c - dk) = c - dk from wid (by omega) (by omega), cmp_ltI (by omega)]
            simp
      · have hst : cmpT s t = 1 := by
          simp only [cmpT] at h
          rw [if_neg q] at h
          have := cmpT_range s t
          omega
        have hps := plus_less ea.1.1 eb.1.1 ea.1.2.1 eb.1.2.1 (sm_mono ea.1.2.2 (by omega)) (sm_mono eb.1.2.2 (by omega)) (by omega : 0 ≤ cmpT s t)
        have hne : lessT s t ≠ nil := by
          intro z
          rw [z] at hps
          have : t = s := hps
          rw [this, cmpT_refl] at hst
          omega
        simp only [nextT, if_neg q]
        have ht := times_pow (t := t) (m := m) (d := d) (k := c) hne (by omega)
        rw [hps] at ht
        refine key _ ?_ ?_ (.inl ?_)
        · unfold pwT
          rw [if_neg (by omega)]
          obtain ⟨g1, g2, g3⟩ := less_parts (B := 1000000) (by omega) ea.1.1 ea.1.2.1 eb.1.2.1 ea.1.2.2 (by omega : 0 ≤ cmpT s t)
          have := lessT_size s t
          exact ⟨⟨⟨fun _ h => (by cases h), trivial⟩, ⟨c1, trivial⟩, ⟨g3, ec, trivial⟩, by simp only [size]; omega⟩, ⟨⟨g1, g2, g3⟩, trivial⟩⟩
        · rw [ht, cmp_sameE, cmpI_refl, if_pos rfl]
          cases l <;> simp [cmpT]
        · rw [ht]
          simp only [lessT, cmpT_refl, if_true, lessT_nil, len]
          omega
end Go.Proofs.Try

namespace Go.Proofs.Try
open Go Go.AX T
/-! ### copies -/
def addT (a b : T) : T × Bool := if ordP a && ordP b then toldT (plusT a b) else (nil, false)
def cmpO (a b : T) : Int × Bool := if ordP a && ordP b then (cmpT a b, true) else (0, false)
/-! ### the same -/
theorem addT_ok {a b : T} (h : (addT a b).2 = true) : ordP a = true ∧ ordP b = true ∧ ordP (plusT a b) = true ∧ (addT a b).1 = plusT a b := by
  unfold addT toldT at *
  cases ha : ordP a <;> cases hb : ordP b <;> simp only [ha, hb, Bool.and_self, Bool.and_true, Bool.and_false, if_true] at h ⊢ <;> try (simp at h)
  cases hs : ordP (plusT a b) <;> simp [hs] at h ⊢
theorem addT_of {a b : T} (ha : ordP a = true) (hb : ordP b = true) (hs : ordP (plusT a b) = true) : addT a b = (plusT a b, true) := by
  unfold addT toldT
  rw [ha, hb, Bool.and_self, if_pos rfl, if_pos hs]
end Go.Proofs.Try

namespace Go.Proofs.Try
open Go Go.AX T
/-- A term put in its place among falling ones. -/
def meetT (e : T) (c : Int) : T → T
  | nil => cons e c nil
  | cons x d l => if cmpT x e = 1 then cons x d (meetT e c l) else if cmpT x e = 0 then cons e (w (c + d)) l else cons e c (cons x d l)
/-- The coefficient at an exponent. -/
def coef : T → T → Int
  | nil, _ => 0
  | cons e c l, x => (if cmpT e x = 0 then c else 0) + coef l x
theorem falls_meet {p : Option T} {t e : T} {c : Int} (h : falls p t) (hp : ∀ q, p = some q → 0 < cmpT q e) : falls p (meetT e c t) := by
  induction t generalizing p with
  | nil => exact ⟨hp, trivial⟩
  | cons x d l _ ih =>
    simp only [meetT]
    split
    · rename_i q
      exact ⟨h.1, ih h.2 fun r hr => by cases hr; omega⟩
    · split
      · rename_i q; obtain rfl := cmpT_eq.1 q; exact ⟨h.1, h.2⟩
      · rename_i q q0
        refine ⟨hp, fun r hr => ?_, h.2⟩
        cases hr
        have := cmpT_range x e
        have := cmpT_neg x e
        omega
theorem coef_meet {t e x : T} {c : Int} (hw : ∀ y d l l', t = app l (cons y d l') → w (c + d) = c + d) : coef (meetT e c t) x = coef t x + (if cmpT e x = 0 then c else 0) := by
  induction t with
  | nil => simp [meetT, coef]
  | cons y d l _ ih =>
    have hy := hw y d nil l rfl
    have ih := ih fun z g m m' hm => hw z g (cons y d m) m' (by rw [hm]; rfl)
    simp only [meetT]
    split
    · simp only [coef, ih]; omega
    · split
      · rename_i q; obtain rfl := cmpT_eq.1 q
        simp only [coef, hy]
        split <;> omega
      · simp only [coef]; omega
end Go.Proofs.Try

namespace Go.Proofs.Try
open Go Go.AX T
/-- Coefficients above nothing. -/
def pos : T → Prop
  | nil => True
  | cons _ c l => 1 ≤ c ∧ pos l
theorem form_pos {p : Option T} {t : T} (h : formA p t = true) : pos t := by
  induction t generalizing p with
  | nil => trivial
  | cons e c l _ ih =>
    simp only [formA, Bool.and_eq_true, decide_eq_true_eq] at h
    exact ⟨h.1.1.1.1, ih h.2⟩
theorem coef_above {t x : T} : ∀ {e : T}, falls (some e) t → 0 ≤ cmpT x e → coef t x = 0 := by
  induction t with
  | nil => intro e _ _; rfl
  | cons y c l _ ih =>
    intro e h hx
    have h1 := h.1 e rfl
    have h2 : 0 < cmpT x y := by
      have r := cmpT_range x e
      rcases (show cmpT x e = 0 ∨ cmpT x e = 1 by omega) with q | q
      · obtain rfl := cmpT_eq.1 q; exact h1
      · exact cmp_lt_of (b := e) (by omega) (by have := cmpT_range e y; omega)
    have h3 := cmpT_neg x y
    simp only [coef]
    rw [if_neg (by omega), ih h.2 (by omega)]; rfl
theorem coef_nonneg {t x : T} (h : pos t) : 0 ≤ coef t x := by
  induction t with
  | nil => simp [coef]
  | cons e c l _ ih =>
    have := ih h.2
    have := h.1
    simp only [coef]
    split <;> omega
theorem coef_head {e l : T} {c : Int} (h : falls (some e) l) : coef (cons e c l) e = c := by
  simp only [coef, cmpT_refl, if_true]
  rw [coef_above h (by rw [cmpT_refl]; omega)]; omega
theorem coef_top {f m x : T} {d : Int} (h : falls (some f) m) (hx : 0 < cmpT x f) : coef (cons f d m) x = 0 := by
  have := cmpT_neg f x
  simp only [coef]
  rw [if_neg (by omega), coef_above h (by omega)]; rfl
/-- The first difference decides. -/
theorem cmp_of_coef {s t x : T} : ∀ {p q : Option T}, falls p s → falls q t → pos s → pos t → coef s x < coef t x → (∀ y, 0 < cmpT y x → coef s y = coef t y) → cmpT s t < 0 := by
  induction s generalizing t with
  | nil =>
    intro p q _ _ _ _ h _
    cases t with
    | nil => simp [coef] at h
    | cons => simp [cmpT]
  | cons e c l _ ih =>
    intro p q fs ft ps pt h hy
    cases t with
    | nil => have := coef_nonneg (x := x) ps; simp only [coef] at h this; omega
    | cons f d m =>
      have he := coef_head (c := c) fs.2
      have hf := coef_head (c := d) ft.2
      have n1 := cmpT_neg e f
      simp only [cmpT]
      rcases cmpT_range e f with r | r | r
      · rw [if_neg (by omega)]; omega
      · obtain rfl := cmpT_eq.1 r
        rw [if_pos r]
        by_cases g : 0 < cmpT e x
        · have := hy e g
          rw [he, hf] at this
          subst this
          rw [cmpI_refl, if_pos rfl]
          have key : ∀ y, coef (cons e c l) y = (if cmpT e y = 0 then c else 0) + coef l y := fun y => rfl
          have key2 : ∀ y, coef (cons e c m) y = (if cmpT e y = 0 then c else 0) + coef m y := fun y => rfl
          refine ih fs.2 ft.2 ps.2 pt.2 ?_ fun y hyx => ?_
          · rw [key, key2] at h; omega
          · have := hy y hyx; rw [key, key2] at this; omega
        · by_cases g0 : cmpT e x = 0
          · obtain rfl := cmpT_eq.1 g0
            rw [he, hf] at h
            have : cmpI c d = -1 := by unfold cmpI; rw [if_pos h]
            rw [this, if_neg (by decide)]; decide
          · exfalso
            have n2 := cmpT_neg e x
            have z1 : coef (cons e d m) x = 0 := coef_top ft.2 (by have := cmpT_range e x; omega)
            have := coef_nonneg (x := x) ps
            omega
      · exfalso
        have he' := coef_head (c := c) fs.2
        have z : coef (cons f d m) e = 0 := coef_top ft.2 (by omega)
        have pc := ps.1
        by_cases g : 0 < cmpT e x
        · have := hy e g; omega
        · by_cases g0 : cmpT e x = 0
          · obtain rfl := cmpT_eq.1 g0
            omega
          · have n2 := cmpT_neg e x
            have r2 := cmpT_range e x
            have z1 : coef (cons f d m) x = 0 := coef_top ft.2 (cmp_lt_of (b := e) (by omega) (Or.inl r))
            have := coef_nonneg (x := x) ps
            omega
theorem eq_of_coef {s t : T} : ∀ {p q : Option T}, falls p s → falls q t → pos s → pos t → (∀ y, coef s y = coef t y) → s = t := by
  induction s generalizing t with
  | nil =>
    intro p q _ ft _ pt h
    cases t with
    | nil => rfl
    | cons f d m =>
      have h1 := coef_head (c := d) ft.2
      have h2 := h f
      have h3 := pt.1
      simp only [coef] at h2 h1
      omega
  | cons e c l _ ih =>
    intro p q fs ft ps pt h
    have he := coef_head (c := c) fs.2
    have pc := ps.1
    cases t with
    | nil =>
      have h2 := h e
      rw [he] at h2
      simp only [coef] at h2
      omega
    | cons f d m =>
      have hf := coef_head (c := d) ft.2
      have pd := pt.1
      rcases cmpT_range e f with r | r | r
      · have z : coef (cons e c l) f = 0 := coef_top fs.2 (by have := cmpT_neg e f; omega)
        have := h f
        omega
      · obtain rfl := cmpT_eq.1 r
        have := h e
        rw [he, hf] at this
        subst this
        have : l = m := ih fs.2 ft.2 ps.2 pt.2 fun y => by
          have := h y
          simp only [coef] at this
          omega
        rw [this]
      · have z : coef (cons f d m) e = 0 := coef_top ft.2 (by omega)
        have := h e
        omega
end Go.Proofs.Try

namespace Go.Proofs.Try
open Go Go.AX T
theorem coef_goP {a f m x : T} {d : Int} (hw : ∀ y g l l', a = app l (cons y g l') → w (g + d) = g + d) : ∀ {p : Option T}, falls p a → falls (some f) m →
    coef (goP a f d m) x = (if 0 ≤ cmpT x f then coef a x else 0) + coef (cons f d m) x := by
  induction a with
  | nil => intro p _ _; simp [goP, coef]
  | cons e c l _ ih =>
    intro p ha hm
    have hc := hw e c nil l rfl
    have ih := ih (fun y g q q' hq => hw y g (cons e c q) q' (by rw [hq]; rfl)) ha.2 hm
    have r1 := cmpT_range e f
    have r2 := cmpT_range x f
    have n1 := cmpT_neg e x
    have n2 := cmpT_neg e f
    simp only [goP]
    by_cases q : cmpT e f = 1
    · rw [if_pos q]
      have key : coef (cons e c (goP l f d m)) x = (if cmpT e x = 0 then c else 0) + coef (goP l f d m) x := rfl
      have key2 : coef (cons e c l) x = (if cmpT e x = 0 then c else 0) + coef l x := rfl
      rw [key, key2, ih]
      by_cases g : cmpT e x = 0
      · obtain rfl := cmpT_eq.1 g
        rw [if_pos (by omega), if_pos (by omega), if_pos (by omega)]; omega
      · rw [if_neg g]
        split <;> omega
    · rw [if_neg q]
      have key2 : coef (cons e c l) x = (if cmpT e x = 0 then c else 0) + coef l x := rfl
      by_cases q0 : cmpT e f = 0
      · obtain rfl := cmpT_eq.1 q0
        rw [if_pos q0, hc, key2]
        have key : ∀ g : Int, coef (cons e g m) x = (if cmpT e x = 0 then g else 0) + coef m x := fun g => rfl
        rw [key, key]
        by_cases g : 0 ≤ cmpT x e
        · have z := coef_above (x := x) ha.2 g
          rw [if_pos g, z]
          split <;> omega
        · rw [if_neg g, if_neg (by omega), if_neg (by omega)]; omega
      · rw [if_neg q0, ih, key2]
        by_cases g : 0 ≤ cmpT x f
        · have h1 : ¬ cmpT e x = 0 := by
            intro h
            obtain rfl := cmpT_eq.1 h
            omega
          rw [if_pos g, if_pos g, if_neg h1]; omega
        · rw [if_neg g, if_neg g]
end Go.Proofs.Try

namespace Go.Proofs.Try
open Go Go.AX T
def joinT : T → T → T
  | a, nil => a
  | a, cons e c l => joinT (meetT e c a) l
theorem sm_at {B : Int} {t y : T} {g : Int} {l l' : T} (h : sm B t) (e : t = app l (cons y g l')) : -B ≤ g ∧ g ≤ B := by
  rw [e, sm_app] at h; exact h.2.2.1
theorem meetT_sm {B C : Int} {t e : T} {c : Int} (h : sm B t) (he : sm C e) (hc : -C ≤ c ∧ c ≤ C) (hB : 0 ≤ B ∧ 0 ≤ C ∧ B + C ≤ 1000000000000000) : sm (B + C) (meetT e c t) := by
  induction t with
  | nil => exact ⟨sm_mono he (by omega), by omega, trivial⟩
  | cons x d l _ ih =>
    obtain ⟨h1, h2, h3⟩ := h
    simp only [meetT]
    split
    · exact ⟨sm_mono h1 (by omega), by omega, ih h3⟩
    · split
      · refine ⟨sm_mono he (by omega), ?_, sm_mono h3 (by omega)⟩
        rw [show w (c + d) = c + d from wid (by omega) (by omega)]; omega
      · exact ⟨sm_mono he (by omega), by omega, sm_mono h1 (by omega), by omega, sm_mono h3 (by omega)⟩
theorem meetT_pos {t e : T} {c : Int} (h : pos t) (hc : 1 ≤ c) (hw : ∀ y d l l', t = app l (cons y d l') → w (c + d) = c + d) : pos (meetT e c t) := by
  induction t with
  | nil => exact ⟨hc, trivial⟩
  | cons x d l _ ih =>
    have hy := hw x d nil l rfl
    have h1 := h.1
    simp only [meetT]
    split
    · exact ⟨h.1, ih h.2 fun z g m m' hm => hw z g (cons x d m) m' (by rw [hm]; rfl)⟩
    · split
      · exact ⟨by rw [hy]; omega, h.2⟩
      · exact ⟨hc, h⟩
theorem join_all {B : Int} : ∀ (b a : T) (C : Int), sm C a → sm B b → 0 ≤ B → 0 ≤ C → C + B * b.len ≤ 1000000000000000 → falls none a → pos a → pos b →
    falls none (joinT a b) ∧ pos (joinT a b) ∧ sm (C + B * b.len) (joinT a b) ∧ ∀ x, coef (joinT a b) x = coef a x + coef b x
  | nil, a, C, sa, _, _, _, _, fa, pa, _ => ⟨fa, pa, sm_mono sa (by simp [len]), fun x => by simp [joinT, coef]⟩
  | cons e c l, a, C, sa, sb, hB, hC, hs, fa, pa, pb => by
    have e1 : B * ((l.len + 1 : Nat) : Int) = B * l.len + B := by rw [Int.natCast_add, Int.mul_add]; omega
    simp only [len] at hs ⊢
    have hnn : 0 ≤ B * (l.len : Int) := Int.mul_nonneg hB (by omega)
    rw [e1] at hs ⊢
    have hcB := sb.2.1
    have hw : ∀ y d m m', a = app m (cons y d m') → w (c + d) = c + d := fun y d m m' h => by
      have := sm_at sa h
      exact wid (by omega) (by omega)
    have hm := meetT_sm (B := C) (C := B) sa sb.1 sb.2.1 (by omega)
    obtain ⟨q1, q2, q3, q4⟩ := join_all l (meetT e c a) (C + B) hm sb.2.2 hB (by omega) (by omega) (falls_meet fa fun q hq => (by cases hq)) (meetT_pos pa pb.1 hw) pb.2
    refine ⟨q1, q2, sm_mono q3 (by omega), fun x => ?_⟩
    show coef (joinT (meetT e c a) l) x = _
    rw [q4, coef_meet hw]
    simp only [coef]; omega
theorem join_comm {a b : T} {B : Int} (sa : sm B a) (sb : sm B b) (hB : 0 ≤ B) (ha : B + B * a.len ≤ 1000000000000000) (hb : B + B * b.len ≤ 1000000000000000) (fa : falls none a) (fb : falls none b) (pa : pos a) (pb : pos b) : joinT a b = joinT b a := by
  obtain ⟨q1, q2, _, q4⟩ := join_all b a B sa sb hB hB hb fa pa pb
  obtain ⟨r1, r2, _, r4⟩ := join_all a b B sb sa hB hB ha fb pb pa
  exact eq_of_coef q1 r1 q2 r2 fun y => by rw [q4, r4]; omega
end Go.Proofs.Try

namespace Go.Proofs.Try
open Go Go.AX T
theorem meetT_size (e : T) (c : Int) (t : T) : (meetT e c t).size ≤ t.size + e.size + 1 := by
  induction t with
  | nil => simp [meetT, size]
  | cons x d l _ ih =>
    simp only [meetT]
    split
    · simp only [size]; omega
    · split <;> simp only [size] <;> omega
theorem joinT_size (a b : T) : (joinT a b).size ≤ a.size + b.size := by
  induction b generalizing a with
  | nil => simp [joinT, size]
  | cons e c l _ ih =>
    have := ih (meetT e c a)
    have := meetT_size e c a
    simp only [joinT, size]; omega
/-! ### the reference -/
theorem nrows_snoc (l e : T) (c : Int) : l.rows ++ [[D.sl e.rows, D.int .i64 c]] = (app l (cons e c nil)).rows := by rw [rows_app]; rfl
theorem nsnoc_len (l e : T) (c : Int) : (app l (cons e c nil)).len = l.len + 1 := by rw [len_app]; rfl
theorem meet_done {k : Nat} {a e : T} {c : Int} {K : Rw → Bool → Option Rw} (qe : calm e) : ∀ (t acc : T), t.size < k → acc.size + t.size ≤ cap → calm t → spec_odMeet_l0 k a.rows e.rows c K t.rows true acc.rows = K (app acc t).rows true
  | nil, acc, _, _, _ => by simp only [rows, spec_odMeet_l0, cond_true, T.app_nil]
  | cons x d l, acc, hk, hc, qt => by
    simp only [size] at hk hc
    have hl := acc.len_size
    simp only [rows, spec_odMeet_l0, cond_true, cell_T]
    rw [odCmp_eq k x e qt.1 qe (by omega) (by omega), Option.bind_some, if_pos (by rw [rows_len]; omega), nrows_snoc, meet_done qe l _ (by omega) (by rw [size_app]; simp only [size]; omega) qt.2.2, app_assoc]
    rfl
theorem meet_go {k : Nat} {a e : T} {c : Int} (qe : calm e) : ∀ (t acc : T), t.size < k → acc.size + t.size + e.size + 2 ≤ cap → calm t →
    spec_odMeet_l0 k a.rows e.rows c (fun v b => cond b (spec_odMeet_p4 e.rows c v true) (spec_odMeet_p4 e.rows c v false)) t.rows false acc.rows = some (app acc (meetT e c t)).rows
  | nil, acc, hk, hc, _ => by
    have hl := acc.len_size
    simp only [rows, spec_odMeet_l0, cond_false, spec_odMeet_p4]
    rw [if_pos (by rw [rows_len]; simp only [size] at hc; omega), nrows_snoc]; rfl
  | cons x d l, acc, hk, hc, qt => by
    simp only [size] at hk hc
    have hl := acc.len_size
    have hr := cmpT_range x e
    simp only [rows, spec_odMeet_l0, cond_false, cell_T]
    rw [odCmp_eq k x e qt.1 qe (by omega) (by omega), Option.bind_some]
    by_cases q1 : cmpT x e = 1
    · rw [if_neg (by omega), if_pos (by rw [rows_len]; omega), nrows_snoc, meet_go qe l _ (by omega) (by rw [size_app]; simp only [size]; omega) qt.2.2, app_assoc]
      simp only [meetT, if_pos q1]; rfl
    · rw [if_pos (by omega)]
      by_cases q2 : cmpT x e = 0
      · rw [if_pos q2, if_pos (by rw [rows_len]; omega), nrows_snoc, meet_done qe l _ (by omega) (by rw [size_app]; simp only [size]; omega) qt.2.2, app_assoc]
        simp only [meetT, if_neg q1, if_pos q2]; rfl
      · rw [if_neg q2, if_pos (by rw [rows_len]; omega), nrows_snoc, if_pos (by rw [rows_len, nsnoc_len]; omega), nrows_snoc, meet_done qe l _ (by omega) (by rw [size_app, size_app]; simp only [size]; omega) qt.2.2, app_assoc, app_assoc]
        simp only [meetT, if_neg q1, if_neg q2]; rfl
theorem odMeet_eq {k : Nat} {a e : T} {c : Int} (hk : a.size < k) (hc : a.size + e.size + 2 ≤ cap) (qa : calm a) (qe : calm e) : spec_odMeet k a.rows e.rows c = some (meetT e c a).rows := by
  have hl := a.len_size
  unfold spec_odMeet
  rw [if_pos (by rw [rows_len]; omega)]
  have := meet_go (k := k) (a := a) (c := c) qe a nil hk (by simp only [size]; omega) qa
  exact this
/-! ### impl -/
def aboveT (e : T) : T → Prop
  | nil => True
  | cons x _ l => cmpT e x = 1 ∧ aboveT e l
theorem above_transT {e f : T} (h : cmpT e f = 1) : ∀ {r : T}, aboveT f r → aboveT e r
  | nil, _ => trivial
  | cons _ _ _, hr => ⟨gt_trans h hr.1, above_transT h hr.2⟩
theorem falls_above : ∀ {l e : T}, falls (some e) l → aboveT e l
  | nil, _, _ => trivial
  | cons x c l, e, h => by
    have h1 := h.1 e rfl
    have := cmpT_range e x
    exact ⟨by omega, above_transT (by omega) (falls_above h.2)⟩
theorem join_above {e : T} {c : Int} : ∀ (r l : T), aboveT e r → joinT (cons e c l) r = cons e c (joinT l r)
  | nil, _, _ => rfl
  | cons f d r, l, h => by
    simp only [joinT, meetT]
    rw [if_pos h.1, join_above r _ h.2]
theorem join_nil : ∀ (b : T), falls none b → joinT nil b = b
  | nil, _ => rfl
  | cons f d r, h => by
    have h2 := falls_above h.2
    simp only [joinT, meetT]
    rw [join_above r nil h2, join_nil r (falls_none h.2)]
theorem falls_dropT {t : T} : ∀ {p : Option T}, falls p t → ∀ {i : Nat}, falls none (drop t i) := by
  induction t with
  | nil => intro p _ i; simp [falls]
  | cons e c l _ ih => intro p h i; cases i with
    | zero => exact ⟨fun _ h => (by cases h), h.2⟩
    | succ i => exact ih h.2
theorem sm_dropT {B : Int} {t : T} (h : sm B t) : ∀ {i : Nat}, sm B (drop t i) := by
  induction t with
  | nil => intro i; simp [sm]
  | cons e c l _ ih => intro i; cases i with
    | zero => simpa using h
    | succ i => exact ih h.2.2
theorem nat_loop {k : Nat} {a b : T} {B C : Int} (sa : sm C a) (sb : sm B b) (hB : 0 ≤ B ∧ B ≤ 1000000000000000) (hC : 0 ≤ C ∧ C ≤ 1000000000000000) (fb : falls none b) (hk : a.size + b.size + 3 < k) (hc : a.size + b.size + 2 ≤ cap) : ∀ (n i j : Nat) (acc : T), i ≤ a.len → j ≤ b.len → (a.len - i) + (b.len - j) + 1 ≤ n → acc.len ≤ i + j →
    impl_naturalSum_l0 k a.rows b.rows (fun v => impl_naturalSum_p4 v) n i acc.rows j = some (app acc (joinT (drop a i) (drop b j))).rows
  | 0, _, _, _, _, _, h, _ => absurd h (by omega)
  | n + 1, i, j, acc, hi, hj, hn, hacc => by
    have hla := a.len_size
    have hlb := b.len_size
    have h3 : cap = 1099511627776 := rfl
    have f2 := falls_dropT fb (i := j)
    have s1 := sm_dropT sa (i := i)
    have s2 := sm_dropT sb (i := j)
    simp only [impl_naturalSum_l0]
    cases hda : drop a i with
    | nil =>
      have h1 := drop_ge hda
      rw [if_neg (by rw [lenI]; omega)]
      cases hdb : drop b j with
      | nil =>
        have h2 := drop_ge hdb
        rw [if_neg (by rw [lenI]; omega)]
        simp only [joinT, T.app_nil]; rfl
      | cons f d r =>
        have h2 := drop_lt hdb
        rw [hdb] at f2 s2
        have hd := s2.2.1
        rw [if_pos (by rw [lenI]; omega), if_neg (by rw [lenI]; omega), if_pos (by rw [lenI]; omega), row_T rfl hdb, if_pos (by rw [rows_len]; omega), wid (n := 0 + d) (by omega) (by omega), show (0 : Int) + d = d by omega, nrows_snoc, wid (n := (j : Int) + 1) (by omega) (by omega)]
        have := nat_loop sa sb hB hC fb hk hc n i (j + 1) (app acc (cons f d nil)) hi (by omega) (by omega) (by rw [nsnoc_len]; omega)
        rw [drop_succ hdb, hda] at this
        refine this.trans ?_
        rw [join_nil _ (falls_none f2.2), join_nil _ f2]
        simp only [app_assoc]; rfl
    | cons e c l =>
      have h1 := drop_lt hda
      have hsa := drop_cons_size hda
      rw [hda] at s1
      have hcc := s1.2.1
      rw [if_pos (by rw [lenI]; omega)]
      cases hdb : drop b j with
      | nil =>
        have h2 := drop_ge hdb
        rw [if_pos (by rw [lenI]; omega), row_T rfl hda, if_pos (by rw [rows_len]; omega), nrows_snoc, wid (n := (i : Int) + 1) (by omega) (by omega)]
        have := nat_loop sa sb hB hC fb hk hc n (i + 1) j (app acc (cons e c nil)) (by omega) hj (by omega) (by rw [nsnoc_len]; omega)
        rw [drop_succ hda, hdb] at this
        refine this.trans ?_
        simp only [joinT, app_assoc]; rfl
      | cons f d r =>
        have h2 := drop_lt hdb
        rw [hdb] at f2 s2
        have hd := s2.2.1
        have hr := cmpT_range e f
        have r1 := row_T (α := Rw) (i := i) rfl hda
        have r2 := row_T (α := Rw) (i := j) rfl hdb
        rw [if_neg (by rw [lenI]; omega), if_neg (by rw [lenI]; omega)]
        simp only [r1, r2]
        rw [impl_cmp_eq k e f (by omega) (by omega), Option.bind_some]
        by_cases q1 : cmpT e f = 1
        · rw [if_pos (by omega), if_neg (by omega), if_pos (by rw [rows_len]; omega), nrows_snoc, wid (n := (i : Int) + 1) (by omega) (by omega)]
          have := nat_loop sa sb hB hC fb hk hc n (i + 1) j (app acc (cons e c nil)) (by omega) hj (by omega) (by rw [nsnoc_len]; omega)
          rw [drop_succ hda, hdb] at this
          refine this.trans ?_
          rw [join_above (cons f d r) l ⟨q1, above_transT q1 (falls_above f2.2)⟩]
          simp only [app_assoc]; rfl
        · by_cases q2 : cmpT e f = 0
          · rw [if_pos (by omega), if_pos (by omega), if_pos (by rw [rows_len]; omega), nrows_snoc, wid (n := (i : Int) + 1) (by omega) (by omega), wid (n := (j : Int) + 1) (by omega) (by omega)]
            have := nat_loop sa sb hB hC fb hk hc n (i + 1) (j + 1) (app acc (cons f (IntKind.i64.wrap (c + d)) nil)) (by omega) (by omega) (by omega) (by rw [nsnoc_len]; omega)
            rw [drop_succ hda, drop_succ hdb] at this
            refine this.trans ?_
            simp only [joinT, meetT]
            rw [if_neg q1, if_pos q2, join_above r l (falls_above f2.2), Int.add_comm d c]
            simp only [app_assoc]; rfl
          · rw [if_neg (by omega), if_pos (by omega), if_pos (by rw [rows_len]; omega), wid (n := 0 + d) (by omega) (by omega), show (0 : Int) + d = d by omega, nrows_snoc, wid (n := (j : Int) + 1) (by omega) (by omega)]
            have := nat_loop sa sb hB hC fb hk hc n i (j + 1) (app acc (cons f d nil)) hi (by omega) (by omega) (by rw [nsnoc_len]; omega)
            rw [drop_succ hdb, hda] at this
            refine this.trans ?_
            simp only [joinT, meetT]
            rw [if_neg q1, if_neg q2, join_above r _ (falls_above f2.2)]
            simp only [app_assoc]; rfl
theorem natural_eq {k : Nat} {a b : T} {B C : Int} (sa : sm C a) (sb : sm B b) (hB : 0 ≤ B ∧ B ≤ 1000000000000000) (hC : 0 ≤ C ∧ C ≤ 1000000000000000) (fb : falls none b) (hk : a.size + b.size + 3 < k) (hc : a.size + b.size + 2 ≤ cap) : impl_naturalSum k a.rows b.rows = some (joinT a b).rows := by
  have hla := a.len_size
  have hlb := b.len_size
  unfold impl_naturalSum
  have := nat_loop sa sb hB hC fb hk hc k 0 0 nil (by omega) (by omega) (by omega) (by simp [len])
  rw [drop_zero, drop_zero] at this
  exact this
end Go.Proofs.Try

namespace Go.Proofs.Try
open Go Go.AX T
def natT (a b : T) : T × Bool := if ordP a && ordP b then toldT (joinT a b) else (nil, false)
/-- A term times all terms, put in their places. -/
def rowX (e : T) (c : Int) : T → T → T
  | acc, nil => acc
  | acc, cons f d r => rowX e c (meetT (joinT e f) (w (c * d)) acc) r
def crossG (b : T) : T → T → T
  | acc, nil => acc
  | acc, cons e c l => crossG b (rowX e c acc b) l
def crossT (a b : T) : T := crossG b nil a
/-- Terms and exponents that are right and small. -/
def rtL : T → Prop
  | nil => True
  | cons e c l => (falls none e ∧ pos e ∧ sm 1000000 e ∧ e.size ≤ 30) ∧ (1 ≤ c ∧ c ≤ 1000000) ∧ rtL l
theorem form_rtL {p : Option T} {t : T} (h : formA p t = true) (hz : t.size ≤ 30) : rtL t := by
  induction t generalizing p with
  | nil => trivial
  | cons e c l _ ih =>
    simp only [size] at hz
    simp only [formA, Bool.and_eq_true, decide_eq_true_eq] at h
    exact ⟨⟨form_falls h.1.1.2, form_pos h.1.1.2, form_sm h.1.1.2, by omega⟩, h.1.1.1, ih h.2 (by omega)⟩
theorem join_exp {e f : T} (he : falls none e ∧ pos e ∧ sm 1000000 e ∧ e.size ≤ 30) (hf : falls none f ∧ pos f ∧ sm 1000000 f ∧ f.size ≤ 30) : falls none (joinT e f) ∧ pos (joinT e f) ∧ sm 1000000000000 (joinT e f) ∧ (joinT e f).size ≤ 60 := by
  have hl := f.len_size
  obtain ⟨q1, q2, q3, _⟩ := join_all f e 1000000 he.2.2.1 hf.2.2.1 (by omega) (by omega) (by omega) he.1 he.2.1 hf.2.1
  have := joinT_size e f
  exact ⟨q1, q2, sm_mono q3 (by omega), by omega⟩
theorem cd_in {c d : Int} (hc : 1 ≤ c ∧ c ≤ 1000000) (hd : 1 ≤ d ∧ d ≤ 1000000) : w (c * d) = c * d ∧ 1 ≤ c * d ∧ c * d ≤ 1000000000000 := by
  have h1 := mul_in (B := 1000000) (C := 1000000) (show 0 ≤ c ∧ c ≤ 1000000 by omega) (show 0 ≤ d ∧ d ≤ 1000000 by omega)
  have h2 : 1 * 1 ≤ c * d := Int.mul_le_mul hc.1 hd.1 (by omega) (by omega)
  exact ⟨wid (by omega) (by omega), by omega, by omega⟩
theorem rowX_all {e : T} {c : Int} (he : falls none e ∧ pos e ∧ sm 1000000 e ∧ e.size ≤ 30) (hc : 1 ≤ c ∧ c ≤ 1000000) : ∀ (t acc : T) (A : Int), rtL t → falls none acc → pos acc → sm A acc → 0 ≤ A → A + 1000000000000 * t.len ≤ 990000000000000 →
    falls none (rowX e c acc t) ∧ pos (rowX e c acc t) ∧ sm (A + 1000000000000 * t.len) (rowX e c acc t) ∧ (rowX e c acc t).size ≤ acc.size + 61 * t.len
  | nil, acc, A, _, fa, pa, sa, _, _ => ⟨fa, pa, sm_mono sa (by simp [len]), by simp [rowX, len]⟩
  | cons f d r, acc, A, ht, fa, pa, sa, h0, hA => by
    simp only [len] at hA
    obtain ⟨j1, j2, j3, j4⟩ := join_exp he ht.1
    obtain ⟨w1, w2, w3⟩ := cd_in hc ht.2.1
    have hm := meetT_size (joinT e f) (w (c * d)) acc
    have hw : ∀ y g l l', acc = app l (cons y g l') → w (w (c * d) + g) = w (c * d) + g := fun y g l l' hq => by
      have := sm_at sa hq
      exact wid (by omega) (by omega)
    obtain ⟨q1, q2, q3, q4⟩ := rowX_all he hc r (meetT (joinT e f) (w (c * d)) acc) (A + 1000000000000) ht.2.2 (falls_meet fa fun q hq => by cases hq) (meetT_pos pa (by omega) hw) (meetT_sm sa j3 (by omega) (by omega)) (by omega) (by omega)
    simp only [rowX, len]
    exact ⟨q1, q2, sm_mono q3 (by omega), by omega⟩
def natP (a b : T) : T × Bool := if ordP a && ordP b then toldT (crossT a b) else (nil, false)
theorem cross_ok {a b : T} (ha : ordP a = true) (hb : ordP b = true) : falls none (crossT a b) ∧ pos (crossT a b) ∧ sm 950000000000000 (crossT a b) ∧ (crossT a b).size ≤ 90000 := by
  have za := ordP_size ha
  have zb := ordP_size hb
  have la := a.len_size
  have lb := b.len_size
  have key : ∀ (t acc : T) (A : Int), rtL t → falls none acc → pos acc → sm A acc → 0 ≤ A → A + 30000000000000 * t.len ≤ 950000000000000 → acc.size + 1830 * t.len ≤ 90000 → falls none (crossG b acc t) ∧ pos (crossG b acc t) ∧ sm 950000000000000 (crossG b acc t) ∧ (crossG b acc t).size ≤ 90000 := by
    intro t
    induction t with
    | nil => intro acc A _ fa pa sa _ hA hz; exact ⟨fa, pa, sm_mono sa (by simp only [len] at hA; omega), by simp only [len] at hz; exact hz⟩
    | cons e c l _ ih =>
      intro acc A ht fa pa sa h0 hA hz
      simp only [len] at hA hz
      obtain ⟨q1, q2, q3, q4⟩ := rowX_all ht.1 ht.2.1 b acc A (form_rtL (ordP_form hb) zb) fa pa sa h0 (by omega)
      exact ih (rowX e c acc b) (A + 30000000000000) ht.2.2 q1 q2 (sm_mono q3 (by omega)) (by omega) (by omega) (by omega)
  exact key a nil 0 (form_rtL (ordP_form ha) za) trivial trivial trivial (by omega) (by omega) (by simp only [size]; omega)
end Go.Proofs.Try

namespace Go.Proofs.Try
open Go Go.AX T
/-- The coefficients of a row of products. -/
def rs (e : T) (c : Int) : T → T → Int
  | nil, _ => 0
  | cons f d r, y => (if cmpT (joinT e f) y = 0 then c * d else 0) + rs e c r y
def cs (b : T) : T → T → Int
  | nil, _ => 0
  | cons e c l, y => rs e c b y + cs b l y
theorem rowX_coef {e : T} {c : Int} (he : falls none e ∧ pos e ∧ sm 1000000 e ∧ e.size ≤ 30) (hc : 1 ≤ c ∧ c ≤ 1000000) : ∀ (t acc : T) (A : Int), rtL t → sm A acc → 0 ≤ A → A + 1000000000000 * t.len ≤ 990000000000000 → ∀ y, coef (rowX e c acc t) y = coef acc y + rs e c t y
  | nil, acc, A, _, _, _, _, y => by simp [rowX, rs]
  | cons f d r, acc, A, ht, sa, h0, hA, y => by
    simp only [len] at hA
    obtain ⟨j1, j2, j3, j4⟩ := join_exp he ht.1
    obtain ⟨w1, w2, w3⟩ := cd_in hc ht.2.1
    have hw : ∀ y g l l', acc = app l (cons y g l') → w (w (c * d) + g) = w (c * d) + g := fun y g l l' hq => by
      have := sm_at sa hq
      exact wid (by omega) (by omega)
    have := rowX_coef he hc r (meetT (joinT e f) (w (c * d)) acc) (A + 1000000000000) ht.2.2 (meetT_sm sa j3 (by omega) (by omega)) (by omega) (by omega) y
    simp only [rowX, rs]
    rw [this, coef_meet hw, w1]; omega
theorem crossG_coef {b : T} (hb : rtL b) (zb : b.len ≤ 30) : ∀ (t acc : T) (A : Int), rtL t → falls none acc → pos acc → sm A acc → 0 ≤ A → A + 30000000000000 * t.len ≤ 950000000000000 → ∀ y, coef (crossG b acc t) y = coef acc y + cs b t y
  | nil, acc, A, _, _, _, _, _, _, y => by simp [crossG, cs]
  | cons e c l, acc, A, ht, fa, pa, sa, h0, hA, y => by
    simp only [len] at hA
    obtain ⟨q1, q2, q3, _⟩ := rowX_all ht.1 ht.2.1 b acc A hb fa pa sa h0 (by omega)
    have h1 := crossG_coef hb zb l (rowX e c acc b) (A + 30000000000000) ht.2.2 q1 q2 (sm_mono q3 (by omega)) (by omega) (by omega) y
    have h2 := rowX_coef ht.1 ht.2.1 b acc A hb sa h0 (by omega) y
    simp only [crossG, cs]
    rw [h1, h2]; omega
theorem rtL_comm {e f : T} (he : falls none e ∧ pos e ∧ sm 1000000 e ∧ e.size ≤ 30) (hf : falls none f ∧ pos f ∧ sm 1000000 f ∧ f.size ≤ 30) : joinT e f = joinT f e := by
  have h1 := e.len_size
  have h2 := f.len_size
  exact join_comm (B := 1000000) he.2.2.1 hf.2.2.1 (by omega) (by omega) (by omega) he.1 hf.1 he.2.1 hf.2.1
theorem cs_split {e : T} {c : Int} (he : falls none e ∧ pos e ∧ sm 1000000 e ∧ e.size ≤ 30) (l : T) (y : T) : ∀ b : T, rtL b → cs (cons e c l) b y = rs e c b y + cs l b y
  | nil, _ => rfl
  | cons f d r, hb => by
    have ih := cs_split (c := c) he l y r hb.2.2
    simp only [cs, rs, ih, rtL_comm he hb.1, Int.mul_comm c d]
    omega
theorem cs_nil (y : T) : ∀ b : T, cs nil b y = 0
  | nil => rfl
  | cons f d r => by simp only [cs, rs, cs_nil y r]; rfl
theorem cs_comm (y : T) {b : T} (hb : rtL b) : ∀ a : T, rtL a → cs b a y = cs a b y
  | nil, _ => by rw [cs_nil]; rfl
  | cons e c l, ha => by
    rw [cs_split ha.1 l y b hb, ← cs_comm y hb l ha.2.2]; rfl
theorem cross_comm {a b : T} (ha : ordP a = true) (hb : ordP b = true) : crossT a b = crossT b a := by
  have za := ordP_size ha
  have zb := ordP_size hb
  have la := a.len_size
  have lb := b.len_size
  have ra := form_rtL (ordP_form ha) za
  have rb := form_rtL (ordP_form hb) zb
  obtain ⟨p1, p2, _, _⟩ := cross_ok ha hb
  obtain ⟨q1, q2, _, _⟩ := cross_ok hb ha
  refine eq_of_coef p1 q1 p2 q2 fun y => ?_
  unfold crossT
  rw [crossG_coef rb (by omega) a nil 0 ra trivial trivial trivial (by omega) (by omega) y, crossG_coef ra (by omega) b nil 0 rb trivial trivial trivial (by omega) (by omega) y, cs_comm y rb a ra]
/-! ### no less -/
theorem le_trans3 {a b c : T} (h1 : cmpT a b ≤ 0) (h2 : cmpT b c ≤ 0) : cmpT a c ≤ 0 := by
  have r1 := cmpT_range a b
  have r2 := cmpT_range b c
  by_cases q : cmpT a b = 0
  · obtain rfl := cmpT_eq.1 q; exact h2
  · by_cases q2 : cmpT b c = 0
    · obtain rfl := cmpT_eq.1 q2; exact h1
    · have := cmpT_trans (a := a) (b := b) (c := c) (by omega) (by omega); omega
/-- Where two differ first. -/
theorem diff_at {s : T} : ∀ {t : T} {p q : Option T}, falls p s → falls q t → pos s → pos t → cmpT s t < 0 → ∃ x, coef s x < coef t x ∧ ∀ y, 0 < cmpT y x → coef s y = coef t y := by
  induction s with
  | nil =>
    intro t p q _ ft _ pt h
    cases t with
    | nil => simp [cmpT] at h
    | cons f d m =>
      refine ⟨f, ?_, fun y hy => ?_⟩
      · rw [coef_head ft.2]; have := pt.1; simp only [coef]; omega
      · rw [coef_top ft.2 hy]; rfl
  | cons e c l _ ih =>
    intro t p q fs ft ps pt h
    cases t with
    | nil => simp [cmpT] at h
    | cons f d m =>
      simp only [cmpT] at h
      by_cases q0 : cmpT e f = 0
      · obtain rfl := cmpT_eq.1 q0
        rw [if_pos q0] at h
        by_cases q1 : cmpI c d = 0
        · rw [if_pos q1] at h
          obtain rfl := cmpI_eq.1 q1
          obtain ⟨x, h1, h2⟩ := ih fs.2 ft.2 ps.2 pt.2 h
          refine ⟨x, by simp only [coef]; omega, fun y hy => by have := h2 y hy; simp only [coef]; omega⟩
        · rw [if_neg q1] at h
          have hcd : c < d := by
            unfold cmpI at h
            split at h
            · assumption
            · split at h <;> omega
          refine ⟨e, by rw [coef_head fs.2, coef_head ft.2]; exact hcd, fun y hy => by rw [coef_top fs.2 hy, coef_top ft.2 hy]⟩
      · rw [if_neg q0] at h
        have hfe : 0 < cmpT f e := by rw [cmpT_neg e f]; omega
        refine ⟨f, ?_, fun y hy => ?_⟩
        · rw [coef_head ft.2, coef_top fs.2 hfe]; have := pt.1; omega
        · rw [coef_top ft.2 hy]
          refine coef_top fs.2 ?_
          have h1 : cmpT f y < 0 := by rw [cmpT_neg y f]; omega
          have := cmpT_trans h h1
          rw [cmpT_neg e y]; omega
/-- Falling terms above nothing, within a bound. -/
def gd (B : Int) (t : T) : Prop := falls none t ∧ pos t ∧ sm B t
theorem gd_meet {B C : Int} {t e : T} {c : Int} (h : gd B t) (he : sm C e) (hc : 1 ≤ c ∧ c ≤ C) (hB : 0 ≤ B ∧ 0 ≤ C ∧ B + C ≤ 1000000000000000) : gd (B + C) (meetT e c t) ∧ ∀ y, coef (meetT e c t) y = coef t y + (if cmpT e y = 0 then c else 0) := by
  have hw : ∀ y g l l', t = app l (cons y g l') → w (c + g) = c + g := fun y g l l' hq => by
    have := sm_at h.2.2 hq
    exact wid (by omega) (by omega)
  exact ⟨⟨falls_meet h.1 (fun q hq => by cases hq), meetT_pos h.2.1 hc.1 hw, meetT_sm h.2.2 he (by omega) hB⟩, fun y => coef_meet hw⟩
/-- The same term put into no less. -/
theorem meet_mono {B B' C C' : Int} {s t e f : T} {c d : Int} (hs : gd B s) (ht : gd B' t) (he : sm C e) (hf : sm C' f) (hc : 1 ≤ c ∧ c ≤ C) (hd : 1 ≤ d ∧ d ≤ C') (hB : 0 ≤ B ∧ 0 ≤ C ∧ B + C ≤ 1000000000000000) (hB' : 0 ≤ B' ∧ 0 ≤ C' ∧ B' + C' ≤ 1000000000000000) (h : cmpT s t ≤ 0) (hef : cmpT e f < 0 ∨ e = f ∧ c ≤ d) : cmpT (meetT e c s) (meetT f d t) ≤ 0 := by
  obtain ⟨⟨a1, a2, a3⟩, k1⟩ := gd_meet hs he hc hB
  obtain ⟨⟨b1, b2, b3⟩, k2⟩ := gd_meet ht hf hd hB'
  have hr := cmpT_range s t
  -- first the same place
  have key : ∀ x, coef s x < coef t x ∨ s = t → (∀ y, 0 < cmpT y x → coef s y = coef t y) → cmpT (meetT e c s) (meetT f d t) ≤ 0 := by
    intro x hx hy
    rcases hef with hlt | ⟨rfl, hcd⟩
    · -- e < f: look at the greater of f and x
      by_cases hxf : 0 < cmpT x f
      · by_cases hst : s = t
        · subst hst
          refine Int.le_of_lt (cmp_of_coef (x := f) a1 b1 a2 b2 ?_ fun y h1 => ?_)
          · rw [k1, k2, if_neg (by omega), cmpT_refl, if_pos rfl]; omega
          · have h2 : ¬ cmpT f y = 0 := fun q => by rw [cmpT_eq.1 q, cmpT_refl] at h1; omega
            have h3 : ¬ cmpT e y = 0 := fun q => by rw [← cmpT_eq.1 q] at h1; omega
            rw [k1, k2, if_neg h2, if_neg h3]
        · have hx := hx.resolve_right hst
          refine Int.le_of_lt (cmp_of_coef (x := x) a1 b1 a2 b2 ?_ fun y h1 => ?_)
          · have h2 : ¬ cmpT f x = 0 := fun q => by rw [cmpT_eq.1 q, cmpT_refl] at hxf; omega
            have h3 : ¬ cmpT e x = 0 := fun q => by rw [← cmpT_eq.1 q] at hxf; omega
            rw [k1, k2, if_neg h2, if_neg h3]; omega
          · have hyf : 0 < cmpT y f := by
              have z1 : cmpT f x < 0 := by rw [cmpT_neg x f]; omega
              have z2 : cmpT x y < 0 := by rw [cmpT_neg y x]; omega
              have := cmpT_trans z1 z2
              rw [cmpT_neg f y]; omega
            have h2 : ¬ cmpT f y = 0 := fun q => by rw [cmpT_eq.1 q, cmpT_refl] at hyf; omega
            have h3 : ¬ cmpT e y = 0 := fun q => by rw [← cmpT_eq.1 q] at hyf; omega
            rw [k1, k2, if_neg h2, if_neg h3, hy y h1]
      · refine Int.le_of_lt (cmp_of_coef (x := f) a1 b1 a2 b2 ?_ fun y h1 => ?_)
        · have hge : coef s f ≤ coef t f := by
            by_cases q : cmpT x f = 0
            · obtain rfl := cmpT_eq.1 q
              rcases hx with hx | rfl
              · omega
              · exact Int.le_refl _
            · have : 0 < cmpT f x := by rw [cmpT_neg x f]; have := cmpT_range x f; omega
              rw [hy f this]; exact Int.le_refl _
          rw [k1, k2, if_neg (by omega), cmpT_refl, if_pos rfl]; omega
        · have h2 : ¬ cmpT f y = 0 := fun q => by rw [cmpT_eq.1 q, cmpT_refl] at h1; omega
          have h3 : ¬ cmpT e y = 0 := fun q => by rw [← cmpT_eq.1 q] at h1; omega
          have hyx : 0 < cmpT y x := by
            by_cases q : cmpT x f = 0
            · obtain rfl := cmpT_eq.1 q; exact h1
            · have z1 : cmpT x f < 0 := by have := cmpT_range x f; omega
              have z2 : cmpT f y < 0 := by rw [cmpT_neg y f]; omega
              have := cmpT_trans z1 z2
              rw [cmpT_neg x y]; omega
          rw [k1, k2, if_neg h2, if_neg h3, hy y hyx]
    · -- the same exponent
      by_cases hst : s = t
      · subst hst
        by_cases hcd2 : c = d
        · subst hcd2; rw [cmpT_refl]; exact Int.le_refl _
        · refine Int.le_of_lt (cmp_of_coef (x := e) a1 b1 a2 b2 ?_ fun y h1 => ?_)
          · rw [k1, k2, cmpT_refl, if_pos rfl, if_pos rfl]; omega
          · have h2 : ¬ cmpT e y = 0 := fun q => by rw [cmpT_eq.1 q, cmpT_refl] at h1; omega
            rw [k1, k2, if_neg h2, if_neg h2]
      · have hx := hx.resolve_right hst
        by_cases hex : 0 < cmpT e x
        · by_cases hcd2 : c = d
          · subst hcd2
            refine Int.le_of_lt (cmp_of_coef (x := x) a1 b1 a2 b2 ?_ fun y h1 => ?_)
            · rw [k1, k2]; omega
            · rw [k1, k2, hy y h1]
          · refine Int.le_of_lt (cmp_of_coef (x := e) a1 b1 a2 b2 ?_ fun y h1 => ?_)
            · rw [k1, k2, cmpT_refl, if_pos rfl, if_pos rfl, hy e hex]; omega
            · have hyx : 0 < cmpT y x := by
                have z1 : cmpT x e < 0 := by rw [cmpT_neg e x]; omega
                have z2 : cmpT e y < 0 := by rw [cmpT_neg y e]; omega
                have := cmpT_trans z1 z2
                rw [cmpT_neg x y]; omega
              have h2 : ¬ cmpT e y = 0 := fun q => by rw [cmpT_eq.1 q, cmpT_refl] at h1; omega
              rw [k1, k2, if_neg h2, if_neg h2, hy y hyx]
        · refine Int.le_of_lt (cmp_of_coef (x := x) a1 b1 a2 b2 ?_ fun y h1 => ?_)
          · rw [k1, k2]; split <;> omega
          · have h2 : ¬ cmpT e y = 0 := fun q => by rw [cmpT_eq.1 q] at hex; omega
            rw [k1, k2, if_neg h2, if_neg h2, hy y h1]
  by_cases q : cmpT s t = 0
  · exact key nil (.inr (cmpT_eq.1 q)) fun y _ => by rw [cmpT_eq.1 q]
  · obtain ⟨x, h1, h2⟩ := diff_at hs.1 ht.1 hs.2.1 ht.2.1 (by omega)
    exact key x (.inl h1) h2
end Go.Proofs.Try

namespace Go.Proofs.Try
open Go Go.AX T
def bytes (x : Rw) : Prop := ∀ r ∈ x, ∃ b : Int, r = [.int .u8 b] ∧ 0 ≤ b ∧ b < 256
/-- A drawn value: its place moves on by at most n. -/
def Drew {α : Type} (x : Rw) (a n : Int) (r : Option (α × Rw × Int × Int)) (Q : α → Prop) : Prop :=
  ∃ v a' c', r = some (v, x, a', c') ∧ 0 ≤ a' ∧ a' ≤ a + n ∧ Q v
theorem Drew.mono {α : Type} {x : Rw} {a n m : Int} {r : Option (α × Rw × Int × Int)} {Q : α → Prop} (h : Drew x a n r Q) (hn : n ≤ m) : Drew x a m r Q := by
  obtain ⟨v, a', c', e, h1, h2, h3⟩ := h
  exact ⟨v, a', c', e, h1, by omega, h3⟩
theorem Drew.bind {α β : Type} {x : Rw} {a n m : Int} {r : Option (α × Rw × Int × Int)} {Q : α → Prop} {S : β → Prop} {F : α × Rw × Int × Int → Option (β × Rw × Int × Int)} (h : Drew x a n r Q)
    (hF : ∀ v a' c', 0 ≤ a' → a' ≤ a + n → Q v → Drew x a' m (F (v, x, a', c')) S) : Drew x a (n + m) (r.bind F) S := by
  obtain ⟨v, a', c', e, h1, h2, h3⟩ := h
  obtain ⟨u, a2, c2, e2, q1, q2, q3⟩ := hF v a' c' h1 h2 h3
  exact ⟨u, a2, c2, by rw [e, Option.bind_some, e2], q1, by omega, q3⟩
theorem and255 (n : Nat) (b : BitVec n) : (b &&& BitVec.ofInt n 255).toNat ≤ 255 := by
  rw [BitVec.toNat_and]
  refine Nat.le_trans Nat.and_le_right ?_
  rw [BitVec.toNat_ofInt]
  show (((255 : Nat) : Int) % ((2 ^ n : Nat) : Int)).toNat ≤ 255
  rw [← Int.natCast_emod, Int.toNat_natCast]
  exact Nat.mod_le _ _
theorem next_ok {x : Rw} {a c : Int} (hx : bytes x) (h0 : 0 ≤ a) (h1 : a ≤ 1000000000) : Drew x a 1 (spec_l1Cur_next x a c) (fun v => 0 ≤ v ∧ v < 256) := by
  have e1 : IntKind.i64.wrap (a + 1) = a + 1 := wid (by omega) (by omega)
  have big : ∀ b : BitVec (IntKind.u64).bits, 0 ≤ IntKind.i64.wrap (IntKind.u64.wrap (b &&& BitVec.ofInt (IntKind.u64).bits 255).toNat) ∧ IntKind.i64.wrap (IntKind.u64.wrap (b &&& BitVec.ofInt (IntKind.u64).bits 255).toNat) < 256 := by
    intro b
    have := and255 _ b
    generalize (b &&& BitVec.ofInt (IntKind.u64).bits 255).toNat = n at *
    have e2 : IntKind.u64.wrap (n : Int) = n := by
      show ((n : Int)) % 18446744073709551616 = n
      omega
    rw [e2, wid (by omega) (by omega)]; omega
  unfold spec_l1Cur_next
  rw [e1]
  by_cases g : a < (x.length : Int)
  · rw [if_pos g]
    obtain ⟨n, rfl⟩ : ∃ n : Nat, a = n := ⟨a.toNat, by omega⟩
    have hn : n < x.length := by omega
    obtain ⟨b, hb, hb0, hb1⟩ := hx x[n] (List.getElem_mem hn)
    have e3 : ∀ {α : Type} (K : Int → Option α), row_iu8 x (n : Int) K = K b := by
      intro α K
      unfold row_iu8
      rw [if_pos (by omega), Int.toNat_natCast, List.getElem?_eq_getElem hn, hb]
      rfl
    rw [e3, if_pos (by omega)]
    exact ⟨_, _, _, rfl, by omega, by omega, by rw [wid (by omega) (by omega)]; omega⟩
  · rw [if_neg g]
    split
    · exact ⟨_, _, _, rfl, by omega, by omega, by omega⟩
    · exact ⟨_, _, _, rfl, by omega, by omega, big _⟩
theorem pick_ok {x : Rw} {a c m : Int} (hx : bytes x) (h0 : 0 ≤ a) (h1 : a ≤ 100000000) (hm : 1 ≤ m) : Drew x a 2 (spec_l1Cur_pick x a c m) (fun v => 0 ≤ v ∧ v < m) := by
  unfold spec_l1Cur_pick
  by_cases g : m ≤ 1
  · rw [if_pos g]; exact ⟨_, _, _, rfl, h0, by omega, by omega⟩
  · rw [if_neg g]
    refine Drew.bind (n := 1) (m := 1) (next_ok hx h0 (by omega)) fun v a' c' q1 q2 q3 => ?_
    have tm : ∀ u : Int, 0 ≤ u → 0 ≤ u.tmod m ∧ u.tmod m < m := fun u hu => ⟨Int.tmod_nonneg _ hu, Int.tmod_lt_of_pos _ (by omega)⟩
    by_cases g2 : 200 < m
    · rw [if_pos g2]
      refine Drew.mono (Drew.bind (n := 1) (m := 0) (next_ok hx q1 (by omega)) fun v2 a2 c2 p1 p2 p3 => ?_) (by omega)
      rw [if_pos (by omega)]
      refine ⟨_, a2, _, rfl, p1, by omega, tm _ ?_⟩
      have e1 : IntKind.i64.wrap (v * 256) = v * 256 := wid (by omega) (by omega)
      show 0 ≤ IntKind.i64.wrap (IntKind.i64.wrap (v * 256) + v2)
      rw [e1, wid (by omega) (by omega)]; omega
    · rw [if_neg g2, if_pos (by omega)]
      exact ⟨_, a', _, rfl, q1, by omega, tm _ q3.1⟩
theorem one_ok {x : Rw} {a c m : Int} (hx : bytes x) (h0 : 0 ≤ a) (h1 : a ≤ 100000000) (hm : 1 ≤ m) : Drew x a 2 (spec_l1Cur_one x a c m) (fun _ => True) := by
  unfold spec_l1Cur_one
  refine Drew.mono (Drew.bind (n := 2) (m := 0) (pick_ok hx h0 h1 hm) fun v a' c' q1 q2 q3 => ?_) (by omega)
  split <;> exact ⟨_, a', _, rfl, q1, by omega, trivial⟩
/-- What meet has yet to add. -/
def due (f : Bool) (e : T) : Nat := cond f 0 (e.size + 1)
theorem meet_loop {k : Nat} {a e : T} {c C D : Int} {K : Rw → Bool → Option Rw} (he : sm D e) (hc : -D ≤ c ∧ c ≤ D) (hC : 0 ≤ C ∧ 0 ≤ D ∧ C + D ≤ 1000000000000) :
    ∀ (t acc : T) (f : Bool), acc.size + t.size + due f e < k → acc.size + t.size + due f e ≤ cap → sm C t → sm (C + D) acc →
      ∃ r f', spec_odMeet_l0 k a.rows e.rows c K t.rows f acc.rows = K r.rows f' ∧ r.size + due f' e ≤ acc.size + t.size + due f e ∧ sm (C + D) r
  | nil, acc, f, hk, hcap, st, sa => by
    refine ⟨acc, f, ?_, by simp [size], sa⟩
    simp only [rows, spec_odMeet_l0]
    cases f <;> rfl
  | cons x d t, acc, f, hk, hcap, st, sa => by
    have h3 : cap = 1099511627776 := rfl
    obtain ⟨s1, s2, s3⟩ := st
    have hl := acc.len_size
    simp only [size] at hk hcap ⊢
    have hz : ∀ (l y : T) (b : Int), (app l (cons y b nil)).size = l.size + y.size + 1 := fun l y b => by rw [size_app]; simp [size]; omega
    have hs : ∀ (l y : T) (b : Int), sm (C + D) l → sm (C + D) y → (-(C + D) ≤ b ∧ b ≤ C + D) → sm (C + D) (app l (cons y b nil)) := fun l y b h1 h2 h3 => sm_app.2 ⟨h1, h2, h3, trivial⟩
    have hx := sm_mono s1 (show C ≤ C + D by omega)
    have hE := sm_mono he (show D ≤ C + D by omega)
    have qx := sm_calm s1 (by omega)
    have qe := sm_calm he (by omega)
    cases f with
    | true =>
      simp only [due, cond] at hk hcap ⊢
      obtain ⟨r, f', q1, q2, q3⟩ := meet_loop (k := k) (a := a) (K := K) he hc hC t (app acc (cons x d nil)) true (by rw [hz]; simp only [due, cond]; omega) (by rw [hz]; simp only [due, cond]; omega) s3 (hs _ _ _ sa hx (by omega))
      rw [hz] at q2
      simp only [due, cond] at q2
      refine ⟨r, f', ?_, by simp only at *; omega, q3⟩
      rw [← q1]
      simp only [rows, spec_odMeet_l0, cond, cell_T]
      rw [odCmp_eq k x e qx qe (by omega) (by omega), Option.bind_some, if_pos (by rw [rows_len]; omega), snocRows]
    | false =>
      simp only [due, cond] at hk hcap ⊢
      by_cases g : cmpT x e ≤ 0
      · by_cases g0 : cmpT x e = 0
        · obtain rfl := cmpT_eq.1 g0
          have e2 : IntKind.i64.wrap (c + d) = c + d := wid (by omega) (by omega)
          obtain ⟨r, f', q1, q2, q3⟩ := meet_loop (k := k) (a := a) (K := K) he hc hC t (app acc (cons x (IntKind.i64.wrap (c + d)) nil)) true (by rw [hz]; simp only [due, cond]; omega) (by rw [hz]; simp only [due, cond]; omega) s3 (hs _ _ _ sa hx (by rw [e2]; omega))
          rw [hz] at q2
          simp only [due, cond] at q2
          refine ⟨r, f', ?_, by simp only at *; omega, q3⟩
          rw [← q1]
          simp only [rows, spec_odMeet_l0, cond, cell_T]
          rw [odCmp_eq k x x qx qe (by omega) (by omega), Option.bind_some, if_pos g, if_pos g0, if_pos (by rw [rows_len]; omega), snocRows]
        · obtain ⟨r, f', q1, q2, q3⟩ := meet_loop (k := k) (a := a) (K := K) he hc hC t (app (app acc (cons e c nil)) (cons x d nil)) true (by rw [hz, hz]; simp only [due, cond]; omega) (by rw [hz, hz]; simp only [due, cond]; omega) s3 (hs _ _ _ (hs _ _ _ sa hE (by omega)) hx (by omega))
          rw [hz, hz] at q2
          simp only [due, cond] at q2
          refine ⟨r, f', ?_, by simp only at *; omega, q3⟩
          rw [← q1]
          simp only [rows, spec_odMeet_l0, cond, cell_T]
          have hll : (acc.rows ++ [[Go.AX.D.sl e.rows, Go.AX.D.int .i64 c]]).length + 1 ≤ cap := by rw [List.length_append, rows_len]; simp only [List.length_cons, List.length_nil]; omega
          rw [odCmp_eq k x e qx qe (by omega) (by omega), Option.bind_some, if_pos g, if_neg g0, if_pos (by rw [rows_len]; omega), if_pos hll, snocRows, snocRows]
      · obtain ⟨r, f', q1, q2, q3⟩ := meet_loop (k := k) (a := a) (K := K) he hc hC t (app acc (cons x d nil)) false (by rw [hz]; simp only [due, cond]; omega) (by rw [hz]; simp only [due, cond]; omega) s3 (hs _ _ _ sa hx (by omega))
        rw [hz] at q2
        simp only [due, cond] at q2
        refine ⟨r, f', ?_, by simp only at *; omega, q3⟩
        rw [← q1]
        simp only [rows, spec_odMeet_l0, cond, cell_T]
        rw [odCmp_eq k x e qx qe (by omega) (by omega), Option.bind_some, if_neg g, if_pos (by rw [rows_len]; omega), snocRows]
theorem meet_ok {k : Nat} {t e : T} {c C D : Int} (he : sm D e) (hc : -D ≤ c ∧ c ≤ D) (hC : 0 ≤ C ∧ 0 ≤ D ∧ C + D ≤ 1000000000000) (hk : t.size + e.size + 1 < k) (hcap : t.size + e.size + 1 ≤ cap) (st : sm C t) :
    ∃ r : T, spec_odMeet k t.rows e.rows c = some r.rows ∧ r.size ≤ t.size + e.size + 1 ∧ sm (C + D) r := by
  have hl := t.len_size
  unfold spec_odMeet
  rw [if_pos (by rw [rows_len]; omega)]
  obtain ⟨r, f, q1, q2, q3⟩ := meet_loop (k := k) (a := t) (K := fun (v91 : Rw) (v100 : Bool) => (cond v100 (spec_odMeet_p4 e.rows c v91 true) (spec_odMeet_p4 e.rows c v91 false))) he hc hC t nil false (by simp only [due, cond, size]; omega) (by simp only [due, cond, size]; omega) st trivial
  have q1' : spec_odMeet_l0 k t.rows e.rows c (fun (v91 : Rw) (v100 : Bool) => (cond v100 (spec_odMeet_p4 e.rows c v91 true) (spec_odMeet_p4 e.rows c v91 false))) t.rows false [] = _ := q1
  rw [q1']
  simp only [due, cond, size] at q2
  cases f with
  | true => exact ⟨r, rfl, by simp only at q2; omega, q3⟩
  | false =>
    simp only at q2
    have hr := r.len_size
    refine ⟨app r (cons e c nil), ?_, by rw [size_app]; simp only [size]; omega, sm_app.2 ⟨q3, sm_mono he (by omega), by omega, trivial⟩⟩
    show (if r.rows.length + 1 ≤ cap then _ else _) = _
    rw [if_pos (by rw [rows_len]; omega), snocRows]
end Go.Proofs.Try

namespace Go.Proofs.Try
open Go Go.AX
/-- A row of whole numbers. -/
def iR (l : List Int) : Rw := l.map fun n => [D.int .i64 n]
@[simp] theorem iR_len (l : List Int) : (iR l).length = l.length := List.length_map _
@[simp] theorem iR_nil : iR [] = [] := rfl
@[simp] theorem iR_cons (n : Int) (l : List Int) : iR (n :: l) = [D.int .i64 n] :: iR l := rfl
theorem iR_app (a b : List Int) : iR (a ++ b) = iR a ++ iR b := List.map_append
theorem iR_snoc (a : List Int) (n : Int) : iR a ++ [[D.int .i64 n]] = iR (a ++ [n]) := by rw [iR_app]; rfl
theorem iR_take (a : List Int) (n : Nat) : (iR a).take n = iR (a.take n) := by simp [iR, List.map_take]
theorem iR_wide (l : List Int) : ∀ cs ∈ iR l, cs.length = 1 := by
  intro cs h
  obtain ⟨n, _, rfl⟩ := List.mem_map.1 h
  rfl
theorem row_iR {α : Type} {l : List Int} {i : Int} {n : Nat} {p : Int} (hi : i = n) (h : l[n]? = some p) (K : Int → Option α) : row_i (iR l) i K = K p := by
  subst hi
  have : (iR l)[n]? = some [D.int .i64 p] := by simp [iR, h]
  unfold row_i
  rw [if_pos (by omega), Int.toNat_natCast, this]
  rfl
/-- A forest: the first tree's own forest, and the other trees. -/
inductive Fo where
  | nil
  | cons (a b : Fo)
namespace Fo
def size : Fo → Nat
  | nil => 0
  | cons a b => a.size + b.size + 1
/-- The parents of a forest's nodes, numbered from s on, under p. -/
def fl : Fo → Int → Nat → List Int
  | nil, _, _ => []
  | cons a b, p, s => p :: (a.fl s (s + 1) ++ b.fl p (s + 1 + a.size))
@[simp] theorem fl_len (f : Fo) (p : Int) (s : Nat) : (f.fl p s).length = f.size := by
  induction f generalizing p s with
  | nil => rfl
  | cons a b iha ihb => simp [fl, size, iha, ihb]
/-- Forests under the nodes of a path. -/
def FL : List Fo → List Nat → Nat → List Int
  | a :: fs, q :: st, i => a.fl q i ++ FL fs st (i + a.size)
  | _, _, _ => []
end Fo
open Fo
/-- A hydra's list of parents. -/
def hy (f : Fo) : List Int := -1 :: f.fl 0 1
@[simp] theorem hy_len (f : Fo) : (hy f).length = f.size + 1 := by simp [hy]
/-- Is the rest right, where the path to the last node is st, deepest first? -/
def goS : List Int → Nat → List Nat → Bool
  | [], _, _ => true
  | p :: rest, i, st => match st.dropWhile (fun q : Nat => decide ((q : Int) ≠ p)) with
    | [] => false
    | q :: s => goS rest (i + 1) (i :: q :: s)
def hyB (ps : List Int) : Bool := (match ps with | p :: rest => decide (p = -1) && goS rest 1 [0] | [] => false) && decide (ps.length ≤ 40)
theorem FL_nils (st : List Nat) : ∀ i, FL (st.map fun _ => Fo.nil) st i = [] := by
  induction st with
  | nil => intro i; rfl
  | cons q st ih => intro i; simp [FL, fl, ih]
theorem goS_ex : ∀ (rest : List Int) (i : Nat) (st : List Nat), goS rest i st = true → ∃ fs : List Fo, fs.length = st.length ∧ rest = FL fs st i := by
  intro rest
  induction rest with
  | nil => intro i st _; exact ⟨st.map fun _ => Fo.nil, by simp, (FL_nils st i).symm⟩
  | cons p rest ih =>
    intro i st
    induction st with
    | nil => intro h; cases h
    | cons q st ihs =>
      intro h
      unfold goS at h
      rw [List.dropWhile_cons] at h
      by_cases hq : (q : Int) = p
      · rw [if_neg (by simp [hq])] at h
        obtain ⟨fs, hl, hr⟩ := ih _ _ h
        match fs, hl with
        | a :: b :: fs, hl =>
          refine ⟨Fo.cons a b :: fs, by simpa using hl, ?_⟩
          simp only [FL, fl, size] at hr ⊢
          subst hq
          rw [hr, List.cons_append, List.append_assoc]
          simp only [Nat.add_assoc, Nat.add_comm, Nat.add_left_comm]
      · rw [if_pos (by simp [hq])] at h
        obtain ⟨fs, hl, hr⟩ := ihs (by unfold goS; exact h)
        exact ⟨Fo.nil :: fs, by simpa using hl, by simpa [FL, fl, size] using hr⟩
theorem hyB_ex {ps : List Int} (h : hyB ps = true) : ∃ f, ps = hy f ∧ f.size ≤ 39 := by
  unfold hyB at h
  rw [Bool.and_eq_true] at h
  obtain ⟨h1, h2⟩ := h
  have h2 := of_decide_eq_true h2
  cases ps with
  | nil => cases h1
  | cons p rest =>
    simp only [Bool.and_eq_true, decide_eq_true_eq] at h1
    obtain ⟨rfl, h1⟩ := h1
    obtain ⟨fs, hl, hr⟩ := goS_ex _ _ _ h1
    match fs, hl with
    | [a], _ =>
      simp only [FL, List.append_nil] at hr
      subst hr
      refine ⟨a, rfl, ?_⟩
      simp at h2
      omega
theorem path_drop {l : List Nat} {q : Nat} {st : List Nat} (h : ∀ x ∈ l, x ≠ q) : (l ++ q :: st).dropWhile (fun x : Nat => decide ((x : Int) ≠ (q : Int))) = q :: st := by
  induction l with
  | nil => simp
  | cons x l ih =>
    have := h x List.mem_cons_self
    rw [List.cons_append, List.dropWhile_cons, if_pos (by simp; omega)]
    exact ih fun y hy => h y (List.mem_cons_of_mem _ hy)
theorem goS_fl : ∀ (a : Fo) (q i : Nat) (more : List Int) (l st : List Nat), q < i → (∀ x ∈ l, x ≠ q) → ∃ l', (∀ x ∈ l', x ∈ l ∨ i ≤ x) ∧ goS (a.fl q i ++ more) i (l ++ q :: st) = goS more (i + a.size) (l' ++ q :: st) := by
  intro a
  induction a with
  | nil => intro q i more l st _ hl; exact ⟨l, fun x h => .inl h, rfl⟩
  | cons a b iha ihb =>
    intro q i more l st hq hl
    have e : goS ((Fo.cons a b).fl q i ++ more) i (l ++ q :: st) = goS (a.fl i (i + 1) ++ (b.fl q (i + 1 + a.size) ++ more)) (i + 1) ([] ++ i :: (q :: st)) := by
      conv => lhs; rw [fl, List.cons_append, goS]
      rw [path_drop hl, List.append_assoc]
      rfl
    obtain ⟨l1, h1, e1⟩ := iha i (i + 1) (b.fl q (i + 1 + a.size) ++ more) [] (q :: st) (by omega) (fun x h => by cases h)
    have h1 : ∀ x ∈ l1, i + 1 ≤ x := fun x hx => (h1 x hx).elim (fun h => by cases h) id
    obtain ⟨l2, h2, e2⟩ := ihb q (i + 1 + a.size) more (l1 ++ [i]) st (by omega) (by
      intro x hx
      rcases List.mem_append.1 hx with h | h
      · have := h1 x h; omega
      · have := List.mem_singleton.1 h; omega)
    refine ⟨l2, fun x hx => .inr ?_, ?_⟩
    · rcases h2 x hx with h | h
      · rcases List.mem_append.1 h with h | h
        · have := h1 x h; omega
        · have := List.mem_singleton.1 h; omega
      · omega
    · rw [e, e1, show l1 ++ i :: (q :: st) = (l1 ++ [i]) ++ q :: st by simp, e2]
      simp only [size]
      rw [show i + 1 + a.size + b.size = i + (a.size + b.size + 1) by omega]
theorem hyB_hy {f : Fo} (h : f.size ≤ 39) : hyB (hy f) = true := by
  unfold hyB
  rw [hy_len, decide_eq_true (by omega : f.size + 1 ≤ 40), Bool.and_true]
  simp only [hy, decide_true, Bool.true_and]
  obtain ⟨l, _, e⟩ := goS_fl f 0 1 [] [] [] (by omega) (fun x h => by cases h)
  rw [List.append_nil] at e
  exact e.trans (by simp [goS])
end Go.Proofs.Try

namespace Go.Proofs.Try
open Go Go.AX Fo
theorem index_lp {a : Rw} {x : Int} {K : Option Int} : ∀ (l : List Int) (n : Nat), slices_Index_l0 a x K (iR l) n = match l.findIdx? (fun y => decide (y = x)) with | some i => some ((n + i : Nat) : Int) | none => K := by
  intro l
  induction l with
  | nil => intro n; rfl
  | cons y l ih =>
    intro n
    rw [iR_cons, slices_Index_l0]
    simp only [cell_i, List.findIdx?_cons]
    by_cases h : x = y
    · rw [if_pos h]
      simp [h]
    · rw [if_neg h, ih]
      have : ¬ y = x := fun e => h e.symm
      simp only [this, decide_false, Bool.false_eq_true, if_false]
      cases List.findIdx? (fun y => decide (y = x)) l with
      | none => rfl
      | some i => simp; omega
theorem index_eq {l : List Int} (hl : l.length ≤ cap) (x : Int) : slices_Index (iR l) x = some (match l.findIdx? (fun y => decide (y = x)) with | some i => (i : Int) | none => -1) := by
  unfold slices_Index
  rw [iR_len, if_pos hl, index_lp]
  cases List.findIdx? (fun y => decide (y = x)) l with
  | none => rfl
  | some i => simp
theorem in_eq (a b c : Int) : impl_in a b c = some (decide (b ≤ a ∧ a ≤ c)) := by
  unfold impl_in
  by_cases h : b ≤ a <;> by_cases g : a ≤ c <;> simp [h, g]
/-- A path, deepest first, seen as the program's row. -/
def pI (st : List Nat) : List Int := st.reverse.map fun q : Nat => (q : Int)
theorem path_split {p : Int} : ∀ {st : List Nat}, st.Nodup → (st.dropWhile (fun q : Nat => decide ((q : Int) ≠ p)) = [] → ∀ q ∈ st, (q : Int) ≠ p) ∧ ∀ q s, st.dropWhile (fun q : Nat => decide ((q : Int) ≠ p)) = q :: s → (q : Int) = p ∧ ∃ l, st = l ++ q :: s ∧ (∀ x ∈ l, (x : Int) ≠ p) ∧ ∀ x ∈ s, (x : Int) ≠ p := by
  intro st
  induction st with
  | nil => intro _; exact ⟨(by intro _ q h; cases h), by intro q s h; cases h⟩
  | cons a st ih =>
    intro hn
    rw [List.nodup_cons] at hn
    obtain ⟨i1, i2⟩ := ih hn.2
    rw [List.dropWhile_cons]
    by_cases h : (a : Int) = p
    · rw [if_neg (by simp [h])]
      refine ⟨(by intro e; cases e), ?_⟩
      intro q s e
      obtain ⟨rfl, rfl⟩ := List.cons.inj e
      refine ⟨h, [], rfl, (by intro x hx; cases hx), ?_⟩
      intro x hx e2
      have : x = a := by omega
      subst this
      exact hn.1 hx
    · rw [if_pos (by simp [h])]
      refine ⟨?_, ?_⟩
      · intro e q hq
        rcases List.mem_cons.1 hq with rfl | hq
        · exact h
        · exact i1 e q hq
      · intro q s e
        obtain ⟨h1, l, h2, h3, h4⟩ := i2 q s e
        refine ⟨h1, a :: l, by rw [h2]; rfl, ?_, h4⟩
        intro x hx
        rcases List.mem_cons.1 hx with rfl | hx
        · exact h
        · exact h3 x hx
theorem find_none {l : List Int} {x : Int} (h : ∀ y ∈ l, y ≠ x) : l.findIdx? (fun y => decide (y = x)) = none := by
  rw [List.findIdx?_eq_none_iff]
  intro y hy
  simp [h y hy]
theorem find_some {a b : List Int} {x : Int} (h : ∀ y ∈ a, y ≠ x) : (a ++ x :: b).findIdx? (fun y => decide (y = x)) = some a.length := by
  induction a with
  | nil => rw [List.nil_append, List.findIdx?_cons, if_pos (decide_eq_true rfl)]; rfl
  | cons y a ih =>
    have := h y List.mem_cons_self
    rw [List.cons_append, List.findIdx?_cons]
    simp only [this, decide_false, Bool.false_eq_true, if_false]
    rw [ih fun z hz => h z (List.mem_cons_of_mem _ hz)]
    simp
theorem isHydra_lp {ps : List Int} (hl : ps.length ≤ 40) : ∀ (rest : List Int) (i n : Nat) (st : List Nat), ps.drop i = rest → i ≤ ps.length → rest.length < n → st.Nodup → st.length ≤ i → (∀ x ∈ st, x < i) → impl_IsHydra_l0 (iR ps) (some true) n (iR (pI st)) i = some (goS rest i st) := by
  intro rest
  induction rest with
  | nil =>
    intro i n st hd hi hn _ _ _
    match n, hn with
    | n + 1, _ =>
      have : ps.length ≤ i := by simpa using hd
      rw [impl_IsHydra_l0, if_neg (by rw [iR_len]; omega)]
      rfl
  | cons p rest ih =>
    intro i n st hd hi hn hnd hst hlt
    match n, hn with
    | n + 1, hn =>
      have hi2 : i < ps.length := by
        have := congrArg List.length hd
        rw [List.length_drop, List.length_cons] at this
        omega
      have hp : ps[i]? = some p := by
        have : (ps.drop i)[0]? = some p := by rw [hd]; rfl
        rwa [List.getElem?_drop, Nat.add_zero] at this
      have hd2 : ps.drop (i + 1) = rest := by
        have : (ps.drop i).drop 1 = rest := by rw [hd]; rfl
        rwa [List.drop_drop] at this
      have hc : cap = 1099511627776 := rfl
      have lp : (pI st).length = st.length := by simp [pI]
      rw [impl_IsHydra_l0, if_pos (by rw [iR_len]; omega), row_iR rfl hp, index_eq (by rw [lp]; omega), Option.bind_some]
      obtain ⟨s1, s2⟩ := path_split (p := p) hnd
      rw [goS]
      cases hs : st.dropWhile (fun q : Nat => decide ((q : Int) ≠ p)) with
      | nil =>
        have := s1 hs
        rw [find_none (l := pI st) (x := p) (by
          intro y hy
          obtain ⟨q, hq, rfl⟩ := List.mem_map.1 hy
          exact this q (List.mem_reverse.1 hq))]
        rfl
      | cons q s =>
        obtain ⟨rfl, l, rfl, h1, h2⟩ := s2 q s hs
        have e : pI (l ++ q :: s) = pI s ++ (q : Int) :: pI l := by simp [pI]
        have ls : (pI s).length = s.length := by simp [pI]
        have hll : (l ++ q :: s).length = l.length + s.length + 1 := by simp; omega
        rw [hll] at hst
        have ll : (pI l).length = l.length := by simp [pI]
        have hf : (pI (l ++ q :: s)).findIdx? (fun y => decide (y = (q : Int))) = some s.length := by
          rw [e, find_some (by
            intro y hy
            obtain ⟨z, hz, rfl⟩ := List.mem_map.1 hy
            exact h2 z (List.mem_reverse.1 hz)), ls]
        rw [hf]
        simp only
        have w1 : IntKind.i64.wrap ((s.length : Int) + 1) = ((s.length + 1 : Nat) : Int) := by rw [wid (by omega) (by omega)]; omega
        have w2 : IntKind.i64.wrap ((i : Int) + 1) = ((i + 1 : Nat) : Int) := by rw [wid (by omega) (by omega)]; omega
        have lq : (iR (pI (l ++ q :: s))).length = l.length + s.length + 1 := by rw [iR_len, lp, hll]
        have tk : (pI (l ++ q :: s)).take (s.length + 1) = pI (q :: s) := by
          have eq : pI (q :: s) = pI s ++ [(q : Int)] := by simp [pI]
          rw [e, eq, List.take_append, List.take_of_length_le (by omega), show s.length + 1 - (pI s).length = 1 by omega]
          rfl
        rw [if_neg (by omega), w1, if_pos (by rw [lq]; omega), Int.toNat_natCast, if_pos (by rw [lq]; omega), iR_take, tk, iR_snoc, if_pos (by rw [iR_len]; simp [pI]; omega), w2]
        have ep : pI (q :: s) ++ [(i : Int)] = pI (i :: q :: s) := by simp [pI]
        rw [ep, ih (i + 1) n (i :: q :: s) hd2 (by omega) (by simp at hn; omega) (by
          rw [List.nodup_cons]
          refine ⟨?_, (List.nodup_append.1 hnd).2.1⟩
          intro hm
          have := hlt i (List.mem_append.2 (.inr hm))
          omega) (by simp; omega) (by
          intro x hx
          rcases List.mem_cons.1 hx with rfl | hx
          · omega
          · have := hlt x (List.mem_append.2 (.inr hx)); omega)]
theorem isHydra_eq {k : Nat} (hk : 40 < k) (ps : List Int) : impl_IsHydra k (iR ps) = some (hyB ps) := by
  unfold impl_IsHydra
  rw [in_eq, Option.bind_some, iR_len]
  by_cases h : (1 : Int) ≤ (ps.length : Int) ∧ (ps.length : Int) ≤ 40
  · rw [decide_eq_true h, if_pos rfl]
    cases ps with
    | nil => simp at h
    | cons p rest =>
      rw [row_iR (l := p :: rest) (i := 0) (n := 0) (p := p) rfl rfl]
      unfold hyB
      rw [decide_eq_true (by omega : (p :: rest).length ≤ 40), Bool.and_true]
      by_cases hp : p = -1
      · rw [if_pos hp]
        have := isHydra_lp (ps := p :: rest) (by omega) rest 1 k [0] rfl (by simp) (by simp at h; omega) (by simp) (by simp) (by simp)
        simp only [hp, decide_true, Bool.true_and]
        subst hp
        exact this
      · rw [if_neg hp]
        simp [hp]
  · rw [decide_eq_false h, if_neg (by simp)]
    cases ps with
    | nil => rfl
    | cons p rest =>
      unfold hyB
      rw [decide_eq_false (by simp at h ⊢; omega)]
      simp
/-! ### the spec -/
def Ch (ps : List Int) : List Nat → Prop
  | [] => False
  | [q] => q < ps.length ∧ ps[q]? = some (-1)
  | q :: r :: st => (q < ps.length ∧ ps[q]? = some (r : Int)) ∧ Ch ps (r :: st)
theorem deHydra_l1 {ps : List Int} {i : Nat} {p : Int} {K : Int → Option Bool} : ∀ (st : List Nat) (n : Nat), Ch ps st → st.length < n → ∃ q0 st', st = q0 :: st' ∧ spec_deHydra_l1 (iR ps) i p K n (q0 : Int) = match st.dropWhile (fun q : Nat => decide ((q : Int) ≠ p)) with | [] => K (-1) | q :: _ => K (q : Int) := by
  intro st
  induction st with
  | nil => intro n h; exact h.elim
  | cons q st ih =>
    intro n h hn
    refine ⟨q, st, rfl, ?_⟩
    match n, hn with
    | n + 1, hn =>
      rw [spec_deHydra_l1, if_pos (by omega), List.dropWhile_cons]
      by_cases hq : (q : Int) = p
      · rw [if_pos hq, if_neg (by simp [hq])]
      · rw [if_neg hq, if_pos (by simp [hq])]
        cases st with
        | nil =>
          rw [row_iR rfl h.2]
          match n, hn with
          | n + 1, hn => rw [spec_deHydra_l1, if_neg (by omega)]; rfl
        | cons r st =>
          rw [row_iR rfl h.1.2]
          obtain ⟨_, _, e, h2⟩ := ih n h.2 (by simp at hn ⊢; omega)
          obtain ⟨rfl, _⟩ := List.cons.inj e
          exact h2
theorem ch_split {ps : List Int} : ∀ {l : List Nat} {q : Nat} {s : List Nat}, Ch ps (l ++ q :: s) → Ch ps (q :: s) := by
  intro l
  induction l with
  | nil => intro q s h; exact h
  | cons a l ih =>
    intro q s h
    cases l with
    | nil => exact h.2
    | cons b l => exact ih h.2
theorem deHydra_lp {k : Nat} {ps : List Int} {K : Option Bool} (hk : ps.length + 1 < k) (hi64 : ps.length < 1000000000) : ∀ (rest : List Int) (i : Nat) (st : List Nat), ps.drop (i + 1) = rest → i < ps.length → Ch ps (i :: st) → st.length ≤ i → (i :: st).Nodup → (∀ x ∈ i :: st, x ≤ i) → spec_deHydra_l0 k (iR ps) K (iR rest) (i + 1) = if goS rest (i + 1) (i :: st) = true then K else some false := by
  intro rest
  induction rest with
  | nil => intro i st _ _ _ _ _ _; rfl
  | cons p rest ih =>
    intro i st hd hi hc hst hnd hle
    have hi2 : i + 1 < ps.length := by
      have := congrArg List.length hd
      rw [List.length_drop, List.length_cons] at this
      omega
    have hp : ps[i + 1]? = some p := by
      have : (ps.drop (i + 1))[0]? = some p := by rw [hd]; rfl
      rwa [List.getElem?_drop, Nat.add_zero] at this
    have hd2 : ps.drop (i + 1 + 1) = rest := by
      have : (ps.drop (i + 1)).drop 1 = rest := by rw [hd]; rfl
      rwa [List.drop_drop] at this
    have w1 : IntKind.i64.wrap (((i + 1 : Nat) : Int) - 1) = (i : Int) := by rw [wid (by omega) (by omega)]; omega
    rw [iR_cons, spec_deHydra_l0]
    simp only [cell_i]
    rw [w1]
    obtain ⟨_, _, e, h2⟩ := deHydra_l1 (i := i + 1) (p := p) (K := fun (v47 : Int) => (if v47 = p then (if p < (0 : Int) then (if ((i + 1 : Nat) : Int) = (0 : Int) then (spec_deHydra_l0 k (iR ps) K (iR rest) (i + 1 + 1)) else some false) else (if ((i + 1 : Nat) : Int) = (0 : Int) then some false else (spec_deHydra_l0 k (iR ps) K (iR rest) (i + 1 + 1)))) else some false)) (i :: st) k hc (by simp; omega)
    obtain ⟨rfl, _⟩ := List.cons.inj e
    rw [h2]
    obtain ⟨s1, s2⟩ := path_split (p := p) hnd
    rw [goS]
    cases hs : (i :: st).dropWhile (fun q : Nat => decide ((q : Int) ≠ p)) with
    | nil =>
      simp only [Bool.false_eq_true, if_false]
      split
      · rename_i hp1
        rw [if_pos (by omega), if_neg (by omega)]
      · rfl
    | cons q s =>
      obtain ⟨rfl, l, hl, h1, h3⟩ := s2 q s hs
      simp only
      rw [if_pos trivial, if_neg (by omega), if_neg (by omega)]
      have hc2 : Ch ps (q :: s) := ch_split (l := l) (by rw [← hl]; exact hc)
      have hnd2 : (q :: s).Nodup := by rw [hl] at hnd; exact (List.nodup_append.1 hnd).2.1
      have hle2 : ∀ x ∈ q :: s, x ≤ i := fun x hx => hle x (by rw [hl]; exact List.mem_append.2 (.inr hx))
      have hlen : (q :: s).length ≤ i + 1 := by
        have := congrArg List.length hl
        simp only [List.length_append, List.length_cons] at this ⊢
        omega
      refine ih (i + 1) (q :: s) hd2 hi2 ⟨⟨hi2, hp⟩, hc2⟩ hlen ?_ ?_
      · rw [List.nodup_cons]
        refine ⟨fun hm => ?_, hnd2⟩
        have := hle2 _ hm
        omega
      · intro x hx
        rcases List.mem_cons.1 hx with rfl | hx
        · omega
        · have := hle2 x hx; omega
theorem deHydra_eq {k : Nat} {ps : List Int} (hk : ps.length + 1 < k) (hi64 : ps.length < 1000000000) : spec_deHydra k (iR ps) = some (hyB ps) := by
  have hc : cap = 1099511627776 := rfl
  unfold spec_deHydra
  rw [iR_len, if_pos (by omega)]
  cases ps with
  | nil => rfl
  | cons p rest =>
    have hK : ((spec_l1In (((p :: rest).length : Nat) : Int) 1 40).bind fun y63 => (if y63 = true then some true else some false)) = some (decide ((p :: rest).length ≤ 40)) := by
      unfold spec_l1In
      rw [if_pos (by simp only [List.length_cons]; omega)]
      by_cases h : (p :: rest).length ≤ 40
      · rw [if_pos (by omega), decide_eq_true h]; rfl
      · rw [if_neg (by omega), decide_eq_false h]; rfl
    rw [hK, iR_cons]
    conv => lhs; rw [spec_deHydra_l0]
    simp only [cell_i]
    rw [← iR_cons]
    have w1 : IntKind.i64.wrap (((0 : Nat) : Int) - 1) = -1 := by decide
    rw [w1]
    match k, hk with
    | n + 1, hk =>
      rw [spec_deHydra_l1, if_neg (by omega)]
      unfold hyB
      by_cases hp : p = -1
      · subst hp
        rw [if_pos rfl, if_pos (by omega), if_pos (by rfl), deHydra_lp hk hi64 rest 0 [] rfl (by simp) ⟨by simp, rfl⟩ (by simp) (by simp) (by simp)]
        simp only [decide_true, Bool.true_and, Nat.zero_add]
        cases goS rest 1 [0] with
        | true => simp
        | false => simp
      · rw [if_neg (by omega)]
        simp [hp]
end Go.Proofs.Try

namespace Go.Proofs.Try
open Go Go.AX Fo
/-- Where, from s on, the list holds j. -/
def kS : List Int → Nat → Nat → List Nat
  | [], _, _ => []
  | p :: l, s, j => if p = (j : Int) then s :: kS l (s + 1) j else kS l (s + 1) j
theorem kS_app (a b : List Int) (s j : Nat) : kS (a ++ b) s j = kS a s j ++ kS b (s + a.length) j := by
  induction a generalizing s with
  | nil => rfl
  | cons p a ih =>
    simp only [List.cons_append, kS, ih, List.length_cons]
    rw [show s + 1 + a.length = s + (a.length + 1) by omega]
    split <;> rfl
theorem kS_none {l : List Int} {s j : Nat} (h : ∀ p ∈ l, p ≠ (j : Int)) : kS l s j = [] := by
  induction l generalizing s with
  | nil => rfl
  | cons p l ih => rw [kS, if_neg (h p List.mem_cons_self)]; exact ih fun q hq => h q (List.mem_cons_of_mem _ hq)
theorem kidsTo_kS (ps : List Int) (j : Nat) : kidsTo ps ps.length j = kS ps 0 j := by
  have : ∀ i, i ≤ ps.length → kidsTo ps i j = kS (ps.take i) 0 j := by
    intro i
    induction i with
    | zero => intro _; rfl
    | succ i ih =>
      intro hi
      have hlt : i < ps.length := by omega
      rw [kidsTo_succ, ih (by omega), List.take_add_one, kS_app]
      have e : ps[i]? = some (ps.getD i 0) := by simp [List.getD, hlt]
      rw [e]
      simp only [Option.toList, kS, Nat.zero_add, List.length_take]
      rw [show min i ps.length = i by omega]
      split
      · rfl
      · simp
  have := this ps.length (Nat.le_refl _)
  rwa [List.take_of_length_le (Nat.le_refl _)] at this
/-- The roots of a forest, numbered from s on. -/
def Fo.tops : Fo → Nat → List Nat
  | .nil, _ => []
  | .cons a b, s => s :: b.tops (s + 1 + a.size)
/-- The forest under node q. -/
def Fo.sub : Fo → Nat → Nat → Option Fo
  | .nil, _, _ => none
  | .cons a b, s, q => if q = s then some a else if q < s + 1 + a.size then a.sub (s + 1) q else b.sub (s + 1 + a.size) q
theorem sub_in : ∀ {a : Fo} {s q : Nat} {c : Fo}, a.sub s q = some c → s ≤ q ∧ q + c.size < s + a.size := by
  intro a
  induction a with
  | nil => intro s q c h; cases h
  | cons a b iha ihb =>
    intro s q c h
    simp only [sub] at h
    split at h
    · cases h; simp only [size]; omega
    · split at h
      · have := iha h; simp only [size]; omega
      · have := ihb h; simp only [size]; omega
theorem sub_some : ∀ {a : Fo} {s q : Nat}, s ≤ q → q < s + a.size → ∃ c, a.sub s q = some c := by
  intro a
  induction a with
  | nil => intro s q h1 h2; simp only [size] at h2; omega
  | cons a b iha ihb =>
    intro s q h1 h2
    simp only [sub]
    simp only [size] at h2
    split
    · exact ⟨_, rfl⟩
    · split
      · exact iha (by omega) (by omega)
      · exact ihb (by omega) (by omega)
/-- A forest's parents are its owner or its own nodes. -/
theorem fl_mem : ∀ {a : Fo} {p : Int} {s : Nat} {x : Int}, x ∈ a.fl p s → x = p ∨ ((s : Int) ≤ x ∧ x < (s : Int) + a.size) := by
  intro a
  induction a with
  | nil => intro p s x h; cases h
  | cons a b iha ihb =>
    intro p s x h
    simp only [fl, List.mem_cons, List.mem_append] at h
    simp only [size]
    rcases h with h | h | h
    · exact .inl h
    · rcases iha h with h | h <;> omega
    · rcases ihb h with h | h
      · exact .inl h
      · omega
theorem kS_tops : ∀ (a : Fo) (p s : Nat), p < s → kS (a.fl p s) s p = a.tops s := by
  intro a
  induction a with
  | nil => intro p s _; rfl
  | cons a b iha ihb =>
    intro p s h
    simp only [fl, kS, if_true, kS_app, tops, fl_len]
    rw [kS_none (l := a.fl s (s + 1)) (by
      intro x hx
      rcases fl_mem hx with h | h <;> omega), ihb p _ (by omega)]
    rfl
theorem kS_sub : ∀ (a : Fo) (p s q : Nat) (c : Fo), p < s → a.sub s q = some c → kS (a.fl p s) s q = c.tops (q + 1) := by
  intro a
  induction a with
  | nil => intro p s q c _ h; cases h
  | cons a b iha ihb =>
    intro p s q c hp h
    have hin := sub_in h
    simp only [sub] at h
    simp only [fl, kS, kS_app, fl_len]
    rw [if_neg (by omega)]
    split at h
    · rename_i hq
      subst hq
      cases h
      rw [kS_tops _ _ _ (by omega), kS_none (l := b.fl p _) (by
        intro x hx
        rcases fl_mem hx with h | h <;> omega), List.append_nil]
    · split at h
      · have := sub_in h
        rw [iha s (s + 1) q c (by omega) h, kS_none (l := b.fl p _) (by
          intro x hx
          rcases fl_mem hx with h | h <;> omega), List.append_nil]
      · have := sub_in h
        rw [kS_none (l := a.fl s _) (by
          intro x hx
          rcases fl_mem hx with h | h <;> omega), ihb p _ q c (by omega) h, List.nil_append]
theorem kids_hy {f : Fo} {q : Nat} {c : Fo} (h : f.sub 1 q = some c) : kS (hy f) 0 q = c.tops (q + 1) := by
  unfold hy
  rw [kS, if_neg (by omega)]
  exact kS_sub f 0 1 q c (by omega) h
theorem kids_root (f : Fo) : kS (hy f) 0 0 = f.tops 1 := by
  unfold hy
  rw [kS, if_neg (by omega)]
  exact kS_tops f 0 1 (by omega)
/-! ### trees -/
/-- A forest with its nodes' numbers. -/
def Fo.labs : Fo → Nat → List HT
  | .nil, _ => []
  | .cons a b, s => .node s (a.labs (s + 1)) :: b.labs (s + 1 + a.size)
theorem unfT_succ (ch : Nat → List Nat) (n q : Nat) : unfT ch (n + 1) q = .node q ((ch q).map (unfT ch n)) := rfl
theorem unf_labs {ch : Nat → List Nat} : ∀ (a : Fo) (s n : Nat), (∀ q c, a.sub s q = some c → ch q = c.tops (q + 1)) → a.size ≤ n → (a.tops s).map (unfT ch n) = a.labs s := by
  intro a
  induction a with
  | nil => intro s n _ _; rfl
  | cons a b iha ihb =>
    intro s n h hn
    simp only [size] at hn
    match n, hn with
    | n + 1, hn =>
      have hs : ch s = a.tops (s + 1) := h s a (by simp [sub])
      simp only [tops, labs, List.map_cons, unfT_succ, hs]
      rw [iha (s + 1) n (fun q c hq => h q c (by
        have := sub_in hq
        simp only [sub]
        rw [if_neg (by omega), if_pos (by omega)]
        exact hq)) (by omega), ihb (s + 1 + a.size) (n + 1) (fun q c hq => h q c (by
        have := sub_in hq
        simp only [sub]
        rw [if_neg (by omega), if_neg (by omega)]
        exact hq)) (by omega)]
/-- The tree of a hydra. -/
def Fo.tree (f : Fo) : HT := .node 0 (f.labs 1)
theorem unf_hy (f : Fo) {n : Nat} (hn : f.size < n) : unfT (kidsTo (hy f) (hy f).length) n 0 = f.tree := by
  match n, hn with
  | n + 1, hn =>
    rw [unfT_succ, kidsTo_kS, kids_root]
    unfold tree
    rw [unf_labs f 1 n (fun q c hq => by rw [kidsTo_kS, kids_hy hq]) (by omega)]
    rfl
/-! ### the program's tree -/
theorem hydInts_iR (l : List Int) : hydInts (iR l) = some l := hydInts_of l
theorem fl_up : ∀ (a : Fo) (p s : Nat), p < s → ∀ i, i < a.size → (a.fl p s).getD i 0 < ((s + i : Nat) : Int) := by
  intro a
  induction a with
  | nil => intro p s _ i h; simp only [size] at h; omega
  | cons a b iha ihb =>
    intro p s hp i hi
    simp only [fl]
    simp only [size] at hi
    cases i with
    | zero => simp; omega
    | succ i =>
      rw [List.getD_cons_succ]
      by_cases h : i < a.size
      · rw [List.getD_eq_getElem?_getD, List.getElem?_append_left (by simpa using h), ← List.getD_eq_getElem?_getD]
        have := iha s (s + 1) (by omega) i h
        omega
      · rw [List.getD_eq_getElem?_getD, List.getElem?_append_right (by simp; omega), fl_len, ← List.getD_eq_getElem?_getD]
        have := ihb p (s + 1 + a.size) (by omega) (i - a.size) (by omega)
        omega
theorem hy_up (f : Fo) : ∀ j, j < (hy f).length → (hy f).getD j 0 < (j : Int) := by
  intro j hj
  rw [hy_len] at hj
  cases j with
  | zero => show (-1 : Int) < ((0 : Nat) : Int); omega
  | succ j =>
    show (f.fl 0 1).getD j 0 < _
    have := fl_up f 0 1 (by omega) j (by omega)
    simp only [Int.cast_ofNat_Int] at this
    omega
theorem upB_hy (f : Fo) : upB (hy f) = true := by
  unfold upB
  rw [List.all_eq_true]
  intro j hj
  exact decide_eq_true (hy_up f j (List.mem_range.1 hj))
theorem treeOf_hy {α : Type} {f : Fo} (hf : f.size ≤ 39) (K : Cs → Option α) : ((lib_treeOf (iR (hy f))).bind fun y => row_p y 0 K) = K f.tree.cells := by
  unfold lib_treeOf
  rw [hydInts_iR, Option.bind_some, if_pos ⟨by rw [hy_len]; omega, upB_hy f⟩, Option.bind_some]
  have e : ((List.range (hy f).length).map fun i => [D.pt (unf (kidsTo (hy f) (hy f).length) (hy f).length i)])[0]? = some [D.pt f.tree.cells] := by
    rw [List.getElem?_map, List.getElem?_range (by rw [hy_len]; omega), Option.map_some, ← unf_hy f (n := (hy f).length) (by rw [hy_len]; omega), unfT_cells]
  unfold row_p
  rw [if_pos (by omega)]
  show (match ((List.range (hy f).length).map fun i => [D.pt (unf (kidsTo (hy f) (hy f).length) (hy f).length i)])[0]? with | some cs => cell_p cs K | none => none) = _
  rw [e]
  rfl
end Go.Proofs.Try

namespace Go.Proofs.Try
open Go Go.AX Fo
/-- A forest's ordinal, put to another. -/
def ordA : Fo → T → T
  | .nil, acc => acc
  | .cons a b, acc => ordA b (meetT (ordA a .nil) 1 acc)
def ordF (f : Fo) : T := ordA f .nil
theorem ordA_ok : ∀ (f : Fo) (acc : T) (N : Nat), gd N acc → acc.size ≤ N → N + f.size ≤ 1000000 → gd ((N + f.size : Nat) : Int) (ordA f acc) ∧ (ordA f acc).size ≤ N + f.size := by
  intro f
  induction f with
  | nil => intro acc N h hz _; exact ⟨h, hz⟩
  | cons a b iha ihb =>
    intro acc N h hz hN
    simp only [Fo.size] at hN ⊢
    have h0 : gd ((0 : Nat) : Int) T.nil := ⟨trivial, trivial, trivial⟩
    obtain ⟨ga, za⟩ := iha .nil 0 h0 (by simp [T.size]) (by omega)
    rw [Nat.zero_add] at ga za
    have hsm : sm ((a.size + 1 : Nat) : Int) (ordA a .nil) := by
      have : ∀ t : T, sm (a.size : Int) t → sm ((a.size + 1 : Nat) : Int) t := by
        intro t
        induction t with
        | nil => intro _; trivial
        | cons e c l ihe ihl => intro h; exact ⟨ihe h.1, by have := h.2.1; omega, ihl h.2.2⟩
      exact this _ ga.2.2
    obtain ⟨g1, _⟩ := gd_meet (c := 1) h hsm (by omega) (by omega)
    have z1 := meetT_size (ordA a .nil) 1 acc
    have e1 : (N : Int) + ((a.size + 1 : Nat) : Int) = ((N + a.size + 1 : Nat) : Int) := by omega
    rw [e1] at g1
    obtain ⟨g2, z2⟩ := ihb _ (N + a.size + 1) g1 (by omega) (by omega)
    rw [show N + a.size + 1 + b.size = N + (a.size + b.size + 1) by omega] at g2 z2
    exact ⟨g2, z2⟩
theorem ordF_ok (f : Fo) (h : f.size ≤ 10000) : gd (f.size : Int) (ordF f) ∧ (ordF f).size ≤ f.size := by
  have := ordA_ok f .nil 0 ⟨trivial, trivial, trivial⟩ (by simp [T.size]) (by omega)
  rwa [Nat.zero_add] at this
theorem cellsL_row {t : HT} {l : List HT} : (HT.cellsL (t :: l)).map (fun c => [D.pt c]) = [D.pt t.cells] :: (HT.cellsL l).map fun c => [D.pt c] := rfl
theorem node_cells (n : Int) (l : List HT) : (HT.node n l).cells = [.int .i64 n, .sl ((HT.cellsL l).map fun c => [D.pt c])] := rfl
theorem labs_len (a : Fo) : ∀ s, (a.labs s).length ≤ a.size := by
  induction a with
  | nil => intro s; exact Nat.le_refl _
  | cons a b _ ihb => intro s; simp only [labs, List.length_cons, Fo.size]; have := ihb (s + 1 + a.size); omega
theorem meet_one {k : Nat} {acc e : T} {N M : Nat} (ha : gd N acc) (he : sm M e) (hN : N ≤ 1000000) (hM : 1 ≤ M ∧ M ≤ 1000000) (za : acc.size ≤ 10000) (ze : e.size ≤ 10000) (hk : 30000 < k) : impl_naturalSum k acc.rows (T.cons e 1 .nil).rows = some (meetT e 1 acc).rows := by
  have hc : cap = 1099511627776 := rfl
  have := natural_eq (k := k) (a := acc) (b := T.cons e 1 .nil) (B := M) (C := N) ha.2.2 ⟨he, by omega, trivial⟩ (by omega) (by omega) ⟨(fun q hq => by cases hq), trivial⟩ (by simp only [T.size]; omega) (by simp only [T.size]; omega)
  exact this
theorem power_one (t : T) : impl_power t.rows 1 = some (T.cons t 1 .nil).rows := by
  unfold impl_power
  rw [if_neg (by omega)]
  rfl
theorem ord_sm {a : Fo} (h : a.size ≤ 1000) : sm ((a.size + 1 : Nat) : Int) (ordF a) := by
  have : ∀ t : T, sm (a.size : Int) t → sm ((a.size + 1 : Nat) : Int) t := by
    intro t
    induction t with
    | nil => intro _; trivial
    | cons e c l ihe ihl => intro h; exact ⟨ihe h.1, by have := h.2.1; omega, ihl h.2.2⟩
  exact this _ (ordF_ok a (by omega)).1.2.2
theorem gd_step {a : Fo} {acc : T} {N : Nat} (h : gd N acc) (hz : acc.size ≤ N) (hN : N + a.size ≤ 10000) (ha : a.size ≤ 1000) : gd ((N + a.size + 1 : Nat) : Int) (meetT (ordF a) 1 acc) ∧ (meetT (ordF a) 1 acc).size ≤ N + a.size + 1 := by
  obtain ⟨g1, _⟩ := gd_meet (c := 1) h (ord_sm ha) (by omega) (by omega)
  have z1 := meetT_size (ordF a) 1 acc
  have := (ordF_ok a (by omega)).2
  have e1 : (N : Int) + ((a.size + 1 : Nat) : Int) = ((N + a.size + 1 : Nat) : Int) := by omega
  rw [e1] at g1
  exact ⟨g1, by omega⟩
theorem treeOrd_lp {kk k : Nat} (hk : 30000 < kk) {x3 : Rw} {m : Nat} (ih : ∀ (a : Fo) (n : Int) (s : Nat), a.size < m → impl_tree_ordinal k (HT.node n (a.labs s)).cells = some (ordF a).rows) : ∀ (f : Fo) (s : Nat) (acc : T) (N : Nat), f.size ≤ m → f.size ≤ 1000 → gd N acc → acc.size ≤ N → N + f.size ≤ 5000 → impl_tree_ordinal_l0 kk (impl_tree_ordinal k) x3 (fun v => some v) ((HT.cellsL (f.labs s)).map fun c => [D.pt c]) acc.rows = some (ordA f acc).rows := by
  intro f
  induction f with
  | nil => intro s acc N _ _ _ _ _; rfl
  | cons a b iha ihb =>
    intro s acc N hm hf h hz hN
    simp only [Fo.size] at hm hf hN
    have za := (ordF_ok a (by omega)).2
    obtain ⟨g1, z1⟩ := gd_step (a := a) h hz (by omega) (by omega)
    rw [labs, cellsL_row, impl_tree_ordinal_l0]
    simp only [cell_p]
    rw [ih a s (s + 1) (by omega), Option.bind_some, power_one, Option.bind_some, meet_one (N := N) (M := a.size + 1) h (ord_sm (by omega)) (by omega) (by omega) (by omega) (by omega) hk, Option.bind_some]
    exact ihb (s + 1 + a.size) _ (N + a.size + 1) (by omega) (by omega) g1 z1 (by omega)
theorem treeOrd_eq : ∀ (m k : Nat) (f : Fo) (n : Int) (s : Nat), f.size ≤ m → m ≤ 1000 → 30000 + m < k → impl_tree_ordinal k (HT.node n (f.labs s)).cells = some (ordF f).rows := by
  intro m
  induction m with
  | zero =>
    intro k f n s hm _ hk
    match k, hk with
    | k + 1, _ =>
      have : f = .nil := by cases f with | nil => rfl | cons a b => simp only [Fo.size] at hm; omega
      subst this
      rfl
  | succ m ih =>
    intro k f n s hm hm2 hk
    match k, hk with
    | k + 1, hk =>
      have hl := labs_len f s
      have hc : cap = 1099511627776 := rfl
      have hcl : ((HT.cellsL (f.labs s)).map fun c => [D.pt c]).length ≤ cap := by rw [List.length_map, cellsL_len]; omega
      rw [impl_tree_ordinal, node_cells]
      unfold impl_tree_ordinal_b
      simp only [cell_is]
      rw [if_pos hcl]
      exact treeOrd_lp (kk := k) (k := k) (m := m + 1) (by omega) (fun a n s ha => ih k a n s (by omega) (by omega) (by omega)) f s .nil 0 hm (by omega) ⟨trivial, trivial, trivial⟩ (by simp [T.size]) (by omega)
theorem iHydraOrd_eq {k : Nat} (hk : 40000 < k) (hkc : k ≤ cap) {f : Fo} (hf : f.size ≤ 39) : impl_HydraOrdinal k (iR (hy f)) = some ((toldT (ordF f)).1.rows, (toldT (ordF f)).2) := by
  have hc : cap = 1099511627776 := rfl
  have hz := (ordF_ok f (by omega)).2
  unfold impl_HydraOrdinal
  rw [isHydra_eq (by omega), hyB_hy hf, Option.bind_some, if_pos rfl, treeOf_hy hf]
  unfold tree
  rw [treeOrd_eq 39 k f 0 1 hf (by omega) (by omega), Option.bind_some, told_eq k _ (by omega) (by omega), Option.bind_some]
  cases (toldT (ordF f)).2 <;> rfl
/-! ### the reference -/
theorem deChildren_lp {a1 : Rw} {j : Nat} : ∀ (l : List Int) (s : Nat) (acc : List Int), acc.length + l.length ≤ cap → spec_deChildren_l0 a1 j (fun v => some v) (iR l) s (iR acc) = some (iR (acc ++ (kS l s j).map fun n : Nat => (n : Int))) := by
  intro l
  induction l with
  | nil => intro s acc _; simp [spec_deChildren_l0, kS]
  | cons p l ih =>
    intro s acc h
    simp only [List.length_cons] at h
    rw [iR_cons, spec_deChildren_l0]
    simp only [cell_i, kS]
    by_cases hp : p = (j : Int)
    · rw [if_pos hp, if_pos hp, if_pos (by rw [iR_len]; omega), iR_snoc, ih (s + 1) _ (by simp; omega)]
      simp
    · rw [if_neg hp, if_neg hp, ih (s + 1) _ (by omega)]
theorem deChildren_eq {ps : List Int} (h : ps.length ≤ cap) (j : Nat) : spec_deChildren (iR ps) j = some (iR ((kS ps 0 j).map fun n : Nat => (n : Int))) := by
  unfold spec_deChildren
  rw [iR_len, if_pos h]
  exact (deChildren_lp ps 0 [] (by simpa using h)).trans (by simp)
/-- A part of a hydra: its nodes have these forests. -/
def Part (ps : List Int) (f : Fo) (s : Nat) : Prop := ∀ q c, f.sub s q = some c → kS ps 0 q = c.tops (q + 1)
theorem Part.one {ps : List Int} {a b : Fo} {s : Nat} (h : Part ps (.cons a b) s) : kS ps 0 s = a.tops (s + 1) := h s a (by simp [sub])
theorem Part.left {ps : List Int} {a b : Fo} {s : Nat} (h : Part ps (.cons a b) s) : Part ps a (s + 1) := fun q c hq => h q c (by
  have := sub_in hq
  simp only [sub]
  rw [if_neg (by omega), if_pos (by omega)]
  exact hq)
theorem Part.right {ps : List Int} {a b : Fo} {s : Nat} (h : Part ps (.cons a b) s) : Part ps b (s + 1 + a.size) := fun q c hq => h q c (by
  have := sub_in hq
  simp only [sub]
  rw [if_neg (by omega), if_neg (by omega)]
  exact hq)
theorem part_hy (f : Fo) : Part (hy f) f 1 := fun _ _ h => kids_hy h
/-- A row of nodes. -/
def nR (l : List Nat) : Rw := iR (l.map fun n : Nat => (n : Int))
theorem nR_cons (n : Nat) (l : List Nat) : nR (n :: l) = [D.int .i64 n] :: nR l := rfl
theorem nR_len (l : List Nat) : (nR l).length = l.length := by unfold nR; rw [iR_len, List.length_map]
theorem tops_len (a : Fo) : ∀ s, (a.tops s).length ≤ a.size := by
  induction a with
  | nil => intro s; exact Nat.le_refl _
  | cons a b _ ihb => intro s; simp only [tops, List.length_cons, Fo.size]; have := ihb (s + 1 + a.size); omega
theorem meet_spec {k : Nat} {acc e : T} {N M : Nat} (ha : gd N acc) (he : sm M e) (hN : N ≤ 1000000) (hM : 1 ≤ M ∧ M ≤ 1000000) (za : acc.size ≤ 10000) (ze : e.size ≤ 10000) (hk : 30000 < k) : spec_odMeet k acc.rows e.rows 1 = some (meetT e 1 acc).rows := by
  have hc : cap = 1099511627776 := rfl
  exact odMeet_eq (by omega) (by omega) (sm_calm ha.2.2 (by omega)) (sm_calm he (by omega))
theorem deOrd_lp {kk k : Nat} (hk : 30000 < kk) {ps : List Int} {y3 : Rw} {m : Nat} (ih : ∀ (a : Fo) (s : Nat), a.size < m → kS ps 0 s = a.tops (s + 1) → Part ps a (s + 1) → spec_deOrdinal k (iR ps) s = some (ordF a).rows) : ∀ (f : Fo) (s i : Nat) (acc : T) (N : Nat), f.size ≤ m → f.size ≤ 1000 → Part ps f s → i + (f.tops s).length ≤ y3.length → gd N acc → acc.size ≤ N → N + f.size ≤ 5000 → spec_deOrdinal_l0 kk (spec_deOrdinal k) (iR ps) y3 (fun v => some v) (nR (f.tops s)) i acc.rows = some (ordA f acc).rows := by
  intro f
  induction f with
  | nil => intro s i acc N _ _ _ _ _ _ _; rfl
  | cons a b iha ihb =>
    intro s i acc N hm hf hp hi h hz hN
    simp only [Fo.size] at hm hf hN
    simp only [tops, List.length_cons] at hi
    have za := (ordF_ok a (by omega)).2
    obtain ⟨g1, z1⟩ := gd_step (a := a) h hz (by omega) (by omega)
    rw [tops, nR_cons, spec_deOrdinal_l0, if_pos (by omega)]
    simp only [cell_i]
    rw [ih a s (by omega) hp.one hp.left, Option.bind_some, meet_spec (N := N) (M := a.size + 1) h (ord_sm (by omega)) (by omega) (by omega) (by omega) (by omega) hk, Option.bind_some]
    exact ihb (s + 1 + a.size) (i + 1) _ (N + a.size + 1) (by omega) (by omega) hp.right (by omega) g1 z1 (by omega)
theorem deOrd_eq {ps : List Int} (hps : ps.length ≤ cap) : ∀ (m k : Nat) (a : Fo) (s : Nat), a.size ≤ m → m ≤ 1000 → 30000 + m < k → kS ps 0 s = a.tops (s + 1) → Part ps a (s + 1) → spec_deOrdinal k (iR ps) s = some (ordF a).rows := by
  intro m
  induction m with
  | zero =>
    intro k f s hm _ hk hkids hp
    match k, hk with
    | k + 1, _ =>
      have : f = .nil := by cases f with | nil => rfl | cons a b => simp only [Fo.size] at hm; omega
      subst this
      rw [spec_deOrdinal]
      unfold spec_deOrdinal_b
      rw [deChildren_eq hps, hkids, Option.bind_some]
      rfl
  | succ m ih =>
    intro k f s hm hm2 hk hkids hp
    match k, hk with
    | k + 1, hk =>
      have hl := tops_len f (s + 1)
      have hc : cap = 1099511627776 := rfl
      rw [spec_deOrdinal]
      unfold spec_deOrdinal_b
      rw [deChildren_eq hps, hkids, Option.bind_some]
      rw [if_pos (by rw [iR_len, List.length_map]; omega)]
      exact deOrd_lp (kk := k) (k := k) (m := m + 1) (by omega) (fun a s ha h1 h2 => ih k a s (by omega) (by omega) (by omega) h1 h2) f (s + 1) 0 .nil 0 hm (by omega) hp (by rw [iR_len, List.length_map]; omega) ⟨trivial, trivial, trivial⟩ (by simp [T.size]) (by omega)
theorem sHydraOrd_eq {k : Nat} (hk : 40000 < k) (hkc : k ≤ cap) {f : Fo} (hf : f.size ≤ 39) : spec_HydraOrdinal k (iR (hy f)) = some ((toldT (ordF f)).1.rows, (toldT (ordF f)).2) := by
  have hc : cap = 1099511627776 := rfl
  have hz := (ordF_ok f (by omega)).2
  have hl := hy_len f
  unfold spec_HydraOrdinal
  rw [deHydra_eq (by omega) (by omega), hyB_hy hf, Option.bind_some, if_pos rfl]
  rw [show (0 : Int) = ((0 : Nat) : Int) from rfl, deOrd_eq (by omega) 39 k f 0 hf (by omega) (by omega) (kids_root f) (part_hy f), Option.bind_some, odIf_all k _ (by omega) (by omega), Option.bind_some]
  cases (toldT (ordF f)).2 <;> rfl
theorem told_sz (t : T) : (toldT t).1.size ≤ 30 := by
  unfold toldT
  cases h : ordP t with
  | false => simp [T.size]
  | true => exact ordP_size h
/-- HydraOrdinal's answer, both. -/
theorem hydraOrd_both {k : Nat} (hk : 40000 < k) (hkc : k ≤ cap) {ps : List Int} (h1 : ps.length + 1 < k) (h2 : ps.length < 1000000000) : ∃ t ok, impl_HydraOrdinal k (iR ps) = some (T.rows t, ok) ∧ spec_HydraOrdinal k (iR ps) = some (t.rows, ok) ∧ t.size ≤ 30 := by
  cases hb : hyB ps with
  | true =>
    obtain ⟨f, rfl, hf⟩ := hyB_ex hb
    exact ⟨_, _, iHydraOrd_eq hk hkc hf, sHydraOrd_eq hk hkc hf, told_sz _⟩
  | false =>
    refine ⟨.nil, false, ?_, ?_, by simp [T.size]⟩
    · unfold impl_HydraOrdinal
      rw [isHydra_eq (by omega), hb]; rfl
    · unfold spec_HydraOrdinal
      rw [deHydra_eq h1 h2, hb]; rfl
end Go.Proofs.Try

namespace Go.Proofs.Try
open Go Go.AX
def structTs (P : Program) (t : TypeId) : Option (List TypeId) := match P.underlying t with
  | some (.struct fs) => some (fs.toList.map fun f => f.type)
  | _ => none
def sliceT (P : Program) (t : TypeId) : Option TypeId := match P.underlying t with
  | some (.slice e) => some e
  | _ => none
def intT? (P : Program) (t : TypeId) : Option IntKind := match P.underlying t with
  | some (.int k) => some k
  | _ => none
def HasTs (H : TypeId → List D → Prop) : List TypeId → List D → Prop
  | [], ds => ds = []
  | t :: l, ds => ∃ a b, ds = a ++ b ∧ H t a ∧ HasTs H l b
theorem hasTs_of {H : TypeId → List D → Prop} : ∀ {l : List Field} {ds : List D}, HasFs H l ds → HasTs H (l.map fun f => f.type) ds
  | [], _, h => h
  | _ :: _, _, ⟨a, b, e, h1, h2⟩ => ⟨a, b, e, h1, hasTs_of h2⟩
theorem has_struct {P : Program} {n : Nat} {t : TypeId} {l : List TypeId} {ds : List D} (h : Has P (n + 1) t ds) (e : structTs P t = some l) : HasTs (Has P n) l ds := by
  unfold structTs at e
  simp only [Has] at h
  split at e
  · rename_i fs hu
    rw [hu] at h
    cases e
    exact hasTs_of h
  · cases e
theorem has_slice {P : Program} {n : Nat} {t u : TypeId} {ds : List D} (h : Has P (n + 1) t ds) (e : sliceT P t = some u) : ∃ es, ds = [.sl es] ∧ es.length ≤ maxLen ∧ ∀ r ∈ es, Has P n u r := by
  unfold sliceT at e
  simp only [Has] at h
  split at e
  · rename_i v hu
    rw [hu] at h
    cases e
    exact h
  · cases e
theorem has_int {P : Program} {n : Nat} {t : TypeId} {k : IntKind} {ds : List D} (h : Has P (n + 1) t ds) (e : intT? P t = some k) : ∃ i, ds = [.int k i] ∧ (Lit.int k i).wf = true := by
  unfold intT? at e
  simp only [Has] at h
  split at e
  · rename_i v hu
    rw [hu] at h
    cases e
    exact h
  · cases e
theorem has_bool {P : Program} {n : Nat} {t : TypeId} {ds : List D} (h : Has P (n + 1) t ds) (e : (match P.underlying t with | some .bool => true | _ => false) = true) : ∃ b, ds = [.bool b] := by
  simp only [Has] at h
  split at e
  · rename_i hu
    rw [hu] at h
    exact h
  · cases e
theorem has_str {P : Program} {n : Nat} {t : TypeId} {ds : List D} (h : Has P (n + 1) t ds) (e : (match P.underlying t with | some .string => true | _ => false) = true) : ∃ b, ds = [.str b] ∧ b.size ≤ maxLen := by
  simp only [Has] at h
  split at e
  · rename_i hu
    rw [hu] at h
    exact h
  · cases e
/-- Bytes. -/
def bytesOf (x : Rw) : Prop := ∀ r ∈ x, ∃ b : Int, r = [.int .u8 b] ∧ 0 ≤ b ∧ b < 256
theorem has_bytes {P : Program} {n : Nat} {t u : TypeId} {ds : List D} (h : Has P n t ds) (e : sliceT P t = some u) (e2 : intT? P u = some .u8) : ∃ es, ds = [.sl es] ∧ bytesOf es := by
  cases n with
  | zero => exact h.elim
  | succ n =>
    obtain ⟨es, rfl, _, hr⟩ := has_slice h e
    refine ⟨es, rfl, fun r hm => ?_⟩
    have hh := hr r hm
    cases n with
    | zero => exact hh.elim
    | succ n =>
      obtain ⟨i, rfl, hw⟩ := has_int hh e2
      have e1 : IntKind.u8.min = 0 := by decide
      have e2 : IntKind.u8.max = 255 := by decide
      simp only [Lit.wf, e1, e2, Bool.and_eq_true, decide_eq_true_eq] at hw
      exact ⟨i, rfl, by omega, by omega⟩
theorem argA_agg {P : Program} {t : TypeId} (e : aggT P t = true) (ds : List D) : argA P t ds = .agg (ds.map .d) := by unfold argA; rw [e]
theorem argA_one {P : Program} {t : TypeId} (e : aggT P t = false) (ds : List D) : argA P t ds = .d (ds.headD (.bool false)) := by unfold argA; rw [e]
theorem has_int1 {P : Program} {n : Nat} {t : TypeId} {k : IntKind} {ds : List D} (h : Has P n t ds) (e : intT? P t = some k) : ∃ i, ds = [.int k i] ∧ (Lit.int k i).wf = true := by
  cases n with
  | zero => exact h.elim
  | succ n => exact has_int h e
end Go.Proofs.Try

namespace Go.Proofs.Try
open Go Go.AX Fo
theorem kS_find : ∀ (l : List Int) (s j : Nat), (kS l s j).isEmpty = (l.findIdx? (fun y => decide (y = (j : Int)))).isNone := by
  intro l
  induction l with
  | nil => intro s j; rfl
  | cons p l ih =>
    intro s j
    rw [kS, List.findIdx?_cons]
    by_cases h : p = (j : Int)
    · simp [h]
    · simp only [h, if_false, decide_false, Bool.false_eq_true]
      rw [ih]
      cases List.findIdx? (fun y => decide (y = (j : Int))) l <;> rfl
/-- The nodes from i on, m of them, that have no child. -/
def hdL (ps : List Int) : Nat → Nat → List Int
  | _, 0 => []
  | i, m + 1 => if (kS ps 0 i).isEmpty = true then (i : Int) :: hdL ps (i + 1) m else hdL ps (i + 1) m
theorem hdL_len (ps : List Int) : ∀ (m i : Nat), (hdL ps i m).length ≤ m := by
  intro m
  induction m with
  | zero => intro i; exact Nat.le_refl _
  | succ m ih => intro i; have := ih (i + 1); simp only [hdL]; split <;> simp <;> omega
/-- A hydra's heads. -/
def hdsL (ps : List Int) : List Int := hdL ps 1 (ps.length - 1)
theorem hdL_mem (ps : List Int) : ∀ (m i : Nat) (h : Int), h ∈ hdL ps i m ↔ ∃ j : Nat, h = j ∧ i ≤ j ∧ j < i + m ∧ kS ps 0 j = [] := by
  intro m
  induction m with
  | zero => intro i h; constructor <;> intro q; cases q; obtain ⟨j, _, _, _, _⟩ := q; omega
  | succ m ih =>
    intro i h
    simp only [hdL]
    constructor
    · intro q
      split at q
      · rename_i he
        rcases List.mem_cons.1 q with rfl | q
        · exact ⟨i, rfl, Nat.le_refl _, by omega, List.isEmpty_iff.1 he⟩
        · obtain ⟨j, e, h1, h2, h3⟩ := (ih _ _).1 q
          exact ⟨j, e, by omega, by omega, h3⟩
      · obtain ⟨j, e, h1, h2, h3⟩ := (ih _ _).1 q
        exact ⟨j, e, by omega, by omega, h3⟩
    · rintro ⟨j, rfl, h1, h2, h3⟩
      by_cases hj : j = i
      · subst hj
        rw [h3, if_pos (by rfl)]
        exact List.mem_cons_self
      · have := (ih (i + 1) (j : Int)).2 ⟨j, rfl, by omega, by omega, h3⟩
        split
        · exact List.mem_cons_of_mem _ this
        · exact this
theorem hds_mem {ps : List Int} (hp : 1 ≤ ps.length) (h : Int) : h ∈ hdsL ps ↔ ∃ j : Nat, h = j ∧ 1 ≤ j ∧ j < ps.length ∧ kS ps 0 j = [] := by
  unfold hdsL
  rw [hdL_mem]
  constructor
  · rintro ⟨j, h1, h2, h3, h4⟩; exact ⟨j, h1, h2, by omega, h4⟩
  · rintro ⟨j, h1, h2, h3, h4⟩; exact ⟨j, h1, h2, by omega, h4⟩
theorem find_mem {l : List Int} {x : Int} : (l.findIdx? (fun y => decide (y = x))).isSome = decide (x ∈ l) := by
  induction l with
  | nil => rfl
  | cons y l ih =>
    rw [List.findIdx?_cons]
    by_cases h : y = x
    · simp [h]
    · have h' : ¬ x = y := fun e => h e.symm
      simp only [h, decide_false, Bool.false_eq_true, if_false, List.mem_cons, h', false_or, ← ih]
      cases List.findIdx? (fun y => decide (y = x)) l <;> rfl
theorem l1In_hy (a b c : Int) : spec_l1In a b c = some (decide (b ≤ a ∧ a ≤ c)) := by
  unfold spec_l1In
  by_cases h : b ≤ a <;> by_cases g : a ≤ c <;> simp [h, g]
end Go.Proofs.Try

namespace Go.Proofs.Try
open Go Go.AX Fo
/-- A forest without node h. -/
def skp (h : Nat) : Fo → Nat → Fo
  | .nil, _ => .nil
  | .cons a b, s => if s = h then skp h b (s + 1 + a.size) else .cons (skp h a (s + 1)) (skp h b (s + 1 + a.size))
theorem skp_out {h : Nat} : ∀ (f : Fo) (s : Nat), (h < s ∨ s + f.size ≤ h) → skp h f s = f := by
  intro f
  induction f with
  | nil => intro s _; rfl
  | cons a b iha ihb =>
    intro s hs
    simp only [Fo.size] at hs
    rw [skp, if_neg (by omega), iha _ (by omega), ihb _ (by omega)]
theorem skp_size {h : Nat} : ∀ (f : Fo) (s : Nat), (skp h f s).size ≤ f.size := by
  intro f
  induction f with
  | nil => intro s; exact Nat.le_refl _
  | cons a b iha ihb =>
    intro s
    have := iha (s + 1)
    have := ihb (s + 1 + a.size)
    simp only [skp]
    split <;> simp only [Fo.size] <;> omega
def Fo.app : Fo → Fo → Fo
  | .nil, c => c
  | .cons a b, c => .cons a (b.app c)
def Fo.rep : Nat → Fo → Fo
  | 0, _ => .nil
  | g + 1, a => .cons a (rep g a)
theorem app_size (a b : Fo) : (a.app b).size = a.size + b.size := by
  induction a with
  | nil => simp [Fo.app, Fo.size]
  | cons x y _ ih => simp only [Fo.app, Fo.size, ih]; omega
theorem rep_size (a : Fo) : ∀ g, (rep g a).size = g * (a.size + 1) := by
  intro g
  induction g with
  | zero => simp [rep, Fo.size]
  | succ g ih => simp only [rep, Fo.size, ih, Nat.succ_mul]; omega
theorem app_fl (a b : Fo) : ∀ (p : Int) (s : Nat), (a.app b).fl p s = a.fl p s ++ b.fl p (s + a.size) := by
  induction a with
  | nil => intro p s; rfl
  | cons x y _ ih =>
    intro p s
    simp only [Fo.app, fl, ih, List.cons_append, List.append_assoc, Fo.size]
    rw [show s + 1 + x.size + y.size = s + (x.size + y.size + 1) by omega]
/-- A forest chopped: without node h; node an has g more copies of P. -/
def CC (h an g : Nat) (P : Fo) : Fo → Nat → Fo
  | .nil, _ => .nil
  | .cons a b, s => if s = h then CC h an g P b (s + 1 + a.size) else .cons (if s = an then (CC h an g P a (s + 1)).app (rep g P) else CC h an g P a (s + 1)) (CC h an g P b (s + 1 + a.size))
def CQ (h an g : Nat) (P : Fo) (a : Fo) (q : Nat) : Fo := if q = an then (CC h an g P a (q + 1)).app (rep g P) else CC h an g P a (q + 1)
theorem CC_cons {h an g : Nat} {P a b : Fo} {s : Nat} (hs : s ≠ h) : CC h an g P (.cons a b) s = .cons (CQ h an g P a s) (CC h an g P b (s + 1 + a.size)) := by rw [CC, if_neg hs]; rfl
theorem CC_skp {h an g : Nat} {P : Fo} : ∀ (f : Fo) (s : Nat), (an < s ∨ s + f.size ≤ an) → CC h an g P f s = skp h f s := by
  intro f
  induction f with
  | nil => intro s _; rfl
  | cons a b iha ihb =>
    intro s hs
    simp only [Fo.size] at hs
    rw [CC, skp, if_neg (show ¬ s = an by omega), iha _ (by omega), ihb _ (by omega)]
theorem children_tops {ps : List Int} (hps : ps.length ≤ cap) {q : Nat} {a : Fo} (h : kS ps 0 q = a.tops (q + 1)) : spec_deChildren (iR ps) q = some (nR (a.tops (q + 1))) := by
  rw [deChildren_eq hps, h]; rfl
/-- What the reference's chopping makes of a list: it may stop once there are too many nodes. -/
def Good (cur : List Int) (own : Int) (F : Fo) (r : List Int) : Prop := r.length ≤ cur.length + F.size ∧ cur.length ≤ r.length ∧ (r = cur ++ F.fl own cur.length ∨ 40 < r.length ∧ 40 < cur.length + F.size)
theorem Good.next {cur r1 r : List Int} {own : Int} {A B : Fo} (h1 : Good cur own (.cons A .nil) r1) (h2 : Good r1 own B r) : Good cur own (.cons A B) r := by
  obtain ⟨a1, a2, a3⟩ := h1
  obtain ⟨b1, b2, b3⟩ := h2
  simp only [Fo.size] at a1 a3 ⊢
  refine ⟨by simp only [Fo.size]; omega, by omega, ?_⟩
  rcases a3 with rfl | a3
  · simp only [fl, List.append_nil, List.length_append, List.length_cons, fl_len] at b1 b2 b3
    rcases b3 with rfl | b3
    · left
      simp only [fl, List.append_assoc, List.cons_append, List.append_nil]
      rw [show cur.length + (A.size + 1) = cur.length + 1 + A.size by omega]
    · right
      simp only [Fo.size]
      omega
  · right
    simp only [Fo.size]
    omega
theorem Good.app {cur r1 r : List Int} {own : Int} {A B : Fo} (h1 : Good cur own A r1) (h2 : Good r1 own B r) : Good cur own (A.app B) r := by
  obtain ⟨a1, a2, a3⟩ := h1
  obtain ⟨b1, b2, b3⟩ := h2
  have := app_size A B
  refine ⟨by omega, by omega, ?_⟩
  rcases a3 with rfl | a3
  · simp only [List.length_append, fl_len] at b1 b2 b3
    rcases b3 with rfl | b3
    · left
      rw [app_fl, List.append_assoc]
    · right; omega
  · right; omega
theorem Good.same (cur : List Int) (own : Int) : Good cur own .nil cur := ⟨by simp [Fo.size], Nat.le_refl _, .inl (by simp [fl])⟩
end Go.Proofs.Try

namespace Go.Proofs.Try
open Go Go.AX Fo
/-- What is known of a head, its parent and its parent's parent. -/
structure Head (ps : List Int) (h pn an : Nat) (apn : Fo) : Prop where
  len : ps.length ≤ 1000
  at_h : ps[h]? = some (pn : Int)
  lt : pn < h
  up : (pn = 0 ∧ 1000 ≤ an) ∨ (0 < pn ∧ ps[pn]? = some (an : Int) ∧ an < pn)
  kids : kS ps 0 pn = apn.tops (pn + 1)
  part : Part ps apn (pn + 1)
  small : apn.size ≤ 39
theorem Head.lth {ps : List Int} {h pn an : Nat} {apn : Fo} (H : Head ps h pn an apn) : h < ps.length := (List.getElem?_eq_some_iff.1 H.at_h).1
end Go.Proofs.Try

namespace Go.Proofs.Try
open Go Go.AX Fo
mutual
/-- A tree's shape. -/
def HT.sh : HT → Fo
  | .node _ cs => HT.shL cs
def HT.shL : List HT → Fo
  | [] => .nil
  | t :: l => .cons t.sh (HT.shL l)
end
theorem sh_node (n : Int) (cs : List HT) : (HT.node n cs).sh = HT.shL cs := by rw [HT.sh]
theorem shL_nil : HT.shL [] = .nil := by rw [HT.shL]
theorem shL_cons (t : HT) (l : List HT) : HT.shL (t :: l) = .cons t.sh (HT.shL l) := by rw [HT.shL]
theorem shL_app (a b : List HT) : HT.shL (a ++ b) = (HT.shL a).app (HT.shL b) := by
  induction a with
  | nil => rw [shL_nil]; rfl
  | cons t a ih => rw [List.cons_append, shL_cons, shL_cons, ih]; rfl
theorem shL_rep (t : HT) : ∀ g, HT.shL (List.replicate g t) = rep g t.sh := by
  intro g
  induction g with
  | zero => exact shL_nil
  | succ g ih => rw [List.replicate_succ, shL_cons, ih]; rfl
theorem sh_labs : ∀ (a : Fo) (s : Nat), HT.shL (a.labs s) = a := by
  intro a
  induction a with
  | nil => intro s; exact shL_nil
  | cons a b iha ihb => intro s; rw [labs, shL_cons, sh_node, iha, ihb]
mutual
theorem flT_sh : ∀ (t : HT) (out : List Int) (p : Int), (out.length + t.sh.size + 1 ≤ 40 → flT out p t = (out ++ p :: t.sh.fl out.length (out.length + 1), true)) ∧ (out.length ≤ 40 → 40 < out.length + t.sh.size + 1 → (flT out p t).2 = false)
  | .node n cs, out, p => by
    obtain ⟨h1, h2⟩ := flL_sh cs (out ++ [p]) out.length
    rw [sh_node]
    simp only [List.length_append, List.length_singleton] at h1 h2
    refine ⟨fun h => ?_, fun ha hb => ?_⟩
    · rw [flT_room (by omega), h1 (by omega)]
      simp
    · by_cases hc : 40 ≤ out.length
      · rw [flT_full hc]
      · rw [flT_room hc]
        exact h2 (by omega) (by omega)
theorem flL_sh : ∀ (l : List HT) (out : List Int) (own : Nat), (out.length + (HT.shL l).size ≤ 40 → flL out own l = (out ++ (HT.shL l).fl own out.length, true)) ∧ (out.length ≤ 40 → 40 < out.length + (HT.shL l).size → (flL out own l).2 = false)
  | [], out, own => by
    rw [shL_nil]
    simp only [Fo.size]
    refine ⟨fun _ => ?_, fun ha hb => by omega⟩
    rw [flL]
    simp [fl]
  | t :: l, out, own => by
    obtain ⟨h1, h2⟩ := flT_sh t out own
    rw [shL_cons]
    simp only [Fo.size]
    refine ⟨fun h => ?_, fun ha hb => ?_⟩
    · rw [flL_true (h1 (by omega))]
      obtain ⟨g1, _⟩ := flL_sh l (out ++ (own : Int) :: t.sh.fl out.length (out.length + 1)) own
      simp only [List.length_append, List.length_cons, fl_len] at g1
      rw [g1 (by omega)]
      simp only [fl, List.append_assoc, List.cons_append]
      rw [show out.length + (t.sh.size + 1) = out.length + 1 + t.sh.size by omega]
    · by_cases hc : out.length + t.sh.size + 1 ≤ 40
      · rw [flL_true (h1 hc)]
        obtain ⟨_, g2⟩ := flL_sh l (out ++ (own : Int) :: t.sh.fl out.length (out.length + 1)) own
        simp only [List.length_append, List.length_cons, fl_len] at g2
        exact g2 (by omega) (by omega)
      · have := h2 ha (by omega)
        cases e : flT out own t with
        | mk o b =>
          rw [e] at this
          simp only at this
          subst this
          rw [flL_false e]
end
/-- A tree's list, or that there are too many nodes. -/
theorem flR_sh (t : HT) : flR (flT [] (-1) t) = if t.sh.size ≤ 39 then (iR (hy t.sh), true) else ([], false) := by
  obtain ⟨h1, h2⟩ := flT_sh t [] (-1)
  simp only [List.length_nil, Nat.zero_add, List.nil_append] at h1 h2
  unfold flR
  by_cases h : t.sh.size ≤ 39
  · rw [h1 (by omega), if_pos h]
    rfl
  · have := h2 (by omega) (by omega)
    rw [this, if_neg h]
    rfl
theorem kS_mem : ∀ (l : List Int) (s j x : Nat), x ∈ kS l s j ↔ s ≤ x ∧ l[x - s]? = some (j : Int) := by
  intro l
  induction l with
  | nil => intro s j x; simp [kS]
  | cons p l ih =>
    intro s j x
    have step : (s + 1 ≤ x ∧ l[x - (s + 1)]? = some (j : Int)) ↔ (x ≠ s ∧ s ≤ x ∧ (p :: l)[x - s]? = some (j : Int)) := by
      constructor
      · rintro ⟨h1, h2⟩
        refine ⟨by omega, by omega, ?_⟩
        rw [show x - s = (x - (s + 1)) + 1 by omega]
        exact h2
      · rintro ⟨h0, h1, h2⟩
        refine ⟨by omega, ?_⟩
        rw [show x - s = (x - (s + 1)) + 1 by omega] at h2
        exact h2
    simp only [kS]
    by_cases hp : p = (j : Int)
    · rw [if_pos hp, List.mem_cons, ih, step]
      by_cases hx : x = s
      · subst hx; simp [hp]
      · simp [hx]
    · rw [if_neg hp, ih, step]
      by_cases hx : x = s
      · subst hx; simp [hp]
      · simp [hx]
/-- The children after the cut. -/
theorem chop_ch {ps : List Int} {h pn an g : Nat} {apn : Fo} (H : Head ps h pn an apn) (q : Nat) (hq : q < 1000) : chopCh ps h g q = (kS ps 0 q).filter (fun i => decide (i ≠ h)) ++ (if q = an then List.replicate g pn else []) := by
  have e1 : (ps.getD h 0).toNat = pn := by rw [List.getD_eq_getElem?_getD, H.at_h]; rfl
  have self : ∀ q, q ≠ pn → (kS ps 0 q).filter (fun i => decide (i ≠ h)) = kS ps 0 q := by
    intro q hq
    rw [List.filter_eq_self]
    intro x hx
    have := ((kS_mem ps 0 q x).1 hx).2
    rw [Nat.sub_zero] at this
    refine decide_eq_true fun e => ?_
    subst e
    rw [H.at_h] at this
    have := Option.some.inj this
    omega
  unfold chopCh
  simp only [e1, kidsTo_kS]
  rcases H.up with ⟨h0, ha⟩ | ⟨h0, ha, hlt⟩
  · rw [if_pos h0, if_neg (by omega), List.append_nil]
    by_cases hqp : q = pn
    · subst hqp; rw [fset_same]
    · rw [fset_ne _ _ hqp, kidsTo_kS, self q hqp]
  · have e2 : (ps.getD pn 0).toNat = an := by rw [List.getD_eq_getElem?_getD, ha]; rfl
    rw [if_neg (by omega), e2]
    by_cases hqa : q = an
    · subst hqa
      rw [fset_same, fset_ne _ _ (by omega), if_pos rfl, kidsTo_kS, self q (by omega)]
    · rw [fset_ne _ _ hqa, if_neg hqa, List.append_nil]
      by_cases hqp : q = pn
      · subst hqp; rw [fset_same]
      · rw [fset_ne _ _ hqp, kidsTo_kS, self q hqp]
theorem unf_sh {ch : Nat → List Nat} {h pn an g : Nat} {P : Fo} : ∀ (f : Fo) (s n : Nat), (∀ q c, f.sub s q = some c → ch q = (c.tops (q + 1)).filter (fun i => decide (i ≠ h)) ++ (if q = an then List.replicate g pn else [])) → f.size ≤ n → (∀ c, f.sub s an = some c → ∀ n, c.size ≤ n → (unfT ch n pn).sh = P) → HT.shL (((f.tops s).filter (fun i => decide (i ≠ h))).map (unfT ch n)) = CC h an g P f s := by
  intro f
  induction f with
  | nil => intro s n _ _ _; exact shL_nil
  | cons a b iha ihb =>
    intro s n hch hn hP
    simp only [Fo.size] at hn
    have chb := ihb (s + 1 + a.size) n (fun q c hq => hch q c (by
      have := sub_in hq
      simp only [sub]
      rw [if_neg (by omega), if_neg (by omega)]
      exact hq)) (by omega) (fun c hq => hP c (by
      have := sub_in hq
      simp only [sub]
      rw [if_neg (by omega), if_neg (by omega)]
      exact hq))
    rw [tops, List.filter_cons]
    by_cases hs : s = h
    · rw [if_neg (by simp [hs]), CC, if_pos hs]
      exact chb
    · rw [if_pos (by simp [hs]), CC_cons hs, List.map_cons, shL_cons, chb]
      congr 1
      match n, hn with
      | n + 1, hn =>
        have cha := iha (s + 1) n (fun q c hq => hch q c (by
          have := sub_in hq
          simp only [sub]
          rw [if_neg (by omega), if_pos (by omega)]
          exact hq)) (by omega) (fun c hq => hP c (by
          have := sub_in hq
          simp only [sub]
          rw [if_neg (by omega), if_pos (by omega)]
          exact hq))
        rw [unfT_succ, sh_node, hch s a (by simp [sub])]
        unfold CQ
        by_cases hsa : s = an
        · rw [if_pos hsa, if_pos hsa, List.map_append, shL_app, cha, List.map_replicate, shL_rep, hP a (by simp [sub, hsa]) n (by omega)]
        · rw [if_neg hsa, if_neg hsa, List.append_nil, cha]
theorem sub_trans : ∀ {f : Fo} {s q r : Nat} {c d : Fo}, f.sub s q = some c → c.sub (q + 1) r = some d → f.sub s r = some d := by
  intro f
  induction f with
  | nil => intro s q r c d h; cases h
  | cons a b iha ihb =>
    intro s q r c d h1 h2
    have i2 := sub_in h2
    have i1 := sub_in h1
    simp only [sub] at h1 ⊢
    split at h1
    · rename_i hq
      subst hq
      cases h1
      rw [if_neg (by omega), if_pos (by omega)]
      exact h2
    · split at h1
      · have i3 := sub_in h1
        rw [if_neg (by omega), if_pos (by omega)]
        exact iha h1 h2
      · have i3 := sub_in h1
        rw [if_neg (by omega), if_neg (by omega)]
        exact ihb h1 h2
theorem tops_sub : ∀ {c : Fo} {s x : Nat}, x ∈ c.tops s → ∃ d, c.sub s x = some d := by
  intro c
  induction c with
  | nil => intro s x h; cases h
  | cons a b iha ihb =>
    intro s x h
    simp only [tops, List.mem_cons] at h
    rcases h with rfl | h
    · exact ⟨a, by simp [sub]⟩
    · obtain ⟨d, hd⟩ := ihb h
      have := sub_in hd
      refine ⟨d, ?_⟩
      simp only [sub]
      rw [if_neg (by omega), if_neg (by omega)]
      exact hd
/-- A hydra's head, its parent and its parent's parent. -/
theorem head_hy {f : Fo} (hf : f.size ≤ 39) {h : Nat} (h1 : 1 ≤ h) (h2 : h < (hy f).length) : ∃ pn an apn, Head (hy f) h pn an apn ∧ ((pn = 0 ∧ apn = f) ∨ (0 < pn ∧ f.sub 1 pn = some apn)) := by
  have hl := hy_len f
  obtain ⟨p, hp⟩ : ∃ p, (hy f)[h]? = some p := ⟨_, List.getElem?_eq_getElem h2⟩
  have hup := hy_up f h h2
  rw [List.getD_eq_getElem?_getD, hp] at hup
  simp only [Option.getD_some] at hup
  have hnn : 0 ≤ p := by
    obtain ⟨h', rfl⟩ : ∃ h', h = h' + 1 := ⟨h - 1, by omega⟩
    have : (f.fl 0 1)[h']? = some p := hp
    rcases fl_mem (List.mem_of_getElem? this) with h | h <;> omega
  obtain ⟨pn, rfl⟩ : ∃ pn : Nat, p = pn := ⟨p.toNat, by omega⟩
  by_cases h0 : pn = 0
  · subst h0
    exact ⟨0, 1000, f, ⟨by omega, hp, by omega, .inl ⟨rfl, by omega⟩, kids_root f, part_hy f, hf⟩, .inl ⟨rfl, rfl⟩⟩
  · have hpl : pn < (hy f).length := by omega
    obtain ⟨a, ha⟩ : ∃ a, (hy f)[pn]? = some a := ⟨_, List.getElem?_eq_getElem hpl⟩
    have hup2 := hy_up f pn hpl
    rw [List.getD_eq_getElem?_getD, ha] at hup2
    simp only [Option.getD_some] at hup2
    have hnn2 : 0 ≤ a := by
      obtain ⟨h', rfl⟩ : ∃ h', pn = h' + 1 := ⟨pn - 1, by omega⟩
      have : (f.fl 0 1)[h']? = some a := ha
      rcases fl_mem (List.mem_of_getElem? this) with h | h <;> omega
    obtain ⟨an, rfl⟩ : ∃ an : Nat, a = an := ⟨a.toNat, by omega⟩
    obtain ⟨apn, hapn⟩ := sub_some (a := f) (s := 1) (q := pn) (by omega) (by omega)
    have hin := sub_in hapn
    refine ⟨pn, an, apn, ⟨by omega, hp, by omega, .inr ⟨by omega, ha, by omega⟩, kids_hy hapn, fun q c hq => kids_hy (sub_trans hapn hq), by omega⟩, .inr ⟨by omega, hapn⟩⟩
/-- The tree after the cut. -/
theorem chop_tree {f : Fo} (hf : f.size ≤ 39) {h pn an g : Nat} {apn : Fo} (H : Head (hy f) h pn an apn) (hs : (pn = 0 ∧ apn = f) ∨ (0 < pn ∧ f.sub 1 pn = some apn)) : (unfT (chopCh (hy f) h g) (hy f).length 0).sh = CQ h an g (skp h apn (pn + 1)) f 0 := by
  have hl := hy_len f
  have han : an < pn ∨ 1000 ≤ an := by
    rcases H.up with ⟨_, h⟩ | ⟨_, _, h⟩
    · exact .inr h
    · exact .inl h
  have hch : ∀ q c, f.sub 1 q = some c → chopCh (hy f) h g q = (c.tops (q + 1)).filter (fun i => decide (i ≠ h)) ++ (if q = an then List.replicate g pn else []) := by
    intro q c hq
    have := sub_in hq
    rw [chop_ch H q (by omega), kids_hy hq]
  -- the parent's own tree
  have hpn : ∀ n, apn.size + 1 ≤ n → (unfT (chopCh (hy f) h g) n pn).sh = skp h apn (pn + 1) := by
    intro n hn
    match n, hn with
    | n + 1, hn =>
      have hpl : pn < 40 := by have := H.lt; have := H.lth; omega
      have hsm := H.small
      rw [unfT_succ, sh_node, chop_ch H pn (by omega), H.kids, if_neg (by omega), List.append_nil]
      rw [unf_sh (pn := pn) (an := an) (g := g) (P := .nil) apn (pn + 1) n (fun q c hq => ?_) (by omega) (fun c hq => ?_), CC_skp _ _ (by omega)]
      · have := sub_in hq
        have := H.small
        rw [chop_ch H q (by have := H.lt; have := H.lth; omega), H.part q c hq]
      · have := sub_in hq
        have := H.small
        omega
  have hP : ∀ c : Fo, (kS (hy f) 0 an = c.tops (an + 1)) → (∀ d x, c.sub (an + 1) x = some d → f.sub 1 x = some d) → 0 < pn → (hy f)[pn]? = some (an : Int) → apn.size + 1 ≤ c.size := by
    intro c h1 h2 h3 h4
    have hm : pn ∈ c.tops (an + 1) := by
      rw [← h1, kS_mem]
      exact ⟨by omega, h4⟩
    obtain ⟨d, hd⟩ := tops_sub hm
    have e := h2 d pn hd
    rcases hs with ⟨h0, _⟩ | ⟨_, hs⟩
    · omega
    · rw [hs] at e
      cases e
      have := sub_in hd
      omega
  rw [hl]
  have hroot : chopCh (hy f) h g 0 = (f.tops 1).filter (fun i => decide (i ≠ h)) ++ (if 0 = an then List.replicate g pn else []) := by
    rw [chop_ch H 0 (by omega), kids_root]
  rw [unfT_succ, sh_node, hroot, List.map_append, shL_app, unf_sh (pn := pn) (an := an) (g := g) (P := skp h apn (pn + 1)) f 1 f.size hch (Nat.le_refl _) (fun c hc n hn => ?_)]
  · unfold CQ
    by_cases h0 : 0 = an
    · rw [if_pos h0, if_pos h0, List.map_replicate, shL_rep]
      rcases H.up with ⟨_, h⟩ | ⟨h3, h4, _⟩
      · omega
      · subst h0
        rw [hpn f.size (hP f (kids_root f) (fun d x hx => hx) h3 h4)]
    · rw [if_neg h0, if_neg h0, List.map_nil, shL_nil]
      have : ∀ a : Fo, a.app .nil = a := by
        intro a
        induction a with
        | nil => rfl
        | cons x y _ ih => simp [Fo.app, ih]
      exact this _
  · rcases H.up with ⟨_, h⟩ | ⟨h3, h4, _⟩
    · have := sub_in hc; omega
    · have := hP c (kids_hy hc) (fun d x hx => sub_trans hc hx) h3 h4
      exact hpn n (by omega)
theorem CC_out {h an g : Nat} {P : Fo} (f : Fo) (s : Nat) (ho : an < s ∨ s + f.size ≤ an) : (CC h an g P f s).size ≤ f.size := by
  rw [CC_skp f s ho]
  exact skp_size f s
theorem CC_size (h an g : Nat) (P : Fo) : ∀ (f : Fo) (s : Nat), (CC h an g P f s).size ≤ f.size + g * (P.size + 1) := by
  intro f
  induction f with
  | nil => intro s; exact Nat.zero_le _
  | cons a b iha ihb =>
    intro s
    have ha := iha (s + 1)
    have hb := ihb (s + 1 + a.size)
    simp only [Fo.size]
    rw [CC]
    split
    · omega
    · simp only [Fo.size]
      split
      · have ha2 := CC_out (h := h) (an := an) (g := g) (P := P) a (s + 1) (by omega)
        have hb2 := CC_out (h := h) (an := an) (g := g) (P := P) b (s + 1 + a.size) (by omega)
        rw [app_size, rep_size]
        omega
      · by_cases hc : an < s + 1 + a.size
        · have hb2 := CC_out (h := h) (an := an) (g := g) (P := P) b (s + 1 + a.size) (by omega)
          omega
        · have ha2 := CC_out (h := h) (an := an) (g := g) (P := P) a (s + 1) (by omega)
          omega
theorem CQ_size (h an g : Nat) (P : Fo) (f : Fo) (q : Nat) : (CQ h an g P f q).size ≤ f.size + g * (P.size + 1) := by
  have := CC_size h an g P f (q + 1)
  unfold CQ
  split
  · have := CC_out (h := h) (an := an) (g := g) (P := P) f (q + 1) (by omega)
    rw [app_size, rep_size]
    omega
  · exact this
end Go.Proofs.Try

namespace Go.Proofs.Try
open Go Go.AX Fo
/-- How many trees of a forest have the ordinal y. -/
def cnt : Fo → T → Int
  | .nil, _ => 0
  | .cons a b, y => (if cmpT (ordF a) y = 0 then 1 else 0) + cnt b y
theorem coef_ordA : ∀ (f : Fo) (acc : T) (N : Nat), gd N acc → N + f.size ≤ 20000 → ∀ y, coef (ordA f acc) y = coef acc y + cnt f y := by
  intro f
  induction f with
  | nil => intro acc N _ _ y; simp [ordA, cnt]
  | cons a b _ ihb =>
    intro acc N h hN y
    simp only [Fo.size] at hN
    have sa : sm ((a.size + 1 : Nat) : Int) (ordF a) := by
      have : ∀ t : T, sm (a.size : Int) t → sm ((a.size + 1 : Nat) : Int) t := by
        intro t
        induction t with
        | nil => intro _; trivial
        | cons e c l ihe ihl => intro h; exact ⟨ihe h.1, by have := h.2.1; omega, ihl h.2.2⟩
      exact this _ (ordA_ok a .nil 0 ⟨trivial, trivial, trivial⟩ (by simp [T.size]) (by omega) |>.1.2.2 |> fun h => by rwa [Nat.zero_add] at h)
    obtain ⟨g1, e1⟩ := gd_meet (c := 1) h sa (by omega) (by omega)
    have en : (N : Int) + ((a.size + 1 : Nat) : Int) = ((N + a.size + 1 : Nat) : Int) := by omega
    rw [en] at g1
    simp only [ordA, cnt]
    have e2 := ihb (meetT (ordA a .nil) 1 acc) (N + a.size + 1) g1 (by omega) y
    have e3 := e1 y
    unfold ordF at e3 ⊢
    rw [e2, e3]
    omega
theorem coef_ordF {f : Fo} (h : f.size ≤ 20000) (y : T) : coef (ordF f) y = cnt f y := by
  have := coef_ordA f .nil 0 ⟨trivial, trivial, trivial⟩ (by omega) y
  unfold ordF
  rw [this]
  simp [coef]
theorem cnt_app (a b : Fo) (y : T) : cnt (a.app b) y = cnt a y + cnt b y := by
  induction a with
  | nil => simp [Fo.app, cnt]
  | cons x z _ ih => simp only [Fo.app, cnt, ih]; omega
theorem cnt_rep {a : Fo} {y : T} (h : cmpT (ordF a) y ≠ 0) : ∀ g, cnt (rep g a) y = 0 := by
  intro g
  induction g with
  | zero => rfl
  | succ g ih => simp only [rep, cnt, ih, if_neg h]; omega
theorem split_at : ∀ (f : Fo) (s h : Nat), s ≤ h → h < s + f.size → ∃ f1 a f2 : Fo, f = f1.app (.cons a f2) ∧ s + f1.size ≤ h ∧ h < s + f1.size + 1 + a.size := by
  intro f
  induction f with
  | nil => intro s h h1 h2; simp only [Fo.size] at h2; omega
  | cons a b _ ihb =>
    intro s h h1 h2
    simp only [Fo.size] at h2
    by_cases hc : h < s + 1 + a.size
    · exact ⟨.nil, a, b, rfl, by simp only [Fo.size]; omega, by simp only [Fo.size]; omega⟩
    · obtain ⟨f1, x, f2, e, g1, g2⟩ := ihb (s + 1 + a.size) h (by omega) (by omega)
      exact ⟨.cons a f1, x, f2, by rw [e]; rfl, by simp only [Fo.size]; omega, by simp only [Fo.size]; omega⟩
theorem CC_app {h an g : Nat} {P : Fo} (f2 : Fo) : ∀ (f1 : Fo) (s : Nat), CC h an g P (f1.app f2) s = (CC h an g P f1 s).app (CC h an g P f2 (s + f1.size)) := by
  intro f1
  induction f1 with
  | nil => intro s; rfl
  | cons a b _ ihb =>
    intro s
    by_cases hs : s = h
    · simp only [Fo.app, CC, if_pos hs, ihb, Fo.size]
      rw [show s + 1 + a.size + b.size = s + (a.size + b.size + 1) by omega]
    · rw [Fo.app, CC_cons hs, CC_cons hs, ihb]
      simp only [Fo.app, Fo.size]
      rw [show s + 1 + a.size + b.size = s + (a.size + b.size + 1) by omega]
theorem sub_left : ∀ {f1 f2 : Fo} {s r : Nat} {d : Fo}, f1.sub s r = some d → (f1.app f2).sub s r = some d := by
  intro f1
  induction f1 with
  | nil => intro f2 s r d h; cases h
  | cons a b _ ihb =>
    intro f2 s r d h
    simp only [Fo.app, sub] at h ⊢
    split at h
    · rename_i q; rw [if_pos q]; exact h
    · rename_i q
      split at h
      · rename_i q2; rw [if_neg q, if_pos q2]; exact h
      · rename_i q2; rw [if_neg q, if_neg q2]; exact ihb h
theorem sub_right : ∀ {f1 f2 : Fo} {s r : Nat} {d : Fo}, f2.sub (s + f1.size) r = some d → (f1.app f2).sub s r = some d := by
  intro f1
  induction f1 with
  | nil => intro f2 s r d h; exact h
  | cons a b _ ihb =>
    intro f2 s r d h
    have := sub_in h
    simp only [Fo.size] at h this
    simp only [Fo.app, sub]
    rw [if_neg (by omega), if_neg (by omega)]
    refine ihb ?_
    rw [show s + 1 + a.size + b.size = s + (a.size + b.size + 1) by omega]
    exact h
/-- Where node an is, there is the head. -/
theorem inside {F : Fo} {h pn an : Nat} {apn : Fo} (H : Head (hy F) h pn an apn) {X : Fo} {s : Nat} (hX : ∀ r d, X.sub s r = some d → F.sub 1 r = some d) (h0 : (hy F)[pn]? = some (an : Int)) (h1 : s ≤ an) (h2 : an < s + X.size) : s ≤ h ∧ h < s + X.size := by
  obtain ⟨c, hc⟩ := sub_some h1 h2
  have hm : pn ∈ c.tops (an + 1) := by
    rw [← kids_hy (hX _ _ hc), kS_mem]
    exact ⟨by omega, h0⟩
  obtain ⟨d, hd⟩ := tops_sub hm
  have hd2 := sub_trans hc hd
  have hm2 : h ∈ d.tops (pn + 1) := by
    rw [← kids_hy (hX _ _ hd2), kS_mem]
    exact ⟨by omega, H.at_h⟩
  obtain ⟨e, he⟩ := tops_sub hm2
  have := sub_in (sub_trans hd2 he)
  omega
theorem CC_same {F : Fo} {h pn an g : Nat} {apn P : Fo} (H : Head (hy F) h pn an apn) {X : Fo} {s : Nat} (hX : ∀ r d, X.sub s r = some d → F.sub 1 r = some d) (hs : s + X.size ≤ 1000) (ho : h < s ∨ s + X.size ≤ h) : CC h an g P X s = X := by
  rw [CC_skp X s ?_, skp_out X s ho]
  rcases H.up with ⟨_, ha⟩ | ⟨_, h0, _⟩
  · omega
  · by_cases hc : s ≤ an ∧ an < s + X.size
    · have := inside H hX h0 hc.1 hc.2
      omega
    · omega
theorem tops_app (b : Fo) : ∀ (a : Fo) (s : Nat), (a.app b).tops s = a.tops s ++ b.tops (s + a.size) := by
  intro a
  induction a with
  | nil => intro s; rfl
  | cons x y _ ih =>
    intro s
    simp only [Fo.app, tops, ih, Fo.size, List.cons_append]
    rw [show s + 1 + x.size + y.size = s + (x.size + y.size + 1) by omega]
/-- The ordinal falls. -/
theorem CQ_low {F : Fo} (hF : F.size ≤ 39) {h pn an g : Nat} {apn : Fo} (hg : g ≤ 99) (H : Head (hy F) h pn an apn) (hs : (pn = 0 ∧ apn = F) ∨ (0 < pn ∧ F.sub 1 pn = some apn)) (hleaf : kS (hy F) 0 h = []) : ∀ (m : Nat) (f : Fo) (q : Nat), f.size ≤ m → kS (hy F) 0 q = f.tops (q + 1) → (∀ r d, f.sub (q + 1) r = some d → F.sub 1 r = some d) → q + f.size ≤ 100 → f.size ≤ 39 → q + 1 ≤ h → h < q + 1 + f.size → cmpT (ordF (CQ h an g (skp h apn (pn + 1)) f q)) (ordF f) < 0 := by
  intro m
  induction m with
  | zero => intro f q hm _ _ _ _ h1 h2; omega
  | succ m ih =>
    intro f q hm hk hX hq hf h1 h2
    obtain ⟨f1, a, f2, rfl, e1, e2⟩ := split_at f (q + 1) h h1 h2
    obtain ⟨P, eP⟩ : ∃ P, P = skp h apn (pn + 1) := ⟨_, rfl⟩
    have hPz : P.size ≤ 39 := by rw [eP]; exact Nat.le_trans (skp_size _ _) H.small
    have hsz := app_size f1 (.cons a f2)
    simp only [Fo.size] at hsz
    rw [← eP]
    have hX1 : ∀ r d, f1.sub (q + 1) r = some d → F.sub 1 r = some d := fun r d hr => hX r d (sub_left hr)
    have hXr : ∀ r d, (Fo.cons a f2).sub (q + 1 + f1.size) r = some d → F.sub 1 r = some d := fun r d hr => hX r d (sub_right hr)
    have hX2 : ∀ r d, f2.sub (q + 1 + f1.size + 1 + a.size) r = some d → F.sub 1 r = some d := fun r d hr => hXr r d (by
      have := sub_in hr
      simp only [sub]
      rw [if_neg (by omega), if_neg (by omega)]
      exact hr)
    have hXa : ∀ r d, a.sub (q + 1 + f1.size + 1) r = some d → F.sub 1 r = some d := fun r d hr => hXr r d (by
      have := sub_in hr
      simp only [sub]
      rw [if_neg (by omega), if_pos (by omega)]
      exact hr)
    have hat : F.sub 1 (q + 1 + f1.size) = some a := hXr _ _ (by simp [sub])
    have c1 : CC h an g P f1 (q + 1) = f1 := CC_same H hX1 (by omega) (by omega)
    have c2 : CC h an g P f2 (q + 1 + f1.size + 1 + a.size) = f2 := CC_same H hX2 (by omega) (by omega)
    have hCz := CQ_size h an g P (f1.app (.cons a f2)) q
    have hmul : g * (P.size + 1) ≤ 99 * 40 := Nat.mul_le_mul hg (by omega)
    obtain ⟨gF, zF⟩ := ordF_ok (f1.app (.cons a f2)) (by omega)
    obtain ⟨gC, zC⟩ := ordF_ok (CQ h an g P (f1.app (.cons a f2)) q) (by omega)
    by_cases ht : q + 1 + f1.size = h
    · -- the head is a root here
      have htop : h ∈ (f1.app (.cons a f2)).tops (q + 1) := by
        rw [tops_app]
        refine List.mem_append.2 (.inr ?_)
        rw [tops, ht]
        exact List.mem_cons_self
      rw [← hk, kS_mem] at htop
      have hqp : (pn : Int) = q := by
        have := htop.2
        rw [Nat.sub_zero, H.at_h] at this
        exact Option.some.inj this
      have hqa : q ≠ an := by
        rcases H.up with ⟨_, h⟩ | ⟨_, _, h⟩ <;> omega
      have ha : a = .nil := by
        have := kids_hy hat
        rw [ht, hleaf] at this
        cases a with
        | nil => rfl
        | cons x y => simp [tops] at this
      subst ha
      have eC : CQ h an g P (f1.app (.cons .nil f2)) q = f1.app f2 := by
        unfold CQ
        rw [if_neg hqa, CC_app, c1, CC, if_pos ht, c2]
      rw [eC] at gC ⊢
      refine cmp_of_coef (x := .nil) gC.1 gF.1 gC.2.1 gF.2.1 ?_ ?_
      · rw [coef_ordF (by rw [app_size]; simp only [Fo.size] at hsz; omega), coef_ordF (by omega), cnt_app, cnt_app, cnt]
        have : cmpT (ordF .nil) .nil = 0 := cmpT_refl _
        rw [if_pos this]
        omega
      · intro y hy
        rw [coef_ordF (by rw [app_size]; simp only [Fo.size] at hsz; omega), coef_ordF (by omega), cnt_app, cnt_app, cnt]
        have : cmpT (ordF .nil) y ≠ 0 := by
          intro e
          have e := cmpT_eq.1 e
          rw [← e] at hy
          have : cmpT (ordF .nil) .nil = 0 := cmpT_refl _
          omega
        rw [if_neg this]
        omega
    · -- the head is deeper
      have low := ih a (q + 1 + f1.size) (by omega) (kids_hy hat) hXa (by omega) (by omega) (by omega) (by omega)
      rw [← eP] at low
      have hCa := CQ_size h an g P a (q + 1 + f1.size)
      have key : ∃ R : Fo, CQ h an g P (f1.app (.cons a f2)) q = (f1.app (.cons (CQ h an g P a (q + 1 + f1.size)) f2)).app R ∧ ∀ y, cmpT (ordF (CQ h an g P a (q + 1 + f1.size))) y ≠ 0 → cnt R y = 0 := by
        unfold CQ
        rw [CC_app, c1]
        have e3 := CC_cons (h := h) (an := an) (g := g) (P := P) (a := a) (b := f2) ht
        rw [e3, c2]
        by_cases hqa : q = an
        · rw [if_pos hqa]
          refine ⟨rep g P, rfl, ?_⟩
          rcases H.up with ⟨_, hh⟩ | ⟨h0, h4, h5⟩
          · omega
          · rcases hs with ⟨hh, _⟩ | ⟨_, hsub⟩
            · omega
            · -- the tree that holds the head is its parent's
              have hm : pn ∈ (f1.app (.cons a f2)).tops (q + 1) := by
                rw [← hk, kS_mem]
                exact ⟨by omega, by rw [hqa]; exact h4⟩
              obtain ⟨d, hd⟩ := tops_sub hm
              have hd2 := hX _ _ hd
              rw [hsub] at hd2
              cases hd2
              have hh : h ∈ apn.tops (pn + 1) := by
                rw [← H.kids, kS_mem]
                exact ⟨by omega, H.at_h⟩
              obtain ⟨e, he⟩ := tops_sub hh
              have i1 := sub_in he
              have hpt : pn = q + 1 + f1.size := by
                rw [tops_app, List.mem_append] at hm
                rcases hm with hm | hm
                · obtain ⟨d1, hd1⟩ := tops_sub hm
                  have e5 := hX1 _ _ hd1
                  rw [hsub] at e5
                  cases e5
                  have := sub_in hd1
                  omega
                · rw [tops, List.mem_cons] at hm
                  rcases hm with hm | hm
                  · exact hm
                  · obtain ⟨d1, hd1⟩ := tops_sub hm
                    have := sub_in hd1
                    have := H.lt
                    omega
              rw [← hpt, hsub] at hat
              cases hat
              intro y hy
              have e6 : (if q + 1 + f1.size = an then (CC h an g P apn (q + 1 + f1.size + 1)).app (rep g P) else CC h an g P apn (q + 1 + f1.size + 1)) = P := by
                rw [if_neg (by omega), CC_skp _ _ (by omega), eP, hpt]
              rw [e6] at hy
              exact cnt_rep hy g
        · rw [if_neg hqa]
          refine ⟨.nil, ?_, fun _ _ => rfl⟩
          have : ∀ a : Fo, a.app .nil = a := by
            intro a
            induction a with
            | nil => rfl
            | cons x y _ ih => simp [Fo.app, ih]
          rw [this]
          rfl
      obtain ⟨R, eR, hR⟩ := key
      rw [eR] at gC zC hCz ⊢
      have zz : ((f1.app (.cons (CQ h an g P a (q + 1 + f1.size)) f2)).app R).size ≤ 20000 := by omega
      have nx : ∀ y, 0 ≤ cmpT y (ordF a) → cmpT (ordF (CQ h an g P a (q + 1 + f1.size))) y ≠ 0 := by
        intro y hy e
        have e := cmpT_eq.1 e
        rw [← e] at hy
        omega
      refine cmp_of_coef (x := ordF a) gC.1 gF.1 gC.2.1 gF.2.1 ?_ ?_
      · rw [coef_ordF zz, coef_ordF (by omega), cnt_app, cnt_app, cnt_app, cnt, cnt]
        have n0 := nx (ordF a) (by rw [cmpT_refl]; omega)
        rw [if_neg n0, hR _ n0, if_pos (cmpT_refl _)]
        omega
      · intro y hy
        rw [coef_ordF zz, coef_ordF (by omega), cnt_app, cnt_app, cnt_app, cnt, cnt]
        have n0 := nx y (by omega)
        have n1 : cmpT (ordF a) y ≠ 0 := by
          intro e
          have e := cmpT_eq.1 e
          rw [← e, cmpT_refl] at hy
          omega
        rw [if_neg n0, hR _ n0, if_neg n1]
        omega
end Go.Proofs.Try

namespace Go.Proofs.Try
open Go Go.AX Fo
/-- A drawn hydra: a list of no great length. -/
def IsH (n : Nat) (r : Rw) : Prop := ∃ l : List Int, r = iR l ∧ l.length ≤ n
def upto (l : List Int) : Prop := ∀ p ∈ l, p < l.length
theorem hyd_l1 {x : Rw} {l : List Int} {v : Int} {y : Int × Rw × Int × Int} {K : Int → Option (Rw × Rw × Int × Int)} {a n : Int} {Q : Rw → Prop} (hl : upto l) (hl2 : l.length ≤ 1000) (hK : ∀ p : Int, p < l.length → Drew x a n (K p) Q) : ∀ (f : Nat) (i : Int) (c : Nat), i < l.length → c < f → c ≤ 1000 → Drew x a n (spec_l1Cur_hydra_l1 v (iR l) y K f i c) Q := by
  intro f
  induction f with
  | zero => intro i c _ h; omega
  | succ f ih =>
    intro i c hi hc hc2
    rw [spec_l1Cur_hydra_l1]
    by_cases h1 : (0 : Int) < (c : Int)
    · rw [if_pos h1]
      by_cases h2 : (0 : Int) < i
      · obtain ⟨j, rfl⟩ : ∃ j : Nat, i = j := ⟨i.toNat, by omega⟩
        have hj : j < l.length := by omega
        have w1 : IntKind.i64.wrap ((c : Int) - 1) = ((c - 1 : Nat) : Int) := by rw [wid (by omega) (by omega)]; omega
        rw [if_pos h2, if_pos (by rw [iR_len]; omega), row_iR rfl (List.getElem?_eq_getElem hj), w1]
        exact ih _ (c - 1) (hl _ (List.getElem_mem hj)) (by omega) (by omega)
      · rw [if_neg h2]; exact hK i hi
    · rw [if_neg h1]; exact hK i hi
theorem hyd_l0 {k : Nat} {x : Rw} (hx : bytes x) (hk : 100 < k) {K : Rw → Int → Int → Rw → Option (Rw × Rw × Int × Int)} {M : Int} {N : Nat} {Q : Rw → Prop} (hN : N ≤ 500) (hK : ∀ (l : List Int) (a c : Int), l.length ≤ N → 1 ≤ l.length → 0 ≤ a → a ≤ 100000 → Drew x a M (K x a c (iR l)) Q) : ∀ (m f : Nat) (a c : Int) (l : List Int), m < f → 1 ≤ l.length → l.length + m ≤ N → upto l → 0 ≤ a → a + 2 * (m : Int) ≤ 100000 → Drew x a (M + 2 * (m : Int)) (spec_l1Cur_hydra_l0 k K f m x a c (iR l)) Q := by
  intro m
  induction m with
  | zero =>
    intro f a c l hf h1 h2 hl h3 h4
    match f, hf with
    | f + 1, _ =>
      rw [spec_l1Cur_hydra_l0, if_neg (by omega)]
      exact (hK l a c (by omega) h1 h3 (by omega)).mono (by omega)
  | succ m ih =>
    intro f a c l hf h1 h2 hl h3 h4
    match f, hf with
    | f + 1, hf =>
      have h5 : cap = 1099511627776 := rfl
      rw [spec_l1Cur_hydra_l0, if_pos (by omega)]
      refine Drew.mono (Drew.bind (n := 2) (m := M + 2 * (m : Int)) (pick_ok (m := 4) hx h3 (by omega) (by omega)) fun v a' c' q1 q2 q3 => ?_) (by omega)
      obtain ⟨j, rfl⟩ : ∃ j : Nat, v = j := ⟨v.toNat, by omega⟩
      have w1 : IntKind.i64.wrap ((((m + 1 : Nat)) : Int) - 1) = (m : Int) := by rw [wid (by omega) (by omega)]; omega
      have w2 : IntKind.i64.wrap (((iR l).length : Int) - 1) = (l.length : Int) - 1 := by rw [iR_len, wid (by omega) (by omega)]
      simp only [w1, w2]
      refine hyd_l1 hl (by omega) (fun p hp => ?_) k _ j (by omega) (by omega) (by omega)
      rw [if_pos (by rw [iR_len]; omega), iR_snoc]
      refine ih f a' c' (l ++ [p]) (by omega) (by simp) (by simp; omega) ?_ q1 (by omega)
      intro z hz
      rw [List.length_append, List.length_singleton]
      rcases List.mem_append.1 hz with h | h
      · have := hl z h; omega
      · have := List.mem_singleton.1 h; omega
theorem hyd_p5 {x : Rw} (hx : bytes x) {l : List Int} {a c : Int} (h1 : 1 ≤ l.length) (h2 : l.length ≤ 500) (h3 : 0 ≤ a) (h4 : a ≤ 100000) : Drew x a 6 (spec_l1Cur_hydra_p5 x a c (iR l)) (IsH l.length) := by
  unfold spec_l1Cur_hydra_p5
  refine Drew.mono (Drew.bind (n := 2) (m := 4) (pick_ok (m := 14) hx h3 (by omega) (by omega)) fun v a' c' q1 q2 q3 => ?_) (by omega)
  simp only
  split
  · refine Drew.mono (Drew.bind (n := 2) (m := 2) (pick_ok (m := ((iR l).length : Int)) hx q1 (by omega) (by rw [iR_len]; omega)) fun v2 a2 c2 p1 p2 p3 => ?_) (by omega)
    simp only
    refine Drew.mono (Drew.bind (n := 2) (m := 0) (pick_ok (m := 8) hx p1 (by omega) (by omega)) fun v3 a3 c3 r1 r2 r3 => ?_) (by omega)
    simp only
    rw [iR_len] at p3
    obtain ⟨j, rfl⟩ : ∃ j : Nat, v2 = j := ⟨v2.toNat, by omega⟩
    have hj : j < l.length := by omega
    rw [if_pos (by rw [iR_len]; omega), row_iR rfl (List.getElem?_eq_getElem hj), Int.toNat_natCast]
    refine ⟨_, a3, c3, rfl, r1, by omega, l.set j (IntKind.i64.wrap (v3 - 2)), ?_, by simp⟩
    unfold iR
    rw [← List.map_set]
  · split
    · exact ⟨_, a', c', rfl, q1, by omega, [], rfl, by simp⟩
    · exact ⟨_, a', c', rfl, q1, by omega, l, rfl, Nat.le_refl _⟩
theorem IsH.mono {n m : Nat} {r : Rw} (h : IsH n r) (hn : n ≤ m) : IsH m r := by
  obtain ⟨l, e, h⟩ := h
  exact ⟨l, e, by omega⟩
theorem Drew.imp {α : Type} {x : Rw} {a n : Int} {r : Option (α × Rw × Int × Int)} {Q S : α → Prop} (h : Drew x a n r Q) (hs : ∀ v, Q v → S v) : Drew x a n r S := by
  obtain ⟨v, a', c', e, h1, h2, h3⟩ := h
  exact ⟨v, a', c', e, h1, h2, hs v h3⟩
theorem hyd_p4 {k : Nat} {x : Rw} (hx : bytes x) (hk : 200 < k) {m : Nat} (hm : m ≤ 40) {a c : Int} (h0 : 0 ≤ a) (h1 : a ≤ 10000) : Drew x a 86 (spec_l1Cur_hydra_p4 k m x a c) (IsH 41) := by
  unfold spec_l1Cur_hydra_p4
  exact Drew.mono (hyd_l0 (M := 6) (N := 41) hx (by omega) (by omega) (fun l a c g1 g2 g3 g4 => Drew.imp (hyd_p5 hx g2 (by omega) g3 g4) fun v hv => hv.mono g1) m k a c [-1] (by omega) (by simp) (by simp; omega) (by intro p hp; simp at hp; subst hp; decide) h0 (by omega)) (by omega)
theorem hydra_ok {k : Nat} {x : Rw} (hx : bytes x) (hk : 200 < k) {a c : Int} (h0 : 0 ≤ a) (h1 : a ≤ 9000) : Drew x a 92 (spec_l1Cur_hydra k x a c) (IsH 41) := by
  unfold spec_l1Cur_hydra
  refine Drew.mono (Drew.bind (n := 2) (m := 90) (pick_ok (m := 9) hx h0 (by omega) (by omega)) fun v a1 c1 q1 q2 q3 => ?_) (by omega)
  simp only
  unfold spec_l1Cur_hydra_p3
  refine Drew.mono (Drew.bind (n := 2) (m := 88) (one_ok (m := 20) hx q1 (by omega) (by omega)) fun b a2 c2 p1 p2 _ => ?_) (by omega)
  simp only
  obtain ⟨j, rfl⟩ : ∃ j : Nat, v = j := ⟨v.toNat, by omega⟩
  split
  · refine Drew.mono (Drew.bind (n := 2) (m := 86) (pick_ok (m := 2) hx p1 (by omega) (by omega)) fun v3 a3 c3 r1 r2 r3 => ?_) (by omega)
    simp only
    obtain ⟨i, rfl⟩ : ∃ i : Nat, v3 = i := ⟨v3.toNat, by omega⟩
    have w1 : IntKind.i64.wrap (40 - (i : Int)) = ((40 - i : Nat) : Int) := by rw [wid (by omega) (by omega)]; omega
    rw [w1]
    exact hyd_p4 hx hk (by omega) r1 (by omega)
  · exact Drew.mono (hyd_p4 hx hk (by omega) p1 (by omega)) (by omega)
end Go.Proofs.Try

namespace Go.Proofs.Try
open Go Go.AX Fo
/-! ### trees are known by their data -/
theorem map_pt : ∀ {l l' : List Cs}, (l.map fun c => [D.pt c]) = l'.map (fun c => [D.pt c]) → l = l' := by
  intro l
  induction l with
  | nil => intro l' h; cases l' with | nil => rfl | cons a b => simp at h
  | cons a l ih =>
    intro l' h
    cases l' with
    | nil => simp at h
    | cons b l' =>
      simp only [List.map_cons, List.cons.injEq, D.pt.injEq, and_true] at h
      rw [h.1, ih h.2]
mutual
theorem cells_inj : ∀ {t u : HT}, t.cells = u.cells → t = u
  | .node n l, .node m r, h => by
    rw [node_cells, node_cells] at h
    simp only [List.cons.injEq, D.int.injEq, D.sl.injEq, true_and, and_true] at h
    rw [h.1, cellsL_inj (map_pt h.2)]
theorem cellsL_inj : ∀ {l r : List HT}, HT.cellsL l = HT.cellsL r → l = r
  | [], [], _ => rfl
  | [], _ :: _, h => by simp [HT.cellsL] at h
  | _ :: _, [], h => by simp [HT.cellsL] at h
  | t :: l, u :: r, h => by
    simp only [HT.cellsL, List.cons.injEq] at h
    rw [cells_inj h.1, cellsL_inj h.2]
end
theorem hydraOf_eq {t : HT} (h : t.small = true) : lib_hydraOf t.cells = some (flR (flT [] (-1) t)) := by
  have hx : ∃ u : HT, u.cells = t.cells ∧ u.small = true := ⟨t, rfl, h⟩
  unfold lib_hydraOf
  rw [dif_pos hx, cells_inj hx.choose_spec.1]
theorem text_eq {t : HT} (h : t.small = true) (hl : (txT t).length ≤ 1099511627776) : lib_text t.cells = some ⟨(txT t).toArray⟩ := by
  have hx : ∃ u : HT, u.cells = t.cells ∧ u.small = true ∧ (txT u).length ≤ 1099511627776 := ⟨t, rfl, h, hl⟩
  unfold lib_text
  rw [dif_pos hx, cells_inj hx.choose_spec.1]
/-! ### the tree of an ordinal -/
/-- A forest with no numbers. -/
def Fo.zl : Fo → List HT
  | .nil => []
  | .cons a b => .node 0 a.zl :: b.zl
theorem zl_app (a b : Fo) : (a.app b).zl = a.zl ++ b.zl := by
  induction a with
  | nil => rfl
  | cons x y _ ih => simp [Fo.app, zl, ih]
theorem sh_zl : ∀ a : Fo, HT.shL a.zl = a := by
  intro a
  induction a with
  | nil => exact shL_nil
  | cons a b iha ihb => rw [zl, shL_cons, sh_node, iha, ihb]
theorem zl_len (a : Fo) : a.zl.length ≤ a.size := by
  induction a with
  | nil => exact Nat.le_refl _
  | cons a b _ ihb => simp only [zl, List.length_cons, Fo.size]; omega
theorem small_zl : ∀ (a : Fo), a.size ≤ 1000000 → HT.smallL a.zl = true ∧ (HT.node 0 a.zl).small = true := by
  intro a
  induction a with
  | nil => intro _; exact ⟨rfl, rfl⟩
  | cons a b iha ihb =>
    intro h
    simp only [Fo.size] at h
    have ha := iha (by omega)
    have hb := ihb (by omega)
    have hl := zl_len (.cons a b)
    simp only [Fo.size] at hl
    have e : HT.smallL (Fo.cons a b).zl = true := by
      rw [zl, HT.smallL, ha.2, hb.1]; rfl
    exact ⟨e, by rw [HT.small, e, decide_eq_true (by omega)]; rfl⟩
theorem small_labs : ∀ (a : Fo) (s : Nat), a.size ≤ 1000000 → HT.smallL (a.labs s) = true ∧ ∀ n, (HT.node n (a.labs s)).small = true := by
  intro a
  induction a with
  | nil => intro s _; exact ⟨rfl, fun n => rfl⟩
  | cons a b iha ihb =>
    intro s h
    simp only [Fo.size] at h
    have ha := iha (s + 1) (by omega)
    have hb := ihb (s + 1 + a.size) (by omega)
    have hl := labs_len (.cons a b) s
    simp only [Fo.size] at hl
    have e : HT.smallL ((Fo.cons a b).labs s) = true := by
      rw [labs, HT.smallL, ha.2, hb.1]; rfl
    exact ⟨e, fun n => by rw [HT.small, e, decide_eq_true (by omega)]; rfl⟩
/-- The forest of an ordinal. -/
def grF : T → Fo
  | .nil => .nil
  | .cons e c l => (rep c.toNat (grF e)).app (grF l)
theorem meet_gr {e : T} : ∀ {t : T} {B : Int}, pos t → sm B t → 0 ≤ B → B ≤ 1000000 → (grF (meetT e 1 t)).size = (grF t).size + (grF e).size + 1 := by
  intro t
  induction t with
  | nil => intro B _ _ _ _; simp [meetT, grF, rep, Fo.app, Fo.size]
  | cons x d l _ ihl =>
    intro B hp hs h0 h1
    have hp1 : 1 ≤ d := hp.1
    have hs1 := hs.2.1
    simp only [meetT]
    split
    · simp only [grF, app_size, ihl hp.2 hs.2.2 h0 h1]
      omega
    · split
      · rename_i q
        obtain rfl := cmpT_eq.1 q
        have e1 : w (1 + d) = 1 + d := wid (by omega) (by omega)
        have e2 : (1 + d).toNat = d.toNat + 1 := by omega
        simp only [grF, app_size, e1, e2, rep, Fo.size]
        omega
      · simp only [grF, app_size, rep_size, Int.toNat_one]
        omega
theorem gr_ord : ∀ (f : Fo) (acc : T) (N : Nat), gd N acc → acc.size ≤ N → N + f.size ≤ 10000 → (grF (ordA f acc)).size = (grF acc).size + f.size := by
  intro f
  induction f with
  | nil => intro acc N _ _ _; rfl
  | cons a b iha ihb =>
    intro acc N h hz hN
    simp only [Fo.size] at hN ⊢
    obtain ⟨g1, z1⟩ := ordA_ok a .nil 0 ⟨trivial, trivial, trivial⟩ (by simp [T.size]) (by omega)
    rw [Nat.zero_add] at g1 z1
    have sa : sm ((a.size + 1 : Nat) : Int) (ordA a .nil) := by
      have : ∀ t : T, sm (a.size : Int) t → sm ((a.size + 1 : Nat) : Int) t := by
        intro t
        induction t with
        | nil => intro _; trivial
        | cons e c l ihe ihl => intro h; exact ⟨ihe h.1, by have := h.2.1; omega, ihl h.2.2⟩
      exact this _ g1.2.2
    obtain ⟨g2, _⟩ := gd_meet (c := 1) h sa (by omega) (by omega)
    have en : (N : Int) + ((a.size + 1 : Nat) : Int) = ((N + a.size + 1 : Nat) : Int) := by omega
    rw [en] at g2
    have z2 := meetT_size (ordA a .nil) 1 acc
    have ia := iha .nil 0 ⟨trivial, trivial, trivial⟩ (by simp [T.size]) (by omega)
    have ib := ihb (meetT (ordA a .nil) 1 acc) (N + a.size + 1) g2 (by omega) (by omega)
    have im := meet_gr (e := ordA a .nil) h.2.1 h.2.2 (by omega) (by omega)
    rw [ordA, ib, im, ia]
    simp only [grF, Fo.size]
    omega
theorem gr_ordF {f : Fo} (h : f.size ≤ 1000) : (grF (ordF f)).size = f.size := by
  have := gr_ord f .nil 0 ⟨trivial, trivial, trivial⟩ (by simp [T.size]) (by omega)
  unfold ordF
  rw [this]
  simp [grF, Fo.size]
theorem cnt_reps (a : Fo) (y : T) : ∀ g, cnt (rep g a) y = if cmpT (ordF a) y = 0 then (g : Int) else 0 := by
  intro g
  induction g with
  | zero => simp [rep, cnt]
  | succ g ih =>
    simp only [rep, cnt, ih]
    split <;> omega
/-- The ordinal of an ordinal's forest. -/
theorem ord_gr : ∀ (t : T) (p : Option T), formA p t = true → (grF t).size ≤ 10000 → (∀ y, cnt (grF t) y = coef t y) ∧ ordF (grF t) = t := by
  intro t
  induction t with
  | nil => intro p _ _; exact ⟨fun y => rfl, rfl⟩
  | cons e c l ihe ihl =>
    intro p h hz
    have hf := form_falls h
    have hp := form_pos h
    simp only [formA, Bool.and_eq_true, decide_eq_true_eq] at h
    obtain ⟨⟨⟨⟨h1, h2⟩, h3⟩, h4⟩, h5⟩ := h
    simp only [grF, app_size, rep_size] at hz
    have hc : 1 ≤ c.toNat := by omega
    have hm : (grF e).size + 1 ≤ c.toNat * ((grF e).size + 1) := Nat.le_mul_of_pos_left _ hc
    obtain ⟨_, ie⟩ := ihe none h3 (by omega)
    obtain ⟨il, _⟩ := ihl (some e) h5 (by omega)
    have hcnt : ∀ y, cnt (grF (.cons e c l)) y = coef (.cons e c l) y := by
      intro y
      rw [grF, cnt_app, cnt_reps, ie, il, coef]
      split
      · omega
      · rfl
    refine ⟨hcnt, ?_⟩
    have hz2 : (grF (.cons e c l)).size ≤ 10000 := by simp only [grF, app_size, rep_size]; omega
    obtain ⟨g, _⟩ := ordF_ok (grF (.cons e c l)) hz2
    exact eq_of_coef g.1 hf g.2.1 hp fun y => by rw [coef_ordF (by omega), hcnt]
theorem zrow_app (a b : List HT) : (HT.cellsL (a ++ b)).map (fun c => [D.pt c]) = (HT.cellsL a).map (fun c => [D.pt c]) ++ (HT.cellsL b).map (fun c => [D.pt c]) := by
  have : HT.cellsL (a ++ b) = HT.cellsL a ++ HT.cellsL b := by
    induction a with
    | nil => rfl
    | cons t a ih => simp [HT.cellsL, ih]
  rw [this, List.map_append]
/-- Rows of trees. -/
def zR (a : Fo) : Rw := (HT.cellsL a.zl).map fun c => [D.pt c]
theorem zR_app (a b : Fo) : zR (a.app b) = zR a ++ zR b := by unfold zR; rw [zl_app, zrow_app]
theorem zR_len (a : Fo) : (zR a).length ≤ a.size := by unfold zR; rw [List.length_map, cellsL_len]; exact zl_len a
theorem app_assoc (a b c : Fo) : (a.app b).app c = a.app (b.app c) := by
  induction a with
  | nil => rfl
  | cons x y _ ih => simp [Fo.app, ih]
theorem rep_snoc (a : Fo) : ∀ g, (rep g a).app (.cons a .nil) = rep (g + 1) a := by
  intro g
  induction g with
  | zero => rfl
  | succ g ih => rw [rep, Fo.app, ih]; rfl
theorem grown_l1 {k : Nat} {e : T} {x184 : Int} {a1 : Rw} {i : Nat} {K2 : Int → Rw → Option (Option Cs × Int)} (hr : ∀ m : Nat, (grF e).size + 1 ≤ m → m ≤ 1000 → impl_grown k e.rows m = some (some (HT.node 0 (grF e).zl).cells, ((m - ((grF e).size + 1) : Nat) : Int))) : ∀ (n j r m : Nat) (acc : Fo), (j : Int) + (r : Int) = x184 → r < n → r * ((grF e).size + 1) ≤ m → m ≤ 1000 → acc.size ≤ 1000000 → acc.size + r * ((grF e).size + 1) ≤ 1000000 → j + r ≤ 2000000 → impl_grown_l1 (impl_grown k) a1 i e.rows x184 K2 n j m (zR acc) = K2 ((m - r * ((grF e).size + 1) : Nat) : Int) (zR (acc.app (rep r (grF e)))) := by
  have h3 : cap = 1099511627776 := rfl
  intro n
  induction n with
  | zero => intro j r m acc _ h; omega
  | succ n ih =>
    intro j r m acc hj hn hm hm2 ha ha2 hjr
    rw [impl_grown_l1]
    cases r with
    | zero =>
      rw [if_neg (by omega)]
      have : ∀ a : Fo, a.app .nil = a := by
        intro a
        induction a with
        | nil => rfl
        | cons x y _ ih => simp [Fo.app, ih]
      simp [rep, this]
    | succ r =>
      rw [Nat.succ_mul] at hm ha2
      have hl := zR_len acc
      have w1 : IntKind.i64.wrap ((j : Int) + 1) = ((j + 1 : Nat) : Int) := by rw [wid (by omega) (by omega)]; omega
      rw [if_pos (by omega), hr m (by omega) hm2, Option.bind_some]
      simp only [optC]
      rw [if_pos (by omega), w1]
      have e1 : zR acc ++ [[D.pt (HT.node 0 (grF e).zl).cells]] = zR (acc.app (.cons (grF e) .nil)) := by rw [zR_app]; rfl
      have hz : (acc.app (.cons (grF e) .nil)).size = acc.size + ((grF e).size + 1) := by rw [app_size]; rfl
      rw [e1, ih (j + 1) r (m - ((grF e).size + 1)) _ (by omega) (by omega) (by omega) (by omega) (by omega) (by omega) (by omega), app_assoc]
      have e2 : (Fo.cons (grF e) .nil).app (rep r (grF e)) = rep (r + 1) (grF e) := rfl
      rw [e2, Nat.succ_mul, show m - ((grF e).size + 1) - r * ((grF e).size + 1) = m - (r * ((grF e).size + 1) + ((grF e).size + 1)) from by omega]
theorem grown_eq : ∀ (n k : Nat) (t : T) (p : Option T) (m : Nat), t.size ≤ n → 1100000 + n < k → formA p t = true → (grF t).size + 1 ≤ m → m ≤ 1000 → t.size ≤ 1000 → impl_grown k t.rows m = some (some (HT.node 0 (grF t).zl).cells, ((m - ((grF t).size + 1) : Nat) : Int)) := by
  have h3 : cap = 1099511627776 := rfl
  intro n
  induction n with
  | zero =>
    intro k t p m ht hk _ hm hm2 _
    have : t = .nil := by cases t with | nil => rfl | cons a b c => simp only [T.size] at ht; omega
    subst this
    match k, hk with
    | k + 1, _ =>
      have w1 : IntKind.i64.wrap ((m : Int) - 1) = ((m - 1 : Nat) : Int) := by rw [wid (by omega) (by omega)]; omega
      rw [impl_grown]
      unfold impl_grown_b
      rw [w1, if_neg (by omega), if_pos (by simp [T.rows, h3])]
      rfl
  | succ n ih =>
    intro k t p m ht hk hform hm hm2 ht2
    match k, hk with
    | k + 1, hk =>
      have w1 : IntKind.i64.wrap ((m : Int) - 1) = ((m - 1 : Nat) : Int) := by rw [wid (by omega) (by omega)]; omega
      have hlt := t.len_size
      rw [impl_grown]
      unfold impl_grown_b
      rw [w1, if_neg (by omega), if_pos (by rw [T.rows_len]; omega)]
      have loop : ∀ (u : T) (q : Option T) (i m : Nat) (acc : Fo), u.size ≤ n + 1 → u.size ≤ 1000 → formA q u = true → (grF u).size ≤ m → m ≤ 1000 → acc.size + (grF u).size ≤ 100000 → impl_grown_l0 k (impl_grown k) t.rows (fun v153 v154 => impl_grown_p4 v153 v154) u.rows i m (zR acc) = some (some [D.int .i64 0, D.sl (zR (acc.app (grF u)))], ((m - (grF u).size : Nat) : Int)) := by
        intro u
        induction u with
        | nil =>
          intro q i m acc _ _ _ _ _ _
          have : ∀ a : Fo, a.app .nil = a := by
            intro a
            induction a with
            | nil => rfl
            | cons x y _ ih => simp [Fo.app, ih]
          simp [T.rows, impl_grown_l0, impl_grown_p4, grF, this, Fo.size]
        | cons e c l _ ihl =>
          intro q i m acc hu hu2 hform hm hm2 ha
          simp only [formA, Bool.and_eq_true, decide_eq_true_eq] at hform
          obtain ⟨⟨⟨⟨g1, g2⟩, g3⟩, g4⟩, g5⟩ := hform
          simp only [T.size] at hu hu2
          simp only [grF, app_size, rep_size] at hm ha
          rw [T.rows, impl_grown_l0]
          simp only [cell_si]
          have hc : ((0 : Nat) : Int) + (c.toNat : Int) = c := by omega
          have L := grown_l1 (k := k) (e := e) (x184 := c) (a1 := t.rows) (i := i) (K2 := fun v201 v202 => impl_grown_l0 k (impl_grown k) t.rows (fun v153 v154 => impl_grown_p4 v153 v154) l.rows (i + 1) v201 v202) (fun m h1 h2 => ih k e none m (by omega) (by omega) g3 h1 h2 (by omega)) k 0 c.toNat m acc hc (by omega) (by omega) hm2 (by omega) (by omega) (by omega)
          rw [show ((0 : Nat) : Int) = (0 : Int) from rfl] at L
          rw [L, ihl (some e) (i + 1) _ _ (by omega) (by omega) g5 (by omega) (by omega) (by rw [app_size, rep_size]; omega), app_assoc]
          simp only [grF, app_size, rep_size]
          rw [show m - c.toNat * ((grF e).size + 1) - (grF l).size = m - (c.toNat * ((grF e).size + 1) + (grF l).size) by omega]
      have := loop t p 0 (m - 1) .nil ht ht2 hform (by omega) (by omega) (by simp only [Fo.size]; omega)
      refine (this.trans ?_)
      rw [show m - 1 - (grF t).size = m - ((grF t).size + 1) by omega]
      rfl
end Go.Proofs.Try

namespace Go.Proofs.Try
open Go Go.AX Fo
theorem qS_lp {a1 : Rw} {a : List Int} : ∀ (l : List Int) (i : Nat), a.drop i = l → laws_qSame_l0 a1 (iR a) (some true) (iR l) i = some true := by
  intro l
  induction l with
  | nil => intro i _; rfl
  | cons p l ih =>
    intro i hd
    have hp : a[i]? = some p := by
      have : (a.drop i)[0]? = some p := by rw [hd]; rfl
      rwa [List.getElem?_drop, Nat.add_zero] at this
    have hd2 : a.drop (i + 1) = l := by
      have : (a.drop i).drop 1 = l := by rw [hd]; rfl
      rwa [List.drop_drop] at this
    rw [iR_cons, laws_qSame_l0]
    simp only [cell_i]
    rw [row_iR rfl hp, if_pos rfl, ih (i + 1) hd2]
theorem qS {a : List Int} (hc : a.length ≤ cap) : laws_qSame (iR a) (iR a) = some true := by
  unfold laws_qSame
  rw [if_pos rfl, if_pos (by rw [iR_len]; omega), qS_lp a 0 rfl]
/-- The text of a forest. -/
def Fo.tx : Fo → List UInt8
  | .nil => []
  | .cons a b => 40 :: (a.tx ++ 41 :: b.tx)
theorem tx_len (a : Fo) : a.tx.length = 2 * a.size := by
  induction a with
  | nil => rfl
  | cons a b iha ihb => simp only [tx, List.length_cons, List.length_append, iha, ihb, Fo.size]; omega
theorem tx_labs : ∀ (a : Fo) (s : Nat), txL (a.labs s) = a.tx := by
  intro a
  induction a with
  | nil => intro s; rw [labs, txL]; rfl
  | cons a b iha ihb => intro s; rw [labs, txL, txT, iha, ihb]; simp [tx]
/-- The text of a hydra. -/
def Fo.text (f : Fo) : List UInt8 := 40 :: (f.tx ++ [41])
theorem tx_tree (f : Fo) : txT f.tree = f.text := by unfold tree text; rw [txT, tx_labs]
theorem text_len (f : Fo) : f.text.length = 2 * (f.size + 1) := by unfold text; simp only [List.length_cons, List.length_append, tx_len, List.length_nil]; omega
def bl (l : List UInt8) : ByteArray := ⟨l.toArray⟩
theorem bl_size (l : List UInt8) : (bl l).size = l.length := by show l.toArray.size = _; simp
theorem bl_at {α : Type} {l : List UInt8} {i : Nat} {b : UInt8} (h : l[i]? = some b) {K : UInt8 → Option α} : byteD (bl l) (i : Int) K = K b := by
  obtain ⟨hi, e⟩ := List.getElem?_eq_some_iff.1 h
  have h' : i < (bl l).size := by rw [bl_size]; exact hi
  unfold byteD
  have hb : (bl l)[((i : Nat) : Int).toNat]? = some ((bl l)[i]'h') := by rw [Int.toNat_natCast]; exact getElem?_pos (bl l) i h'
  rw [if_pos (by omega), hb]
  have e2 : (bl l)[i]'h' = b := e
  show K ((bl l)[i]'h') = K b
  rw [e2]
theorem hydraText_eq {k : Nat} (hk : 40 < k) {f : Fo} (hf : f.size ≤ 39) : impl_HydraText k (iR (hy f)) = some (bl f.text, true) := by
  unfold impl_HydraText
  rw [isHydra_eq hk, hyB_hy hf, Option.bind_some, if_pos rfl, treeOf_hy hf]
  have hs : f.tree.small = true := (small_labs f 1 (by omega)).2 0
  rw [text_eq hs (by rw [tx_tree, text_len]; omega), tx_tree]
  rfl
theorem par_open {l : List UInt8} {K0 : Rw → Option (Rw × Bool)} {own : Int} {m j : Nat} {P : List Int} {out : List Int} (hb : l[j]? = some 40) (hj : j ≤ 1000) (hp : 0 < P.length ∨ j = 0) (hP : P.length ≤ 1000) (ho : out.length < 40) : impl_ParseHydra_l0 (bl l) K0 (m + 1) (iR (P ++ [own])) j (iR out) = impl_ParseHydra_l0 (bl l) K0 m (iR (P ++ [own] ++ [(out.length : Int)])) ((j + 1 : Nat) : Int) (iR (out ++ [own])) := by
  have h3 : cap = 1099511627776 := rfl
  have hi : j < l.length := (List.getElem?_eq_some_iff.1 hb).1
  have hl : (iR (P ++ [own])).length = P.length + 1 := by rw [iR_len]; simp
  have w1 : IntKind.i64.wrap (((iR (P ++ [own])).length : Int) - 1) = ((P.length : Nat) : Int) := by rw [hl, wid (by omega) (by omega)]; omega
  have w2 : IntKind.i64.wrap ((j : Int) + 1) = ((j + 1 : Nat) : Int) := by rw [wid (by omega) (by omega)]; omega
  have w3 : IntKind.i64.wrap ((((iR out).length + ([[D.int .i64 own]] : Rw).length : Nat) : Int) - 1) = (out.length : Int) := by rw [iR_len, wid (by simp <;> omega) (by simp <;> omega)]; simp
  have hr : (P ++ [own])[P.length]? = some own := by simp
  have row : ∀ (K : Int → Option (Rw × Bool)), row_i (iR (P ++ [own])) ((P.length : Nat) : Int) K = K own := fun K => row_iR rfl hr K
  have h40 : (((40 : UInt8).toNat : Nat) : Int) = (40 : Int) := rfl
  rw [impl_ParseHydra_l0, if_pos (by rw [bl_size]; omega), bl_at hb, if_pos h40]
  have c1 : ((iR out).length : Int) < 40 := by rw [iR_len]; omega
  have c2 : (0 : Int) ≤ ((P.length : Nat) : Int) ∧ ((P.length : Nat) : Int) < ((iR (P ++ [own])).length : Int) := by rw [hl]; omega
  have c3 : (iR out).length + 1 ≤ cap := by rw [iR_len]; omega
  have c4 : (iR (P ++ [own])).length + 1 ≤ cap := by rw [hl]; omega
  by_cases hq : (1 : Int) < ((iR (P ++ [own])).length : Int)
  · rw [if_pos hq, if_pos c1, w1, if_pos c2, row, if_pos c3, if_pos c4]
    rw [show ((iR out).length + ([[D.int .i64 own]] : Rw).length : Int) = (((iR out).length + ([[D.int .i64 own]] : Rw).length : Nat) : Int) by push_cast; rfl, w3, w2, iR_snoc, iR_snoc]
  · have hj0 : j = 0 := by
      rw [hl] at hq
      omega
    rw [if_neg hq, if_pos (by omega), if_pos c1, w1, if_pos c2, row, if_pos c3, if_pos c4]
    rw [show ((iR out).length + ([[D.int .i64 own]] : Rw).length : Int) = (((iR out).length + ([[D.int .i64 own]] : Rw).length : Nat) : Int) by push_cast; rfl, w3, w2, iR_snoc, iR_snoc]
theorem par_close {l : List UInt8} {K0 : Rw → Option (Rw × Bool)} {m j : Nat} {P : List Int} {own : Int} {out : Rw} (hb : l[j]? = some 41) (hj : j ≤ 1000) (hp : 0 < P.length) (hP : P.length ≤ 1000) : impl_ParseHydra_l0 (bl l) K0 (m + 1) (iR (P ++ [own])) j out = impl_ParseHydra_l0 (bl l) K0 m (iR P) ((j + 1 : Nat) : Int) out := by
  have hi : j < l.length := (List.getElem?_eq_some_iff.1 hb).1
  have hl : (iR (P ++ [own])).length = P.length + 1 := by rw [iR_len]; simp
  have w1 : IntKind.i64.wrap (((iR (P ++ [own])).length : Int) - 1) = ((P.length : Nat) : Int) := by rw [hl, wid (by omega) (by omega)]; omega
  have w2 : IntKind.i64.wrap ((j : Int) + 1) = ((j + 1 : Nat) : Int) := by rw [wid (by omega) (by omega)]; omega
  have h41 : ¬ (((41 : UInt8).toNat : Nat) : Int) = (40 : Int) := by decide
  have h41' : (((41 : UInt8).toNat : Nat) : Int) = (41 : Int) := rfl
  rw [impl_ParseHydra_l0, if_pos (by rw [bl_size]; omega), bl_at hb, if_neg h41, if_pos h41', if_pos (by rw [hl]; omega), w1, if_pos (by rw [hl]; omega), Int.toNat_natCast, if_pos (by rw [hl]; omega), w2, iR_take]
  have : (P ++ [own]).take P.length = P := by simp
  rw [this]
theorem par_lp {l : List UInt8} {K0 : Rw → Option (Rw × Bool)} (hl : l.length ≤ 500) : ∀ (f : Fo) (post : List UInt8) (m j own : Nat) (P : List Int) (out : List Int), l.drop j = f.tx ++ post → 0 < P.length → P.length + f.size ≤ 900 → out.length + f.size ≤ 40 → impl_ParseHydra_l0 (bl l) K0 (m + 2 * f.size) (iR (P ++ [(own : Int)])) j (iR out) = impl_ParseHydra_l0 (bl l) K0 m (iR (P ++ [(own : Int)])) ((j + 2 * f.size : Nat) : Int) (iR (out ++ f.fl own out.length)) := by
  intro f
  induction f with
  | nil => intro post m j own P out _ _ _ _; simp [fl, Fo.size]
  | cons a b iha ihb =>
    intro post m j own P out hd hp hP ho
    simp only [Fo.size] at hP ho ⊢
    have hd1 : l.drop j = 40 :: (a.tx ++ 41 :: (b.tx ++ post)) := by rw [hd, tx]; simp
    have g0 : l[j]? = some 40 := by
      have : (l.drop j)[0]? = some 40 := by rw [hd1]; rfl
      rwa [List.getElem?_drop, Nat.add_zero] at this
    have hj : j < l.length := (List.getElem?_eq_some_iff.1 g0).1
    have hd2 : l.drop (j + 1) = a.tx ++ (41 :: (b.tx ++ post)) := by
      have : (l.drop j).drop 1 = a.tx ++ 41 :: (b.tx ++ post) := by rw [hd1]; rfl
      rwa [List.drop_drop] at this
    have hd3 : l.drop (j + 1 + 2 * a.size) = 41 :: (b.tx ++ post) := by
      have : (l.drop (j + 1)).drop a.tx.length = 41 :: (b.tx ++ post) := by rw [hd2]; simp
      rwa [List.drop_drop, tx_len] at this
    have g1 : l[j + 1 + 2 * a.size]? = some 41 := by
      have : (l.drop (j + 1 + 2 * a.size))[0]? = some 41 := by rw [hd3]; rfl
      rwa [List.getElem?_drop, Nat.add_zero] at this
    have hj2 : j + 1 + 2 * a.size < l.length := (List.getElem?_eq_some_iff.1 g1).1
    have hd4 : l.drop (j + 1 + 2 * a.size + 1) = b.tx ++ post := by
      have : (l.drop (j + 1 + 2 * a.size)).drop 1 = b.tx ++ post := by rw [hd3]; rfl
      rwa [List.drop_drop] at this
    have e1 : m + 2 * (a.size + b.size + 1) = (m + 2 * b.size + 1 + 2 * a.size) + 1 := by omega
    rw [e1, par_open g0 (by omega) (.inl hp) (by omega) (by omega)]
    rw [iha (41 :: (b.tx ++ post)) (m + 2 * b.size + 1) (j + 1) out.length (P ++ [(own : Int)]) (out ++ [(own : Int)]) hd2 (by simp) (by simp; omega) (by simp; omega)]
    rw [par_close g1 (by omega) (by simp) (by simp; omega)]
    rw [ihb post m (j + 1 + 2 * a.size + 1) own P _ hd4 hp (by omega) (by simp; omega)]
    simp only [fl, List.length_append, List.length_singleton, List.append_assoc, List.singleton_append, List.cons_append, fl_len, List.length_cons, List.length_nil]
    rw [show j + 1 + 2 * a.size + 1 + 2 * b.size = j + 2 * (a.size + b.size + 1) by omega]
    simp only [Nat.zero_add, List.nil_append]
    rw [show out.length + (a.size + 1) = out.length + 1 + a.size by omega]
theorem parse_eq {k : Nat} (hk : 300 < k) {f : Fo} (hf : f.size ≤ 39) : impl_ParseHydra k (bl f.text) = some (iR (hy f), true) := by
  have hl := text_len f
  unfold impl_ParseHydra
  obtain ⟨m, rfl⟩ : ∃ m, k = m + 1 + 1 + 2 * f.size + 1 := ⟨k - (1 + 1 + 2 * f.size + 1), by omega⟩
  have g0 : f.text[0]? = some 40 := rfl
  have hd : f.text.drop 1 = f.tx ++ [41] := rfl
  have g1 : f.text[1 + 2 * f.size]? = some 41 := by
    have : (f.text.drop 1)[f.tx.length]? = some 41 := by rw [hd]; simp
    rwa [List.getElem?_drop, tx_len] at this
  have s1 := par_open (l := f.text) (K0 := fun (v122 : Rw) => (impl_ParseHydra_p3 (m + 1 + 1 + 2 * f.size + 1) (bl f.text) v122)) (own := -1) (m := m + 1 + 1 + 2 * f.size) (j := 0) (P := []) (out := []) g0 (by omega) (.inr rfl) (by simp) (by simp)
  have e0 : (([[D.int .i64 (-1)]] : Rw)) = iR ([] ++ [(-1 : Int)]) := rfl
  have e1 : ([] : Rw) = iR ([] : List Int) := rfl
  rw [e0]
  conv => lhs; rw [e1]
  rw [show (0 : Int) = ((0 : Nat) : Int) from rfl, s1]
  have s2 := par_lp (l := f.text) (K0 := fun (v122 : Rw) => (impl_ParseHydra_p3 (m + 1 + 1 + 2 * f.size + 1) (bl f.text) v122)) (by omega) f [41] (m + 1 + 1) 1 0 [-1] [-1] hd (by simp) (by simp; omega) (by simp; omega)
  have s3 := par_close (l := f.text) (K0 := fun (v122 : Rw) => (impl_ParseHydra_p3 (m + 1 + 1 + 2 * f.size + 1) (bl f.text) v122)) (m := m + 1) (j := 1 + 2 * f.size) (P := [-1]) (own := ((0 : Nat) : Int)) (out := iR ([-1] ++ f.fl ((0 : Nat) : Int) ([-1] : List Int).length)) g1 (by omega) (by simp) (by simp)
  have s23 := s2.trans s3
  refine (Eq.trans ?_ s23).trans ?_
  · rfl
  · rw [impl_ParseHydra_l0, if_neg (by rw [bl_size, hl]; omega)]
    have e2 : iR ([-1] ++ f.fl ((0 : Nat) : Int) ([-1] : List Int).length) = iR (hy f) := rfl
    rw [e2]
    unfold impl_ParseHydra_p3
    rw [hydraText_eq (by omega) hf, Option.bind_some, if_pos rfl, if_neg (by simp)]
    rfl
end Go.Proofs.Try

namespace Go.Proofs.Try
open Go Go.AX Fo T
theorem qsame_lp {rec_ : Rw → Rw → Option Bool} {a : T} (hr : ∀ e : T, e.size < a.size → rec_ e.rows e.rows = some true) : ∀ (t : T) (i : Nat), drop a i = t → laws_qSameOrdinal_l0 rec_ a.rows a.rows (laws_qSameOrdinal_p3) t.rows i = some true := by
  intro t
  induction t with
  | nil => intro i _; rfl
  | cons e c l _ ih =>
    intro i hd
    have hs := drop_cons_size hd
    simp only [rows, laws_qSameOrdinal_l0, cell_T]
    rw [row_T rfl hd, if_pos rfl, hr e (by omega), Option.bind_some, if_pos rfl]
    exact ih (i + 1) (drop_succ hd)
theorem qsame_ord : ∀ (k : Nat) (a : T), a.size < k → a.size ≤ cap → laws_qSameOrdinal k a.rows a.rows = some true := by
  intro k
  induction k with
  | zero => intro a h _; omega
  | succ k ih =>
    intro a h hc
    have := a.len_size
    simp only [laws_qSameOrdinal, laws_qSameOrdinal_b]
    rw [if_pos trivial, if_pos (by rw [rows_len]; omega)]
    exact qsame_lp (fun e he => ih e (by omega) (by omega)) a 0 (drop_zero a)
theorem hydraOf_ord {k : Nat} (hk : 2000000 < k) (hkc : k ≤ cap) {t : T} (ho : ordP t = true) (hz : (grF t).size ≤ 39) : impl_HydraOf k t.rows = some (iR (hy (grF t)), true) := by
  have h3 : cap = 1099511627776 := rfl
  have hs := ordP_size ho
  unfold impl_HydraOf
  have g := grown_eq t.size k t none 40 (Nat.le_refl _) (by omega) (ordP_form ho) (by omega) (by omega) (by omega)
  rw [IsOrdinal_eq k t (by omega) (by omega), ho, Option.bind_some, if_pos rfl, show (40 : Int) = ((40 : Nat) : Int) from rfl, g, Option.bind_some]
  simp only [optC]
  rw [hydraOf_eq (small_zl (grF t) (by omega)).2, flR_sh, sh_node, sh_zl, if_pos hz]
  rfl
theorem hyos_true {x y : Rw} (hx : bytes x) : laws_FnHydrasOfOrdinals 3000000 x y = some true := by
  have h3 : cap = 1099511627776 := rfl
  obtain ⟨k, hk⟩ : ∃ k : Nat, k = 3000000 := ⟨_, rfl⟩
  rw [← hk]
  unfold laws_FnHydrasOfOrdinals laws_big
  have p2 : laws_FnHydrasOfOrdinals_p2 k x = some true := by
    unfold laws_FnHydrasOfOrdinals_p2 spec_DrawHydraOrdinal
    obtain ⟨r, a1, c1, e1, p1, p2, l, rfl, hl⟩ := hydra_ok (k := k) (c := 0) hx (by omega) (show (0 : Int) ≤ 0 by omega) (by omega)
    rw [e1, Option.bind_some, Option.bind_some]
    unfold laws_FnHydrasOfOrdinals_p3
    cases hb : hyB l with
    | false =>
      have ei : impl_HydraOrdinal k (iR l) = some ([], false) := by
        unfold impl_HydraOrdinal
        rw [isHydra_eq (by omega), hb]; rfl
      have es : spec_HydraOrdinal k (iR l) = some ([], false) := by
        unfold spec_HydraOrdinal
        rw [deHydra_eq (by omega) (by omega), hb]; rfl
      rw [ei, Option.bind_some, if_neg (by simp)]
      unfold laws_FnHydrasOfOrdinals_p4
      simp only [cond_false]
      rw [es, Option.bind_some, if_neg (by simp)]
      unfold laws_FnHydrasOfOrdinals_p5
      simp only [cond_false]
      have q0 : laws_qSameOrdinal k ([] : Rw) ([] : Rw) = some true := qsame_ord k .nil (show 0 < k by omega) (Nat.zero_le _)
      rw [q0, Option.bind_some, if_pos rfl]
      rfl
    | true =>
      obtain ⟨f, rfl, hf⟩ := hyB_ex hb
      rw [iHydraOrd_eq (by omega) (by omega) hf, Option.bind_some]
      have hlf := hy_len f
      have hgo := ordF_ok f (by omega)
      have p4 : laws_FnHydrasOfOrdinals_p4 k (iR (hy f)) (toldT (ordF f)).1.rows (toldT (ordF f)).2 = some true := by
        unfold laws_FnHydrasOfOrdinals_p4
        rw [sHydraOrd_eq (by omega) (by omega) hf]
        unfold toldT
        cases ho : ordP (ordF f) with
        | false =>
          simp only [Bool.false_eq_true, if_false, cond_false, Option.bind_some]
          unfold laws_FnHydrasOfOrdinals_p5
          simp only [cond_false]
          rw [qsame_ord k .nil (show 0 < k by omega) (Nat.zero_le _), Option.bind_some, if_pos rfl]
          rfl
        | true =>
          simp only [if_true, cond_true, Option.bind_some]
          unfold laws_FnHydrasOfOrdinals_p5
          simp only [cond_true]
          rw [qsame_ord k (ordF f) (by omega) (by omega), Option.bind_some, if_pos rfl]
          unfold laws_FnHydrasOfOrdinals_p6
          simp only [cond_true]
          have gz : (grF (ordF f)).size = f.size := gr_ordF (by omega)
          have go : ordF (grF (ordF f)) = ordF f := (ord_gr (ordF f) none (ordP_form ho) (by omega)).2
          obtain ⟨G, hG⟩ : ∃ G, G = grF (ordF f) := ⟨_, rfl⟩
          rw [hydraOf_ord (by omega) (by omega) ho (by omega), Option.bind_some, if_pos rfl]
          rw [← hG] at gz go ⊢
          have hlG := hy_len G
          unfold laws_FnHydrasOfOrdinals_p8
          simp only [cond_true]
          have hsame : impl_SameHydra k (iR (hy f)) (iR (hy G)) = some (true, true) := by
            unfold impl_SameHydra
            rw [isHydra_eq (by omega), hyB_hy hf, Option.bind_some, if_pos rfl, isHydra_eq (by omega), hyB_hy (f := G) (by omega), Option.bind_some, if_pos rfl, treeOf_hy hf]
            unfold tree
            rw [treeOrd_eq 39 k f 0 1 hf (by omega) (by omega), Option.bind_some, treeOf_hy (f := G) (by omega)]
            unfold tree
            rw [treeOrd_eq 39 k G 0 1 (by omega) (by omega) (by omega), Option.bind_some, go, impl_cmp_eq k _ _ (by omega) (by omega), cmpT_refl]
            rfl
          rw [hsame, Option.bind_some, if_pos rfl, if_pos rfl]
          unfold laws_FnHydrasOfOrdinals_p9
          simp only [cond_true]
          rw [hydraText_eq (by omega) hf, Option.bind_some, if_pos rfl]
          unfold laws_FnHydrasOfOrdinals_p10
          simp only [cond_true]
          rw [parse_eq (by omega) hf, Option.bind_some, if_pos rfl]
          unfold laws_FnHydrasOfOrdinals_p11
          simp only [cond_true]
          have eo : impl_HydraOrdinal k (iR (hy G)) = some ((ordF f).rows, true) := by
            rw [iHydraOrd_eq (by omega) (by omega) (f := G) (by omega), go]
            unfold toldT
            rw [if_pos ho]
          rw [eo, Option.bind_some, if_pos rfl]
          unfold laws_FnHydrasOfOrdinals_p12
          simp only [cond_true]
          rw [qS (a := hy f) (by omega), Option.bind_some, if_pos rfl, if_pos (by rw [iR_len, iR_len]; omega), qsame_ord k (ordF f) (by omega) (by omega), Option.bind_some, if_pos rfl, if_pos (by rw [bl_size, text_len, iR_len, hlf, wid (by omega) (by omega)]; omega)]
          rfl
      simp only
      generalize (toldT (ordF f)).2 = b at *
      cases b <;> exact p4
  split
  · rfl
  · split
    · rfl
    · rw [Option.bind_some, if_neg (by decide)]; exact p2
theorem FnHydrasOfOrdinals_pure {u v : Rw} (hu : bytesOf u) (_ : bytesOf v) : laws_FnHydrasOfOrdinals 3000000 u v = some true := hyos_true hu
end Go.Proofs.Try

namespace Go.Proofs.Try
open Go Go.AX
set_option maxRecDepth 100000 in
theorem FnHydrasOfOrdinals_true {n0 n1 : Nat} {c0 c1 : List D} (w0 : Has prog n0 38 c0) (w1 : Has prog n1 38 c1) : Ct prog 7 [argA prog 38 c0, argA prog 38 c1] ⟨[], []⟩ (.d (.bool true)) ⟨[], []⟩ := by
  obtain ⟨u, rfl, bu⟩ := has_bytes w0 (u := 5) (by kernel_rfl) (by kernel_rfl)
  obtain ⟨v, rfl, bv⟩ := has_bytes w1 (u := 5) (by kernel_rfl) (by kernel_rfl)
  rw [argA_one (t := 38) (by kernel_rfl), argA_one (t := 38) (by kernel_rfl)]
  exact laws_FnHydrasOfOrdinals_ct (FnHydrasOfOrdinals_pure bu bv)
end Go.Proofs.Try
