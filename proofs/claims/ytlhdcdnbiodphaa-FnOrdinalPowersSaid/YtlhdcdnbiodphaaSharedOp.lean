/- What the printed functions compute: plain data. -/
import Derived.Test.YtlhdcdnbiodphaaOP1
set_option linter.unusedVariables false
set_option linter.unusedSimpArgs false
namespace Go.Proofs.Try
open Go Go.AX

theorem wid {n : Int} (h1 : -9223372036854775808 ≤ n) (h2 : n < 9223372036854775808) : IntKind.i64.wrap n = n := wrap_in h1 h2
/-- An ordinal: its terms, exponents and coefficients. -/
inductive T where
  | nil
  | cons (e : T) (c : Int) (l : T)
namespace T
def rows : T → Rw
  | nil => []
  | cons e c l => [.sl (rows e), .int .i64 c] :: rows l
def size : T → Nat
  | nil => 0
  | cons e _ l => size e + size l + 1
def len : T → Nat
  | nil => 0
  | cons _ _ l => len l + 1
def drop : T → Nat → T
  | t, 0 => t
  | nil, _ + 1 => nil
  | cons _ _ l, n + 1 => drop l n
def app : T → T → T
  | nil, b => b
  | cons e c l, b => cons e c (app l b)
@[simp] theorem drop_zero (t : T) : drop t 0 = t := by cases t <;> rfl
@[simp] theorem drop_nil (n : Nat) : drop nil n = nil := by cases n <;> rfl
@[simp] theorem rows_len (t : T) : (rows t).length = len t := by
  induction t with
  | nil => rfl
  | cons e c l _ ih => simp [rows, len, ih]
theorem len_size (t : T) : len t ≤ size t := by
  induction t with
  | nil => simp [len]
  | cons e c l _ ih => simp [len, size]; omega
@[simp] theorem rows_app (a b : T) : rows (app a b) = rows a ++ rows b := by
  induction a with
  | nil => rfl
  | cons e c l _ ih => simp [app, rows, ih]
theorem rows_drop (t : T) (i : Nat) : rows (drop t i) = (rows t).drop i := by
  induction t generalizing i with
  | nil => cases i <;> simp [drop, rows]
  | cons e c l _ ih => cases i with
    | zero => simp [drop]
    | succ i => simp [drop, rows, ih]
theorem rowsWide (t : T) : ∀ cs ∈ rows t, cs.length = 2 := by
  induction t with
  | nil => intro cs h; cases h
  | cons e c l _ ih =>
    intro cs h
    simp only [rows, List.mem_cons] at h
    rcases h with rfl | h
    · rfl
    · exact ih cs h
theorem rowsWide_drop (t : T) (i : Nat) : ∀ cs ∈ (rows t).drop i, cs.length = 2 := fun cs h => rowsWide t cs (List.mem_of_mem_drop h)
theorem drop_len (t : T) (i : Nat) : len (drop t i) = len t - i := by rw [← rows_len, rows_drop, List.length_drop, rows_len]
theorem drop_succ {t : T} {i : Nat} {e : T} {c : Int} {l : T} (h : drop t i = cons e c l) : drop t (i + 1) = l := by
  induction t generalizing i with
  | nil => simp at h
  | cons e' c' l' _ ih =>
    cases i with
    | zero => simp only [drop, cons.injEq] at h ⊢; simp [h.2.2]
    | succ i => exact ih h
theorem drop_size {t : T} {i : Nat} : size (drop t i) ≤ size t := by
  induction t generalizing i with
  | nil => simp
  | cons e c l _ ih =>
    cases i with
    | zero => simp
    | succ i => simp only [drop, size]; have := ih (i := i); omega
theorem drop_cons_size {t : T} {i : Nat} {e : T} {c : Int} {l : T} (h : drop t i = cons e c l) : size e + size l + 1 ≤ size t := by
  have := drop_size (t := t) (i := i); rw [h] at this; exact this
theorem drop_lt {t : T} {i : Nat} {e : T} {c : Int} {l : T} (h : drop t i = cons e c l) : i < len t := by
  have := drop_len t i; rw [h] at this; simp only [len] at this; omega
theorem drop_ge {t : T} {i : Nat} (h : drop t i = nil) : len t ≤ i := by
  have := drop_len t i; rw [h] at this; simp only [len] at this; omega
theorem drop_of_ge {t : T} {i : Nat} (h : len t ≤ i) : drop t i = nil := by
  have := drop_len t i
  cases hd : drop t i with
  | nil => rfl
  | cons e c l => rw [hd] at this; simp only [len] at this; omega
theorem rows_get {t : T} {i : Nat} {e : T} {c : Int} {l : T} (h : drop t i = cons e c l) : (rows t)[i]? = some [.sl (rows e), .int .i64 c] := by
  have := rows_drop t i
  rw [h] at this
  have h2 : ((rows t).drop i)[0]? = some [.sl (rows e), .int .i64 c] := by rw [← this]; rfl
  rwa [List.getElem?_drop, Nat.add_zero] at h2
@[simp] theorem app_nil (t : T) : app t nil = t := by
  induction t with
  | nil => rfl
  | cons e c l _ ih => simp [app, ih]
theorem app_assoc (a b c : T) : app (app a b) c = app a (app b c) := by
  induction a with
  | nil => rfl
  | cons e k l _ ih => simp [app, ih]
theorem size_app (a b : T) : (app a b).size = a.size + b.size := by
  induction a with
  | nil => simp [app, size]
  | cons e c l _ ih => simp [app, size, ih]; omega
theorem len_app (a b : T) : (app a b).len = a.len + b.len := by
  induction a with
  | nil => simp [app, len]
  | cons e c l _ ih => simp [app, len, ih]; omega
theorem rows_inj : ∀ {a b : T}, rows a = rows b → a = b
  | nil, nil, _ => rfl
  | nil, cons _ _ _, h => by simp [rows] at h
  | cons _ _ _, nil, h => by simp [rows] at h
  | cons e c l, cons f d m, h => by
    simp only [rows, List.cons.injEq, D.sl.injEq, D.int.injEq, true_and, and_true] at h
    obtain ⟨⟨h1, h2⟩, h3⟩ := h
    rw [rows_inj h1, h2, rows_inj h3]
end T
open T
theorem row_rows {α : Type} {t : T} {i : Int} {n : Nat} (hi : i = n) {e : T} {c : Int} {l : T} (h : drop t n = cons e c l) (F : Rw → List D → Option α) : (if 0 ≤ i then (match (rows t)[i.toNat]? with | some cs => F (rows t) cs | none => none) else none) = F (rows t) [.sl (rows e), .int .i64 c] := by
  subst hi
  rw [if_pos (by omega), Int.toNat_natCast, rows_get h]

/-! ### the order -/
def cmpI (a b : Int) : Int := if a < b then -1 else if b < a then 1 else 0
def cmpT : T → T → Int
  | nil, nil => 0
  | nil, cons _ _ _ => -1
  | cons _ _ _, nil => 1
  | cons e c l, cons f d m => if cmpT e f = 0 then (if cmpI c d = 0 then cmpT l m else cmpI c d) else cmpT e f
theorem cmpI_refl (a : Int) : cmpI a a = 0 := by simp [cmpI]
theorem cmpI_eq {a b : Int} : cmpI a b = 0 ↔ a = b := by unfold cmpI; split <;> (try split) <;> simp <;> omega
theorem cmpI_neg (a b : Int) : cmpI b a = - cmpI a b := by unfold cmpI; split <;> split <;> (try split) <;> omega
theorem cmpT_range (a b : T) : cmpT a b = -1 ∨ cmpT a b = 0 ∨ cmpT a b = 1 := by
  induction a generalizing b with
  | nil => cases b <;> simp [cmpT]
  | cons e c l ihe ihl =>
    cases b with
    | nil => simp [cmpT]
    | cons f d m =>
      simp only [cmpT]
      split
      · split
        · exact ihl m
        · unfold cmpI; split <;> (try split) <;> simp
      · exact ihe f
theorem cmpT_refl (a : T) : cmpT a a = 0 := by
  induction a with
  | nil => rfl
  | cons e c l ihe ihl => simp [cmpT, ihe, ihl, cmpI_refl]
theorem cmpT_eq {a b : T} : cmpT a b = 0 ↔ a = b := by
  induction a generalizing b with
  | nil => cases b <;> simp [cmpT]
  | cons e c l ihe ihl =>
    cases b with
    | nil => simp [cmpT]
    | cons f d m =>
      simp only [cmpT, cons.injEq]
      constructor
      · intro h
        split at h
        · rename_i h1
          split at h
          · rename_i h2; exact ⟨ihe.1 h1, cmpI_eq.1 h2, ihl.1 h⟩
          · rename_i h2; exact absurd h h2
        · rename_i h1; exact absurd h h1
      · rintro ⟨rfl, rfl, rfl⟩
        rw [if_pos (cmpT_refl e), if_pos (cmpI_refl c)]; exact cmpT_refl l
theorem cmpT_neg (a b : T) : cmpT b a = - cmpT a b := by
  induction a generalizing b with
  | nil => cases b <;> simp [cmpT]
  | cons e c l ihe ihl =>
    cases b with
    | nil => simp [cmpT]
    | cons f d m =>
      simp only [cmpT, ihe f, ihl m, cmpI_neg c d]
      split <;> split <;> (try split) <;> (try split) <;> omega
theorem cmpI_trans {a b c : Int} (h1 : cmpI a b < 0) (h2 : cmpI b c < 0) : cmpI a c < 0 := by
  unfold cmpI at *
  split at h1 <;> (try split at h1) <;> split at h2 <;> (try split at h2) <;> split <;> (try split) <;> omega
theorem cmpT_trans {a b c : T} (h1 : cmpT a b < 0) (h2 : cmpT b c < 0) : cmpT a c < 0 := by
  induction a generalizing b c with
  | nil =>
    cases b with
    | nil => simp [cmpT] at h1
    | cons f d m => cases c with
      | nil => simp [cmpT] at h2
      | cons g k n => simp [cmpT]
  | cons e x l ihe ihl =>
    cases b with
    | nil => simp [cmpT] at h1
    | cons f y m =>
      cases c with
      | nil => simp [cmpT] at h2
      | cons g z n =>
        simp only [cmpT] at h1 h2 ⊢
        by_cases q1 : cmpT e f = 0
        · rw [if_pos q1] at h1
          obtain rfl := cmpT_eq.1 q1
          by_cases q2 : cmpT e g = 0
          · rw [if_pos q2] at h2 ⊢
            by_cases q3 : cmpI x y = 0
            · rw [if_pos q3] at h1
              obtain rfl := cmpI_eq.1 q3
              by_cases q4 : cmpI x z = 0
              · rw [if_pos q4] at h2 ⊢; exact ihl h1 h2
              · rw [if_neg q4] at h2 ⊢; exact h2
            · rw [if_neg q3] at h1
              by_cases q4 : cmpI y z = 0
              · rw [if_pos q4] at h2
                obtain rfl := cmpI_eq.1 q4
                rw [if_neg q3]; exact h1
              · rw [if_neg q4] at h2
                have := cmpI_trans h1 h2
                rw [if_neg (by omega)]; exact this
          · rw [if_neg q2] at h2 ⊢; exact h2
        · rw [if_neg q1] at h1
          by_cases q2 : cmpT f g = 0
          · obtain rfl := cmpT_eq.1 q2
            rw [if_neg q1]; exact h1
          · rw [if_neg q2] at h2
            have := ihe h1 h2
            rw [if_neg (by omega)]; exact this

/-! ### what is right -/
def nodesL : T → Nat
  | nil => 0
  | cons e _ l => 2 + nodesL e + nodesL l
def dp : T → Nat
  | nil => 0
  | cons e _ l => max (1 + dp e) (dp l)
/-- Coefficients in their range, exponents that fall; p: the exponent ahead. -/
def formA : Option T → T → Bool
  | _, nil => true
  | p, cons e c l => decide (1 ≤ c) && decide (c ≤ 1000000) && formA none e && (match p with | none => true | some q => decide (0 < cmpT q e)) && formA (some e) l
def ordP (t : T) : Bool := decide (1 + nodesL t ≤ 60) && decide (dp t ≤ 6) && formA none t
theorem nodes_size (t : T) : nodesL t = 2 * size t := by
  induction t with
  | nil => rfl
  | cons e c l ihe ihl => simp only [nodesL, size, ihe, ihl]; omega
theorem ordP_size {t : T} (h : ordP t = true) : size t ≤ 30 := by
  simp only [ordP, Bool.and_eq_true, decide_eq_true_eq] at h
  have := nodes_size t
  omega
end Go.Proofs.Try

namespace Go.Proofs.Try
theorem bind_of {α β : Type} {o : Option α} {y : α} {K : α → Option β} {r : Option β} (h : o = some y) (hk : K y = r) : o.bind K = r := by rw [h]; exact hk
theorem ite_pos {α : Type} {c : Prop} [Decidable c] {a b r : α} (h : c) (hk : a = r) : (if c then a else b) = r := by rw [if_pos h]; exact hk
theorem ite_neg {α : Type} {c : Prop} [Decidable c] {a b r : α} (h : ¬ c) (hk : b = r) : (if c then a else b) = r := by rw [if_neg h]; exact hk
theorem cond_tt {α : Type} {a b r : α} (h : a = r) : cond true a b = r := h
theorem cond_ff {α : Type} {a b r : α} (h : b = r) : cond false a b = r := h
end Go.Proofs.Try

namespace Go.Proofs.Try
open Go Go.AX T
/-! ### rows of terms -/
@[simp] theorem cell_T {α : Type} (x : Rw) (c : Int) (K : Rw → Int → Option α) : cell_si [.sl x, .int .i64 c] K = K x c := rfl
theorem row_T {α : Type} {t : T} {i : Int} {n : Nat} (hi : i = n) {e : T} {c : Int} {l : T} (h : drop t n = cons e c l) (K : Rw → Int → Option α) : row_si t.rows i K = K e.rows c := by
  subst hi
  unfold row_si
  rw [if_pos (by omega), Int.toNat_natCast, rows_get h]; rfl
@[simp] theorem row_T0 {α : Type} (e : T) (c : Int) (l : T) (K : Rw → Int → Option α) : row_si (cons e c l).rows 0 K = K e.rows c := row_T (n := 0) rfl rfl K
theorem lenI (t : T) : ((t.rows.length : Nat) : Int) = (t.len : Int) := by rw [rows_len]
/-! ### impl's order -/
theorem impl_compare_eq (a b : Int) : impl_compare a b = some (cmpI a b) := by unfold impl_compare cmpI; split <;> (try split) <;> rfl
theorem CompareFunc_loop {rec_ : Rw → Rw → Option Int} {a b : T} {K : Option Int} (hr : ∀ e f : T, e.size < a.size → rec_ e.rows f.rows = some (cmpT e f)) (hK : K = (if (a.len : Int) < b.len then some (-1) else some 0)) :
    ∀ (t : T) (i : Nat), drop a i = t → i ≤ a.len → i ≤ b.len → slices_CompareFunc__cmpTerms_l0 rec_ a.rows b.rows K t.rows i = some (cmpT t (drop b i))
  | nil, i, hd, ha', hb => by
    simp only [rows, slices_CompareFunc__cmpTerms_l0, hK]
    have h1 := drop_ge hd
    by_cases h2 : i < b.len
    · cases hq : drop b i with
      | nil => have := drop_ge hq; omega
      | cons f d m =>
        have : a.len = i ∨ a.len < i := by omega
        rw [if_pos (by omega)]; rfl
    · rw [drop_of_ge (t := b) (by omega), if_neg (by
        intro q
        omega)]; rfl
  | cons e c l, i, hd, ha', hb => by
    simp only [rows, slices_CompareFunc__cmpTerms_l0, cell_T]
    have hs := drop_cons_size hd
    by_cases h2 : b.len ≤ i
    · rw [if_pos (by rw [lenI]; omega), drop_of_ge h2]; rfl
    · rw [if_neg (by rw [lenI]; omega)]
      cases hq : drop b i with
      | nil => have := drop_ge hq; omega
      | cons f d m =>
        rw [row_T rfl hq]
        simp only [impl_cmpTerms, hr e f (by omega), Option.bind_some, impl_compare_eq]
        by_cases h3 : cmpT e f = 0
        · simp only [h3, if_true, Option.bind_some]
          by_cases h4 : cmpI c d = 0
          · rw [if_pos h4, CompareFunc_loop hr hK l (i + 1) (drop_succ hd) (drop_lt hd) (by omega), drop_succ hq]
            simp [cmpT, h3, h4]
          · rw [if_neg h4]; simp [cmpT, h3, h4]
        · simp only [if_neg h3, Option.bind_some]; simp [cmpT, h3]
theorem impl_cmp_eq : ∀ (k : Nat) (a b : T), a.size < k → a.size ≤ cap → impl_cmp k a.rows b.rows = some (cmpT a b)
  | 0, _, _, h, _ => absurd h (Nat.not_lt_zero _)
  | k + 1, a, b, h, hc => by
    have hl := a.len_size
    simp only [impl_cmp, impl_cmp_b, slices_CompareFunc__cmpTerms]
    rw [if_pos (by rw [rows_len]; omega)]
    rw [CompareFunc_loop (a := a) (b := b) (fun e f he => impl_cmp_eq k e f (by omega) (by omega)) (by rw [lenI, lenI]) a 0 (drop_zero a) (by omega) (by omega)]
    simp
/-! ### spec's order -/
/-- Coefficients whose differences do not run over. -/
def calm : T → Prop
  | nil => True
  | cons e c l => calm e ∧ (-1000000000000000 ≤ c ∧ c ≤ 1000000000000000) ∧ calm l
theorem calm_drop {t : T} (h : calm t) : ∀ {i : Nat}, calm (drop t i) := by
  induction t with
  | nil => intro i; simpa using h
  | cons e c l _ ih => intro i; cases i with
    | zero => simpa using h
    | succ i => exact ih h.2.2
theorem sign_eq {c d : Int} (hc : -1000000000000000 ≤ c ∧ c ≤ 1000000000000000) (hd : -1000000000000000 ≤ d ∧ d ≤ 1000000000000000) : spec_l1Sign (IntKind.i64.wrap (c - d)) = some (cmpI c d) := by
  rw [wid (by omega) (by omega)]
  unfold spec_l1Sign cmpI
  by_cases h1 : c < d
  · rw [if_neg (by omega), if_pos (by omega), if_pos h1]
  · by_cases h2 : d < c
    · rw [if_pos (by omega), if_neg h1, if_pos h2]
    · rw [if_neg (by omega), if_neg (by omega), if_neg h1, if_neg h2]
theorem odCmp_loop {rec_ : Rw → Rw → Option Int} {a b : T} {K : Option Int} (ha : calm a) (hb : calm b) (hr : ∀ e f : T, e.size < a.size → calm e → calm f → rec_ e.rows f.rows = some (cmpT e f)) (hK : K = (if (a.len : Int) < b.len then some (-1) else some 0)) :
    ∀ (t : T) (i : Nat), drop a i = t → i ≤ a.len → i ≤ b.len → spec_odCmp_l0 rec_ a.rows b.rows K t.rows i = some (cmpT t (drop b i))
  | nil, i, hd, ha', hb' => by
    simp only [rows, spec_odCmp_l0, hK]
    have h1 := drop_ge hd
    by_cases h2 : i < b.len
    · cases hq : drop b i with
      | nil => have := drop_ge hq; omega
      | cons f d m => rw [if_pos (by omega)]; rfl
    · rw [drop_of_ge (t := b) (by omega), if_neg (by
        intro q
        omega)]; rfl
  | cons e c l, i, hd, ha', hb' => by
    simp only [rows, spec_odCmp_l0, cell_T]
    have hs := drop_cons_size hd
    have hca := calm_drop ha (i := i)
    rw [hd] at hca
    by_cases h2 : i = b.len
    · rw [if_pos (by rw [lenI]; omega), drop_of_ge (by omega)]; rfl
    · rw [if_neg (by rw [lenI]; omega)]
      cases hq : drop b i with
      | nil => have := drop_ge hq; omega
      | cons f d m =>
        have hcb := calm_drop hb (i := i)
        rw [hq] at hcb
        rw [row_T rfl hq]
        simp only [hr e f (by omega) hca.1 hcb.1, Option.bind_some]
        by_cases h3 : cmpT e f = 0
        · rw [if_pos h3]
          by_cases h4 : c = d
          · subst h4
            rw [if_pos rfl, odCmp_loop ha hb hr hK l (i + 1) (drop_succ hd) (drop_lt hd) (drop_lt hq), drop_succ hq]
            simp [cmpT, h3, cmpI_refl]
          · rw [if_neg h4, sign_eq hca.2.1 hcb.2.1]
            have : cmpI c d ≠ 0 := fun q => h4 (cmpI_eq.1 q)
            simp [cmpT, h3, this]
        · rw [if_neg h3]; simp [cmpT, h3]
theorem odCmp_eq : ∀ (k : Nat) (a b : T), calm a → calm b → a.size < k → a.size ≤ cap → spec_odCmp k a.rows b.rows = some (cmpT a b)
  | 0, _, _, _, _, h, _ => absurd h (Nat.not_lt_zero _)
  | k + 1, a, b, ha, hb, h, hc => by
    have hl := a.len_size
    simp only [spec_odCmp, spec_odCmp_b]
    rw [if_pos (by rw [rows_len]; omega)]
    have := odCmp_loop (rec_ := spec_odCmp k) (a := a) (b := b) (K := spec_odCmp_p2 a.rows b.rows) ha hb (fun e f he h1 h2 => odCmp_eq k e f h1 h2 (by omega) (by omega)) (by unfold spec_odCmp_p2; rw [lenI, lenI]) a 0 (drop_zero a) (by omega) (by omega)
    rw [this, drop_zero]
end Go.Proofs.Try

namespace Go.Proofs.Try
open Go Go.AX T
theorem impl_in_eq (n a b : Int) : impl_in n a b = some (decide (a ≤ n) && decide (n ≤ b)) := by
  unfold impl_in
  by_cases h1 : a ≤ n <;> by_cases h2 : n ≤ b <;> simp [h1, h2]
theorem l1In_eq (n a b : Int) : spec_l1In n a b = some (decide (a ≤ n) && decide (n ≤ b)) := by
  unfold spec_l1In
  by_cases h1 : a ≤ n <;> by_cases h2 : n ≤ b <;> simp [h1, h2]
/-- The exponent of the term ahead of the i-th. -/
def ahead (t : T) : Nat → Option T
  | 0 => none
  | i + 1 => match drop t i with
    | cons e _ _ => some e
    | nil => none
theorem ahead_succ {t : T} {i : Nat} {e : T} {c : Int} {l : T} (h : drop t i = cons e c l) : ahead t (i + 1) = some e := by simp [ahead, h]
theorem ahead_some {t : T} {i : Nat} (h0 : 0 < i) (h : i ≤ t.len) : ∃ q c l, drop t (i - 1) = cons q c l ∧ ahead t i = some q := by
  obtain ⟨j, rfl⟩ : ∃ j, i = j + 1 := ⟨i - 1, by omega⟩
  cases hq : drop t j with
  | nil => have := drop_ge hq; omega
  | cons q c l => exact ⟨q, c, l, hq, ahead_succ hq⟩
theorem dp_drop {t : T} : ∀ {i : Nat}, dp (drop t i) ≤ dp t := by
  induction t with
  | nil => intro i; simp
  | cons e c l _ ih => intro i; cases i with
    | zero => simp
    | succ i => have := ih (i := i); simp only [drop, dp]; omega
/-- What a check of a tree tells. -/
def Tells (r : Bool × Int) (n : Int) (ok : Prop) (m : Int) : Prop := (r.1 = true ↔ ok) ∧ (r.1 = true → r.2 = m) ∧ 0 ≤ r.2 ∧ r.2 ≤ 61 ∧ n ≤ r.2
theorem at2_loop {k : Nat} {rec_ : Rw → Int → Int → Int → Option (Bool × Int)} {a : T} {d1 deep : Int} (hd : 0 ≤ deep ∧ deep ≤ 6) (hk : a.size ≤ k) (hc : a.size ≤ cap)
    (hr : ∀ (e : T) (x n : Int), e.size < a.size → 0 ≤ n → n ≤ 60 → ∃ r, rec_ e.rows x (deep + 1) n = some r ∧ Tells r n (n + 1 + nodesL e ≤ 60 ∧ deep + 1 + dp e ≤ 6 ∧ formA none e = true) (n + 1 + nodesL e)) :
    ∀ (t : T) (i : Nat) (m : Int), drop a i = t → i ≤ a.len → 0 ≤ m → m ≤ 60 → ∃ r, impl_ordinalAt_2_l0 k rec_ a.rows d1 deep (fun v => impl_ordinalAt_2_p3 v) t.rows i m = some r ∧ Tells r m (m + nodesL t ≤ 60 ∧ deep + dp t ≤ 6 ∧ formA (ahead a i) t = true) (m + nodesL t)
  | nil, i, m, hdr, hi, h0, h60 => by
    refine ⟨(true, m), rfl, ?_⟩
    simp only [Tells, nodesL, dp, formA]
    refine ⟨⟨fun _ => ⟨by omega, by omega, trivial⟩, fun _ => trivial⟩, fun _ => by omega, h0, by omega, by omega⟩
  | cons e c l, i, m, hdr, hi, h0, h60 => by
    have hs := drop_cons_size hdr
    simp only [rows, impl_ordinalAt_2_l0, cell_T]
    rw [wid (n := m + 1) (by omega) (by omega)]
    by_cases h1 : 60 < m + 1
    · rw [if_pos h1]
      refine ⟨_, rfl, ?_⟩
      simp only [Tells, nodesL]
      refine ⟨⟨fun h => (by cases h), fun h => by omega⟩, fun h => (by cases h), by omega, by omega, by omega⟩
    · rw [if_neg h1, impl_in_eq, Option.bind_some]
      by_cases h2 : (decide (1 ≤ c) && decide (c ≤ 1000000)) = true
      · rw [if_pos h2, wid (n := deep + 1) (by omega) (by omega)]
        obtain ⟨r1, e1, t1, t2, t3, t4, t5⟩ := hr e c (m + 1) (by omega) (by omega) (by omega)
        rw [e1, Option.bind_some]
        obtain ⟨b1, m1⟩ := r1
        dsimp only at t1 t2 t3 t4 t5 ⊢
        cases b1 with
        | false =>
          rw [if_neg (by simp)]
          refine ⟨_, rfl, ?_⟩
          simp only [Tells]
          refine ⟨⟨fun h => (by cases h), fun h => ?_⟩, fun h => (by cases h), t3, t4, by omega⟩
          obtain ⟨q1, q2, q3⟩ := h
          simp only [nodesL, dp, formA, Bool.and_eq_true] at q1 q2 q3
          exact t1.2 ⟨by omega, by omega, q3.1.1.2⟩
        | true =>
          obtain ⟨u1, u2, u3⟩ := t1.1 rfl
          obtain rfl := t2 rfl
          rw [if_pos rfl]
          have go : ∀ (hp : (match ahead a i with | none => true | some q => decide (0 < cmpT q e)) = true), ∃ r, impl_ordinalAt_2_l0 k rec_ a.rows d1 deep (fun v => impl_ordinalAt_2_p3 v) l.rows (i + 1) (m + 1 + 1 + nodesL e) = some r ∧ Tells r m (m + nodesL (cons e c l) ≤ 60 ∧ deep + dp (cons e c l) ≤ 6 ∧ formA (ahead a i) (cons e c l) = true) (m + nodesL (cons e c l)) := by
            intro hp
            obtain ⟨r, er, s1, s2, s3, s4, s5⟩ := at2_loop hd hk hc hr l (i + 1) (m + 1 + 1 + nodesL e) (drop_succ hdr) (drop_lt hdr) (by omega) (by omega)
            refine ⟨r, er, ?_⟩
            rw [ahead_succ hdr] at s1
            simp only [Tells, nodesL, dp, formA, Bool.and_eq_true]
            refine ⟨s1.trans ⟨fun q => ⟨by have := q.1; omega, by have := q.2.1; omega, ⟨⟨(by simpa using h2), u3⟩, hp⟩, q.2.2⟩, fun q => ⟨by have := q.1; omega, by have := q.2.1; omega, q.2.2.2⟩⟩, fun q => by rw [s2 q]; omega, s3, s4, by omega⟩
          by_cases h3 : (0 : Int) < (i : Int)
          · obtain ⟨q, qc, ql, hq, ha⟩ := ahead_some (t := a) (i := i) (by omega) hi
            have hqs := drop_cons_size hq
            rw [if_pos h3, wid (n := (i : Int) - 1) (by omega) (by have := a.len_size; have : cap = 1099511627776 := rfl; omega), row_T (n := i - 1) (by omega) hq, impl_cmp_eq k q e (by omega) (by omega), Option.bind_some]
            by_cases h4 : cmpT q e ≤ 0
            · rw [if_pos h4]
              refine ⟨_, rfl, ?_⟩
              simp only [Tells]
              refine ⟨⟨fun h => (by cases h), fun h => ?_⟩, fun h => (by cases h), t3, t4, by omega⟩
              obtain ⟨_, _, q3⟩ := h
              simp only [formA, ha, Bool.and_eq_true, decide_eq_true_eq] at q3
              have := q3.1.2
              omega
            · rw [if_neg h4]
              exact go (by rw [ha]; simp; omega)
          · rw [if_neg h3]
            have : i = 0 := by omega
            subst this
            exact go rfl
      · rw [if_neg h2]
        refine ⟨_, rfl, ?_⟩
        simp only [Tells]
        refine ⟨⟨fun h => (by cases h), fun h => ?_⟩, fun h => (by cases h), by omega, by omega, by omega⟩
        obtain ⟨_, _, q3⟩ := h
        simp only [formA, Bool.and_eq_true] at q3 h2
        exact absurd q3.1.1.1 h2
theorem at2_eq : ∀ (k : Nat) (a : T) (x deep n : Int), a.size < k → a.size ≤ cap → 0 ≤ deep → deep ≤ 7 → 0 ≤ n → n ≤ 60 →
    ∃ r, impl_ordinalAt_2 k a.rows x deep n = some r ∧ Tells r n (n + 1 + nodesL a ≤ 60 ∧ deep + dp a ≤ 6 ∧ formA none a = true) (n + 1 + nodesL a)
  | 0, _, _, _, _, h, _, _, _, _, _ => absurd h (Nat.not_lt_zero _)
  | k + 1, a, x, deep, n, h, hc, h0, h7, n0, n60 => by
    have hl := a.len_size
    simp only [impl_ordinalAt_2, impl_ordinalAt_2_b]
    rw [wid (n := n + 1) (by omega) (by omega)]
    by_cases h1 : 60 < n + 1
    · rw [if_pos h1]
      refine ⟨_, rfl, ?_⟩
      simp only [Tells]
      exact ⟨⟨fun h => (by cases h), fun h => by omega⟩, fun h => (by cases h), by omega, by omega, by omega⟩
    · rw [if_neg h1]
      by_cases h2 : 6 < deep
      · rw [if_pos h2]
        refine ⟨_, rfl, ?_⟩
        simp only [Tells]
        exact ⟨⟨fun h => (by cases h), fun h => by omega⟩, fun h => (by cases h), by omega, by omega, by omega⟩
      · rw [if_neg h2, if_pos (by rw [rows_len]; omega)]
        obtain ⟨r, e, s1, s2, s3, s4, s5⟩ := at2_loop (k := k) (rec_ := impl_ordinalAt_2 k) (a := a) (d1 := x) (deep := deep) (by omega) (by omega) hc (fun e y m he m0 m60 => at2_eq k e y (deep + 1) m (by omega) (by omega) (by omega) (by omega) m0 m60) a 0 (n + 1) (drop_zero a) (by omega) (by omega) (by omega)
        exact ⟨r, e, s1, s2, s3, s4, by omega⟩
theorem at1_loop {k : Nat} {a : T} (hk : a.size < k) (hc : a.size ≤ cap) :
    ∀ (t : T) (i : Nat) (m : Int), drop a i = t → i ≤ a.len → 0 ≤ m → m ≤ 60 → ∃ r : Bool × Int, impl_ordinalAt_l0 k a.rows 0 (fun v => impl_ordinalAt_p3 a.rows v) t.rows i m = some (r.1, a.rows, r.2) ∧ (r.1 = true ↔ m + nodesL t ≤ 60 ∧ dp t ≤ 6 ∧ formA (ahead a i) t = true) ∧ (r.1 = true → r.2 = m + nodesL t)
  | nil, i, m, hdr, hi, h0, h60 => by
    refine ⟨(true, m), rfl, ?_⟩
    simp only [nodesL, dp, formA]
    exact ⟨⟨fun _ => ⟨by omega, by omega, trivial⟩, fun _ => trivial⟩, fun _ => by omega⟩
  | cons e c l, i, m, hdr, hi, h0, h60 => by
    have hs := drop_cons_size hdr
    simp only [rows, impl_ordinalAt_l0, cell_T]
    rw [wid (n := m + 1) (by omega) (by omega)]
    by_cases h1 : 60 < m + 1
    · rw [if_pos h1]
      exact ⟨(false, _), rfl, ⟨fun h => (by cases h), fun h => by simp only [nodesL] at h; omega⟩, fun h => (by cases h)⟩
    · rw [if_neg h1, impl_in_eq, Option.bind_some]
      by_cases h2 : (decide (1 ≤ c) && decide (c ≤ 1000000)) = true
      · rw [if_pos h2, wid (n := 0 + 1) (by omega) (by omega)]
        obtain ⟨r1, e1, t1, t2, t3, t4, t5⟩ := at2_eq k e c (0 + 1) (m + 1) (by omega) (by omega) (by omega) (by omega) (by omega) (by omega)
        rw [e1, Option.bind_some]
        obtain ⟨b1, m1⟩ := r1
        dsimp only at t1 t2 t3 t4 t5 ⊢
        cases b1 with
        | false =>
          rw [if_neg (by simp)]
          refine ⟨(false, _), rfl, ⟨fun h => (by cases h), fun h => ?_⟩, fun h => (by cases h)⟩
          obtain ⟨q1, q2, q3⟩ := h
          simp only [nodesL, dp, formA, Bool.and_eq_true] at q1 q2 q3
          exact t1.2 ⟨by omega, by omega, q3.1.1.2⟩
        | true =>
          obtain ⟨u1, u2, u3⟩ := t1.1 rfl
          obtain rfl := t2 rfl
          rw [if_pos rfl]
          have go : ∀ (hp : (match ahead a i with | none => true | some q => decide (0 < cmpT q e)) = true), ∃ r : Bool × Int, impl_ordinalAt_l0 k a.rows 0 (fun v => impl_ordinalAt_p3 a.rows v) l.rows (i + 1) (m + 1 + 1 + nodesL e) = some (r.1, a.rows, r.2) ∧ (r.1 = true ↔ m + nodesL (cons e c l) ≤ 60 ∧ dp (cons e c l) ≤ 6 ∧ formA (ahead a i) (cons e c l) = true) ∧ (r.1 = true → r.2 = m + nodesL (cons e c l)) := by
            intro hp
            obtain ⟨r, er, s1, s2⟩ := at1_loop hk hc l (i + 1) (m + 1 + 1 + nodesL e) (drop_succ hdr) (drop_lt hdr) (by omega) (by omega)
            refine ⟨r, er, ?_⟩
            rw [ahead_succ hdr] at s1
            simp only [nodesL, dp, formA, Bool.and_eq_true]
            exact ⟨s1.trans ⟨fun q => ⟨by have := q.1; omega, by have := q.2.1; omega, ⟨⟨(by simpa using h2), u3⟩, hp⟩, q.2.2⟩, fun q => ⟨by have := q.1; omega, by have := q.2.1; omega, q.2.2.2⟩⟩, fun q => by rw [s2 q]; omega⟩
          by_cases h3 : (0 : Int) < (i : Int)
          · obtain ⟨q, qc, ql, hq, ha⟩ := ahead_some (t := a) (i := i) (by omega) hi
            have hqs := drop_cons_size hq
            rw [if_pos h3, wid (n := (i : Int) - 1) (by omega) (by have := a.len_size; have : cap = 1099511627776 := rfl; omega), row_T (n := i - 1) (by omega) hq, impl_cmp_eq k q e (by omega) (by omega), Option.bind_some]
            by_cases h4 : cmpT q e ≤ 0
            · rw [if_pos h4]
              refine ⟨(false, _), rfl, ⟨fun h => (by cases h), fun h => ?_⟩, fun h => (by cases h)⟩
              obtain ⟨_, _, q3⟩ := h
              simp only [formA, ha, Bool.and_eq_true, decide_eq_true_eq] at q3
              have := q3.1.2
              omega
            · rw [if_neg h4]
              exact go (by rw [ha]; simp; omega)
          · rw [if_neg h3]
            have : i = 0 := by omega
            subst this
            exact go rfl
      · rw [if_neg h2]
        refine ⟨(false, _), rfl, ⟨fun h => (by cases h), fun h => ?_⟩, fun h => (by cases h)⟩
        obtain ⟨_, _, q3⟩ := h
        simp only [formA, Bool.and_eq_true] at q3 h2
        exact absurd q3.1.1.1 h2
theorem at1_eq (k : Nat) (a : T) (hk : a.size < k) (hc : a.size ≤ cap) : ∃ r : Bool × Int, impl_ordinalAt k a.rows 0 0 = some (r.1, a.rows, r.2) ∧ (r.1 = true ↔ ordP a = true) ∧ (r.1 = true → r.2 = 1 + nodesL a) := by
  have hl := a.len_size
  unfold impl_ordinalAt
  rw [wid (n := 0 + 1) (by omega) (by omega), if_neg (by omega), if_neg (by omega), if_pos (by rw [rows_len]; omega)]
  obtain ⟨r, e, s, v⟩ := at1_loop hk hc a 0 (0 + 1) (drop_zero a) (by omega) (by omega) (by omega)
  refine ⟨r, e, s.trans ?_, fun q => by rw [v q]; omega⟩
  simp only [ordP, Bool.and_eq_true, decide_eq_true_eq, ahead]
  exact ⟨fun q => ⟨⟨by have := q.1; omega, q.2.1⟩, q.2.2⟩, fun q => ⟨by have := q.1.1; omega, q.1.2, q.2⟩⟩
theorem IsOrdinal_eq (k : Nat) (a : T) (hk : a.size < k) (hc : a.size ≤ cap) : impl_IsOrdinal k a.rows = some (ordP a) := by
  obtain ⟨r, e, s, _⟩ := at1_eq k a hk hc
  unfold impl_IsOrdinal
  rw [e, Option.bind_some]
  cases hb : ordP a with
  | true => rw [if_pos (s.2 hb)]
  | false => rw [if_neg (fun q => by rw [s.1 q] at hb; cases hb)]
theorem clone_loop {rec_ : Rw → Option Rw} {a : T} {K : Rw → Option Rw} (hr : ∀ e : T, e.size < a.size → rec_ e.rows = some e.rows) : ∀ (t : T) (acc : Rw), t.size ≤ a.size → acc.length + t.len ≤ cap → impl_cloneOrdinal_l0 rec_ a.rows K t.rows acc = K (acc ++ t.rows)
  | nil, acc, _, _ => by simp [rows, impl_cloneOrdinal_l0]
  | cons e c l, acc, hs, hl => by
    simp only [size, len] at hs hl
    simp only [rows, impl_cloneOrdinal_l0, cell_T, hr e (by omega), Option.bind_some]
    rw [if_pos (by omega), clone_loop hr l _ (by omega) (by simp; omega)]
    simp
theorem clone_eq : ∀ (k : Nat) (a : T), a.size < k → a.size ≤ cap → impl_cloneOrdinal k a.rows = some a.rows
  | 0, _, h, _ => absurd h (Nat.not_lt_zero _)
  | k + 1, a, h, hc => by
    have hl := a.len_size
    simp only [impl_cloneOrdinal, impl_cloneOrdinal_b]
    rw [if_pos (by rw [rows_len]; omega), clone_loop (fun e he => clone_eq k e (by omega) (by omega)) a [] (Nat.le_refl _) (by simp; omega)]
    simp
def toldT (t : T) : T × Bool := if ordP t then (t, true) else (nil, false)
theorem own_loop {rec_ : Rw → Option Rw} {a : T} {K : Rw → Option Rw} (hr : ∀ e : T, e.size < a.size → rec_ e.rows = some e.rows) : ∀ (t : T) (acc : Rw), t.size ≤ a.size → acc.length + t.len ≤ cap → spec_odOwn_l0 rec_ a.rows K t.rows acc = K (acc ++ t.rows)
  | nil, acc, _, _ => by simp [rows, spec_odOwn_l0]
  | cons e c l, acc, hs, hl => by
    simp only [size, len] at hs hl
    simp only [rows, spec_odOwn_l0, cell_T, hr e (by omega), Option.bind_some]
    rw [if_pos (by omega), own_loop hr l _ (by omega) (by simp; omega)]
    simp
theorem own_eq : ∀ (k : Nat) (a : T), a.size < k → a.size ≤ cap → spec_odOwn k a.rows = some a.rows
  | 0, _, h, _ => absurd h (Nat.not_lt_zero _)
  | k + 1, a, h, hc => by
    have hl := a.len_size
    simp only [spec_odOwn, spec_odOwn_b]
    rw [if_pos (by rw [rows_len]; omega), own_loop (fun e he => own_eq k e (by omega) (by omega)) a [] (Nat.le_refl _) (by simp; omega)]
    simp
/-! ### spec's check -/
theorem left_loop {rec_ : Rw → Int → Int → Option Int} {a : T} {depth : Int} (hd : 0 ≤ depth ∧ depth ≤ 6) (hr : ∀ (e : T) (v : Int), e.size < a.size → 0 < depth → -1 ≤ v → v ≤ 60 → ∃ r, rec_ e.rows (depth - 1) v = some r ∧ -2 ≤ r ∧ r ≤ 60 ∧ (1 + nodesL e ≤ v ∧ dp e ≤ depth - 1 → r = v - 1 - nodesL e) ∧ (¬ (1 + nodesL e ≤ v ∧ dp e ≤ depth - 1) → r < 0)) :
    ∀ (t : T) (v : Int), t.size ≤ a.size → -2 ≤ v → v ≤ 60 → ∃ r, spec_odLeft_l0 rec_ a.rows depth (fun v => some v) t.rows v = some r ∧ -2 ≤ r ∧ r ≤ 60 ∧ (nodesL t ≤ v ∧ dp t ≤ depth → r = v - nodesL t) ∧ (¬ (nodesL t ≤ v ∧ dp t ≤ depth) → r < 0)
  | nil, v, _, v0, v60 => ⟨v, rfl, v0, v60, fun _ => by simp [nodesL], fun h => by simp only [nodesL, dp] at h; omega⟩
  | cons e c l, v, hs, v0, v60 => by
    simp only [size] at hs
    simp only [rows, spec_odLeft_l0, cell_T]
    by_cases h1 : v < 0
    · rw [if_pos h1]
      exact ⟨-1, rfl, by omega, by omega, fun h => by simp only [nodesL] at h; omega, fun _ => by omega⟩
    · rw [if_neg h1]
      by_cases h2 : depth = 0
      · rw [if_pos h2]
        exact ⟨-1, rfl, by omega, by omega, fun h => by simp only [dp] at h; omega, fun _ => by omega⟩
      · rw [if_neg h2, wid (n := depth - 1) (by omega) (by omega), wid (n := v - 1) (by omega) (by omega)]
        obtain ⟨r1, e1, p1, p2, p3, p4⟩ := hr e (v - 1) (by omega) (by omega) (by omega) (by omega)
        rw [e1, Option.bind_some]
        obtain ⟨r, er, q1, q2, q3, q4⟩ := left_loop hd hr l r1 (by omega) p1 p2
        refine ⟨r, er, q1, q2, fun h => ?_, fun h => ?_⟩
        · simp only [nodesL, dp] at h ⊢
          have e2 := p3 ⟨by omega, by omega⟩
          rw [q3 ⟨by omega, by omega⟩, e2]; omega
        · by_cases h3 : 1 + (nodesL e : Int) ≤ v - 1 ∧ dp e ≤ depth - 1
          · have e2 := p3 h3
            refine q4 fun q => h ?_
            simp only [nodesL, dp]
            omega
          · exact q4 fun q => by have := p4 h3; omega
theorem left_eq : ∀ (k : Nat) (a : T) (depth v : Int), a.size < k → a.size ≤ cap → 0 ≤ depth → depth ≤ 6 → -1 ≤ v → v ≤ 60 →
    ∃ r, spec_odLeft k a.rows depth v = some r ∧ -2 ≤ r ∧ r ≤ 60 ∧ (1 + nodesL a ≤ v ∧ dp a ≤ depth → r = v - 1 - nodesL a) ∧ (¬ (1 + nodesL a ≤ v ∧ dp a ≤ depth) → r < 0)
  | 0, _, _, _, h, _, _, _, _, _ => absurd h (Nat.not_lt_zero _)
  | k + 1, a, depth, v, h, hc, d0, d6, v0, v60 => by
    have hl := a.len_size
    simp only [spec_odLeft, spec_odLeft_b]
    rw [if_pos (by rw [rows_len]; omega), wid (n := v - 1) (by omega) (by omega)]
    obtain ⟨r, er, q1, q2, q3, q4⟩ := left_loop (rec_ := spec_odLeft k) (a := a) (depth := depth) ⟨d0, d6⟩ (fun e u he hd u0 u60 => left_eq k e (depth - 1) u (by omega) (by omega) (by omega) (by omega) u0 u60) a (v - 1) (Nat.le_refl _) (by omega) (by omega)
    exact ⟨r, er, q1, q2, fun q => q3 ⟨by omega, q.2⟩, fun q => q4 fun u => q ⟨by omega, u.2⟩⟩
theorem form_loop {k : Nat} {rec_ : Rw → Int → Option Bool} {a : T} {depth : Int} (hd : 0 ≤ depth ∧ depth ≤ 6) (hk : a.size ≤ k) (hc : a.size ≤ cap) (ha : calm a)
    (hr : ∀ e : T, e.size < a.size → calm e → rec_ e.rows (depth - 1) = some (decide ((dp e : Int) ≤ depth - 1) && formA none e)) :
    ∀ (t : T) (i : Nat), drop a i = t → i ≤ a.len → spec_odForm_l0 k rec_ a.rows depth spec_odForm_p3 t.rows i = some (decide ((dp t : Int) ≤ depth) && formA (ahead a i) t)
  | nil, i, hdr, hi => by
    have : decide ((dp nil : Int) ≤ depth) = true := decide_eq_true (by simp only [dp]; omega)
    rw [this]; rfl
  | cons e c l, i, hdr, hi => by
    have hs := drop_cons_size hdr
    have hca := calm_drop ha (i := i)
    rw [hdr] at hca
    simp only [rows, spec_odForm_l0, cell_T, l1In_eq, Option.bind_some]
    by_cases h2 : (decide (1 ≤ c) && decide (c ≤ 1000000)) = true
    · rw [if_pos h2, wid (n := depth - 1) (by omega) (by omega), hr e (by omega) hca.1, Option.bind_some]
      by_cases h3 : (decide ((dp e : Int) ≤ depth - 1) && formA none e) = true
      · rw [if_pos h3]
        simp only [Bool.and_eq_true, decide_eq_true_eq] at h3
        have go : ∀ (hp : (match ahead a i with | none => true | some q => decide (0 < cmpT q e)) = true), spec_odForm_l0 k rec_ a.rows depth spec_odForm_p3 l.rows (i + 1) = some (decide ((dp (cons e c l) : Int) ≤ depth) && formA (ahead a i) (cons e c l)) := by
          intro hp
          rw [form_loop hd hk hc ha hr l (i + 1) (drop_succ hdr) (drop_lt hdr), ahead_succ hdr]
          have e1 : decide ((dp (cons e c l) : Int) ≤ depth) = decide ((dp l : Int) ≤ depth) := by simp only [dp]; congr 1; apply propext; omega
          have h6 : formA (ahead a i) (cons e c l) = formA (some e) l := by
            simp only [formA, h2, h3.2, Bool.true_and]
            cases hq : ahead a i with
            | none => simp
            | some q => rw [hq] at hp; simp only at hp; simp [hp]
          rw [e1, h6]
        by_cases h4 : (0 : Int) < (i : Int)
        · obtain ⟨q, qc, ql, hq, ha'⟩ := ahead_some (t := a) (i := i) (by omega) hi
          have hqs := drop_cons_size hq
          have hcq := calm_drop ha (i := i - 1)
          rw [hq] at hcq
          rw [if_pos h4, wid (n := (i : Int) - 1) (by omega) (by have := a.len_size; have : cap = 1099511627776 := rfl; omega), row_T (n := i - 1) (by omega) hq, odCmp_eq k q e hcq.1 hca.1 (by omega) (by omega), Option.bind_some]
          by_cases h5 : cmpT q e ≤ 0
          · rw [if_pos h5]
            have : decide (0 < cmpT q e) = false := by simpa using h5
            simp [formA, ha', this]
          · rw [if_neg h5]
            exact go (by rw [ha']; simp; omega)
        · rw [if_neg h4]
          have : i = 0 := by omega
          subst this
          exact go rfl
      · rw [if_neg h3]
        have : (decide ((dp (cons e c l) : Int) ≤ depth) && formA (ahead a i) (cons e c l)) = false := by
          refine Bool.eq_false_iff.2 fun hx => h3 ?_
          rw [Bool.and_eq_true, decide_eq_true_eq] at hx ⊢
          obtain ⟨x1, x2⟩ := hx
          simp only [dp] at x1
          simp only [formA, Bool.and_eq_true] at x2
          exact ⟨by omega, x2.1.1.2⟩
        rw [this]
    · rw [if_neg h2]
      have : formA (ahead a i) (cons e c l) = false := by
        simp only [formA]
        cases hx : (decide (1 ≤ c) && decide (c ≤ 1000000)) with
        | true => exact absurd hx h2
        | false => simp
      rw [this, Bool.and_false]
theorem form_eq : ∀ (k : Nat) (a : T) (depth : Int), a.size < k → a.size ≤ cap → calm a → -1 ≤ depth → depth ≤ 6 → spec_odForm k a.rows depth = some (decide ((dp a : Int) ≤ depth) && formA none a)
  | 0, _, _, h, _, _, _, _ => absurd h (Nat.not_lt_zero _)
  | k + 1, a, depth, h, hc, ha, d0, d6 => by
    have hl := a.len_size
    simp only [spec_odForm, spec_odForm_b]
    by_cases h1 : depth < 0
    · rw [if_pos h1]
      have : decide ((dp a : Int) ≤ depth) = false := by simp; omega
      rw [this, Bool.false_and]
    · rw [if_neg h1, if_pos (by rw [rows_len]; omega), form_loop (a := a) (by omega) (by omega) hc ha (fun e he hce => form_eq k e (depth - 1) (by omega) (by omega) hce (by omega) (by omega)) a 0 (drop_zero a) (by omega)]
      rfl
theorem odGood_eq (k : Nat) (a : T) (h : a.size < k) (hc : a.size ≤ cap) (ha : calm a) : spec_odGood k a.rows = some (ordP a) := by
  unfold spec_odGood
  obtain ⟨r, er, q1, q2, q3, q4⟩ := left_eq k a 6 60 h hc (by omega) (by omega) (by omega) (by omega)
  rw [er, Option.bind_some]
  by_cases h1 : 1 + nodesL a ≤ 60 ∧ dp a ≤ 6
  · have := q3 ⟨by omega, by omega⟩
    rw [if_pos (by omega), form_eq k a 6 h hc ha (by omega) (by omega), Option.bind_some]
    have h2 : decide ((dp a : Int) ≤ 6) = true := by simp; omega
    simp only [ordP, h2, h1.1, h1.2, decide_true, Bool.true_and]
    cases formA none a <;> rfl
  · have := q4 (by omega)
    rw [if_neg (by omega)]
    have : ordP a = false := by
      cases hx : ordP a with
      | false => rfl
      | true => simp only [ordP, Bool.and_eq_true, decide_eq_true_eq] at hx; exact absurd hx.1 h1
    rw [this]
end Go.Proofs.Try

namespace Go.Proofs.Try
open Go Go.AX T
theorem fr_snocLen (l e : T) (c : Int) : (app l (cons e c nil)).len = l.len + 1 := by rw [len_app]; rfl
/-- Slices no longer than a machine has. -/
def fitT : T → Prop
  | nil => True
  | cons e c l => fitT e ∧ (e.len : Int) ≤ 9223372036854775807 ∧ fitT l
end Go.Proofs.Try

namespace Go.Proofs.Try
open Go Go.AX T
theorem fr_drop_app (l r : T) : drop (app l r) l.len = r := by
  induction l with
  | nil => simp [app, len]
  | cons e c l _ ih => exact ih
def mkT : T → Int → T
  | nil, _ => nil
  | cons e _ l, k => cons (mkT e k) (k + size e) (mkT l (k + size e + 1))
theorem mkT_len (t : T) (k : Int) : (mkT t k).len = t.len := by
  induction t generalizing k with
  | nil => rfl
  | cons e c l _ ih => simp [mkT, len, ih]
theorem mkT_size (t : T) (k : Int) : (mkT t k).size = t.size := by
  induction t generalizing k with
  | nil => rfl
  | cons e c l ihe ih => simp [mkT, size, ihe, ih]
theorem set_rows (l e e' r : T) (c c' : Int) : (app l (cons e c r)).rows.set l.len [D.sl e'.rows, D.int .i64 c'] = (app l (cons e' c' r)).rows := by
  rw [rows_app, rows_app, ← rows_len l, List.set_append_right (h := Nat.le_refl _), Nat.sub_self]; rfl
end Go.Proofs.Try

namespace Go.Proofs.Try
open Go Go.AX T
abbrev w (n : Int) : Int := IntKind.i64.wrap n
theorem drop_app (l r : T) : drop (app l r) l.len = r := by
  induction l with
  | nil => simp [app, len]
  | cons e c l _ ih => exact ih
theorem T.snoc (t : T) : t = nil ∨ ∃ l x c, t = app l (cons x c nil) := by
  induction t with
  | nil => exact .inl rfl
  | cons e c l _ ih =>
    rcases ih with rfl | ⟨l', x, d, rfl⟩
    · exact .inr ⟨nil, e, c, rfl⟩
    · exact .inr ⟨cons e c l', x, d, rfl⟩
theorem calm_app {a b : T} : calm (app a b) ↔ calm a ∧ calm b := by
  induction a with
  | nil => simp [app, calm]
  | cons e c l _ ih => simp only [app, calm, ih, and_assoc]
/-! ### impl's sum -/
def goP : T → T → Int → T → T
  | nil, f, d, m => cons f d m
  | cons e c l, f, d, m => if cmpT e f = 1 then cons e c (goP l f d m) else if cmpT e f = 0 then cons e (w (c + d)) m else goP l f d m
def plusT : T → T → T
  | a, nil => a
  | a, cons f d m => goP a f d m
theorem goP_size (a f : T) (d : Int) (m : T) : (goP a f d m).size ≤ a.size + f.size + m.size + 1 := by
  induction a with
  | nil => simp [goP, size]
  | cons e c l _ ih =>
    simp only [goP]
    split
    · simp only [size]; omega
    · split
      · simp only [size]; omega
      · simp only [size]; omega
theorem plusT_size (a b : T) : (plusT a b).size ≤ a.size + b.size := by
  cases b with
  | nil => simp [plusT]
  | cons f d m => simp only [plusT, size]; have := goP_size a f d m; omega
theorem impl_isZero_eq (t : T) : impl_isZero t.rows = some (match t with | nil => true | cons _ _ _ => false) := by
  unfold impl_isZero
  cases t with
  | nil => rfl
  | cons e c l => rw [if_neg (by rw [lenI]; simp only [len]; omega)]
theorem plus_loop {k : Nat} {a b f m : T} {d : Int} (hb : b = cons f d m) (hk : a.size < k) (hc : a.size + b.size + 1 ≤ cap) : ∀ (t acc : T), t.size ≤ a.size → acc.len + t.len ≤ a.len →
    impl_plus_l0 k a.rows b.rows (fun v => impl_plus_p4 b.rows v) t.rows acc.rows = some (app acc (goP t f d m)).rows
  | nil, acc, _, hl => by
    have h1 := a.len_size
    have h2 := b.len_size
    have h3 : cap = 1099511627776 := rfl
    simp only [len] at hl
    show impl_plus_p4 b.rows acc.rows = _
    unfold impl_plus_p4
    rw [if_pos ⟨by rw [rows_len, rows_len]; omega, rowsWide _⟩, rows_app, hb]; rfl
  | cons e c l, acc, hs, hl => by
    have h1 := a.len_size
    have h2 := b.len_size
    have h3 : cap = 1099511627776 := rfl
    have h4 : b.len = m.len + 1 := by rw [hb]; rfl
    simp only [size] at hs
    simp only [len] at hl
    have hq : drop b 0 = cons f d m := by rw [hb]; rfl
    simp only [rows, impl_plus_l0, cell_T]
    rw [row_T (t := b) (i := 0) (n := 0) rfl hq, impl_cmp_eq k e f (by omega) (by omega), Option.bind_some]
    by_cases g1 : cmpT e f = 1
    · rw [if_pos g1, if_pos (by rw [rows_len]; omega)]
      have e1 : acc.rows ++ [[D.sl e.rows, D.int .i64 c]] = (app acc (cons e c nil)).rows := by rw [rows_app]; rfl
      have := plus_loop hb hk hc l (app acc (cons e c nil)) (by omega) (by rw [len_app]; simp only [len]; omega)
      rw [e1, this, app_assoc]
      simp [goP, g1, app]
    · rw [if_neg g1]
      by_cases g2 : cmpT e f = 0
      · rw [if_pos g2, if_pos (by rw [rows_len]; omega), if_pos ⟨by omega, by rw [lenI]; omega, rowsWide b⟩]
        have e3 : b.rows.drop (Int.toNat 1) = m.rows := by rw [hb]; rfl
        rw [e3, if_pos ⟨by simp only [List.length_append, rows_len, List.length_cons, List.length_nil]; omega, rowsWide m⟩]
        have g1' : ¬ (0 : Int) = 1 := by omega
        simp only [goP, g2, if_neg g1', if_true, rows_app, rows]
        rw [List.append_assoc]; rfl
      · rw [if_neg g2]
        have := plus_loop hb hk hc l acc (by omega) (by omega)
        rw [this]
        simp [goP, g1, g2]
theorem plus_eq (k : Nat) (a b : T) (hk : a.size < k) (hc : a.size + b.size + 1 ≤ cap) : impl_plus k a.rows b.rows = some (plusT a b).rows := by
  unfold impl_plus
  have h1 := a.len_size
  rw [impl_isZero_eq, Option.bind_some]
  cases b with
  | nil => rfl
  | cons f d m =>
    simp only
    rw [if_neg (by simp)]
    unfold impl_plus_p2
    rw [if_pos (by rw [rows_len]; omega)]
    have := plus_loop (b := cons f d m) rfl hk hc a nil (Nat.le_refl _) (by simp [len])
    exact this
theorem calm_less {a b : T} (h : ordP a = true) : True := trivial
theorem form_calm {p : Option T} {t : T} (h : formA p t = true) : calm t := by
  induction t generalizing p with
  | nil => trivial
  | cons e c l ihe ihl =>
    simp only [formA, Bool.and_eq_true, decide_eq_true_eq] at h
    obtain ⟨⟨⟨⟨h1, h2⟩, h3⟩, _⟩, h5⟩ := h
    exact ⟨ihe h3, by omega, ihl h5⟩
theorem ordP_form {t : T} (h : ordP t = true) : formA none t = true := by
  simp only [ordP, Bool.and_eq_true] at h; exact h.2
theorem form_any {p : Option T} {t : T} (h : formA p t = true) : formA none t = true := by
  cases t with
  | nil => rfl
  | cons e c l =>
    simp only [formA, Bool.and_eq_true] at h ⊢
    exact ⟨⟨⟨h.1.1.1, h.1.1.2⟩, trivial⟩, h.2⟩
end Go.Proofs.Try

namespace Go.Proofs.Try
open Go Go.AX T
/-- Without the terms at the end that are less than w^e. -/
def popT : T → T → T
  | nil, _ => nil
  | cons x c l, e => match popT l e with
    | nil => if cmpT x e < 0 then nil else cons x c nil
    | cons y d m => cons x c (cons y d m)
/-- A term added at the end. -/
def addL : T → T → Int → T
  | nil, e, d => cons e d nil
  | cons x c l, e, d => match l with
    | nil => if cmpT x e = 0 then cons x (w (c + d)) nil else cons x c (cons e d nil)
    | cons _ _ _ => cons x c (addL l e d)
def splus : T → T → T
  | a, nil => a
  | a, cons f d m => splus (addL (popT a f) f d) m
theorem popT_snoc (l x : T) (c : Int) (e : T) : popT (app l (cons x c nil)) e = if cmpT x e < 0 then popT l e else app l (cons x c nil) := by
  induction l with
  | nil => simp [app, popT]
  | cons y d l _ ih =>
    by_cases h : cmpT x e < 0
    · rw [if_pos h] at ih ⊢
      simp only [app, popT]
      rw [ih]
    · rw [if_neg h] at ih ⊢
      simp only [app, popT]
      rw [ih]
      cases l <;> simp [app]
theorem addL_snoc (l x : T) (c : Int) (e : T) (d : Int) : addL (app l (cons x c nil)) e d = if cmpT x e = 0 then app l (cons x (w (c + d)) nil) else app (app l (cons x c nil)) (cons e d nil) := by
  induction l with
  | nil => simp only [app, addL]
  | cons y k l _ ih =>
    have : app l (cons x c nil) ≠ nil := by cases l <;> simp [app]
    simp only [app, addL]
    split
    · rename_i h; exact absurd h this
    · rename_i h
      rw [ih]
      split <;> rfl
theorem popT_size (a e : T) : (popT a e).size ≤ a.size := by
  induction a with
  | nil => simp [popT, size]
  | cons x c l _ ih =>
    simp only [popT]
    split
    · split <;> simp [size]
    · rename_i h; rw [h] at ih; simp only [size] at ih ⊢; omega
theorem addL_size (a e : T) (d : Int) : (addL a e d).size ≤ a.size + e.size + 1 := by
  induction a with
  | nil => simp [addL, size]
  | cons x c l _ ih =>
    simp only [addL]
    split
    · split <;> simp [size] <;> omega
    · simp only [size] at ih ⊢; omega
theorem splus_size (a b : T) : (splus a b).size ≤ a.size + b.size := by
  induction b generalizing a with
  | nil => simp [splus, size]
  | cons f d m _ ih =>
    have h1 := ih (addL (popT a f) f d)
    have h2 := addL_size (popT a f) f d
    have h3 := popT_size a f
    simp only [splus, size] at *; omega
/-- Coefficients within a bound. -/
def sm (B : Int) : T → Prop
  | nil => True
  | cons e c l => sm B e ∧ (-B ≤ c ∧ c ≤ B) ∧ sm B l
theorem sm_calm {B : Int} {t : T} (h : sm B t) (hB : B ≤ 1000000000000000) : calm t := by
  induction t with
  | nil => trivial
  | cons e c l ihe ihl => exact ⟨ihe h.1, by have := h.2.1; omega, ihl h.2.2⟩
theorem sm_mono {B C : Int} {t : T} (h : sm B t) (hB : B ≤ C) : sm C t := by
  induction t with
  | nil => trivial
  | cons e c l ihe ihl => exact ⟨ihe h.1, by have := h.2.1; omega, ihl h.2.2⟩
theorem sm_app {B : Int} {a b : T} : sm B (app a b) ↔ sm B a ∧ sm B b := by
  induction a with
  | nil => simp [app, sm]
  | cons e c l _ ih => simp only [app, sm, ih, and_assoc]
theorem sm_pop {B : Int} {a e : T} (h : sm B a) : sm B (popT a e) := by
  induction a with
  | nil => trivial
  | cons x c l _ ih =>
    have ih := ih h.2.2
    simp only [popT]
    split
    · split
      · trivial
      · exact ⟨h.1, h.2.1, trivial⟩
    · rename_i hq; rw [hq] at ih; exact ⟨h.1, h.2.1, ih⟩
theorem sm_addL {B C : Int} {a e : T} {d : Int} (h : sm B a) (he : sm C e) (hd : -C ≤ d ∧ d ≤ C) (hB : 0 ≤ B ∧ 0 ≤ C ∧ B + C ≤ 1000000000000000) : sm (B + C) (addL a e d) := by
  induction a with
  | nil => exact ⟨sm_mono he (by omega), by omega, trivial⟩
  | cons x c l _ ih =>
    obtain ⟨h1, h2, h3⟩ := h
    simp only [addL]
    split
    · split
      · refine ⟨sm_mono h1 (by omega), ?_, trivial⟩
        show _ ≤ w (c + d) ∧ w (c + d) ≤ _
        rw [show w (c + d) = c + d from wid (by omega) (by omega)]; omega
      · exact ⟨sm_mono h1 (by omega), by omega, sm_mono he (by omega), by omega, trivial⟩
    · exact ⟨sm_mono h1 (by omega), by omega, ih h3⟩
theorem snoc_last (l x : T) (c : Int) : drop (app l (cons x c nil)) l.len = cons x c nil := drop_app l _
theorem pop_loop {k : Nat} {b f : T} {i : Nat} {d : Int} {K : Rw → Option Rw} (qf : calm f) : ∀ (n : Nat) (x : T), x.len < n → x.size < k → x.size ≤ cap → calm x → spec_odPlus_l1 k b.rows i f.rows d K n x.rows = K (popT x f).rows
  | 0, x, h, _, _, _ => absurd h (Nat.not_lt_zero _)
  | n + 1, x, h, hk, hc, hq => by
    have h3 : cap = 1099511627776 := rfl
    have hl := x.len_size
    rcases T.snoc x with rfl | ⟨l, e, c, rfl⟩
    · simp [rows, spec_odPlus_l1, popT]
    · have hlen : (app l (cons e c nil)).len = l.len + 1 := by rw [len_app]; rfl
      have hsz : (app l (cons e c nil)).size = l.size + e.size + 1 := by rw [size_app]; simp [size]; omega
      rw [hlen] at h hl
      rw [calm_app] at hq
      have e1 : w (((app l (cons e c nil)).rows.length : Int) - 1) = (l.len : Int) := by rw [lenI, hlen]; show w _ = _; rw [show w (((l.len + 1 : Nat) : Int) - 1) = ((l.len + 1 : Nat) : Int) - 1 from wid (by omega) (by omega)]; omega
      simp only [spec_odPlus_l1]
      rw [if_pos (by rw [lenI, hlen]; omega)]
      simp only [w] at e1
      rw [e1, if_pos (by rw [lenI, hlen]; omega), row_T rfl (snoc_last l e c), odCmp_eq k e f hq.2.1 qf (by omega) (by omega), Option.bind_some, popT_snoc]
      by_cases g : cmpT e f < 0
      · rw [if_pos g, if_pos g, if_pos (by rw [lenI, hlen]; omega), Int.toNat_natCast, if_pos (by rw [rows_len, hlen]; omega)]
        have e2 : (app l (cons e c nil)).rows.take l.len = l.rows := by rw [rows_app, ← rows_len l]; exact List.take_left
        rw [e2]
        exact pop_loop qf n l (by omega) (by omega) (by omega) hq.1
      · rw [if_neg g, if_neg g]
theorem splus_loop {k : Nat} {b : T} {B : Int} : ∀ (t : T) (i : Nat) (acc : T) (C : Int), drop b i = t → acc.size + t.size < k → acc.size + t.size ≤ cap → sm C acc → sm B t → 0 ≤ B → 0 ≤ C → C + B * t.len + B ≤ 1000000000000000 →
    spec_odPlus_l0 k b.rows (fun v => spec_odPlus_p3 v) t.rows i acc.rows = some (splus acc t).rows
  | nil, i, acc, C, _, _, _, _, _, _, _, _ => rfl
  | cons f d m, i, acc, C, hd, hk, hc, sa, st, hB, hC, hs => by
    have h3 : cap = 1099511627776 := rfl
    simp only [size] at hk hc
    simp only [len] at hs
    have hs' : C + B + B * m.len + B ≤ 1000000000000000 := by
      have e : B * ((m.len + 1 : Nat) : Int) = B * m.len + B := by rw [Int.natCast_add, Int.mul_add]; omega
      rw [e] at hs; omega
    have hnn : 0 ≤ B * (m.len : Int) := Int.mul_nonneg hB (by omega)
    have ca := sm_calm sa (by omega)
    have cf := sm_calm st.1 (by omega)
    have hl := acc.len_size
    simp only [rows, spec_odPlus_l0, cell_T]
    rw [pop_loop cf k acc (by omega) (by omega) (by omega) ca]
    have hps := popT_size acc f
    have hpc := sm_pop (e := f) sa
    have hal := addL_size (popT acc f) f d
    have hsm : sm (C + B) (addL (popT acc f) f d) := sm_addL hpc st.1 st.2.1 ⟨hC, hB, by omega⟩
    have go := splus_loop (k := k) (b := b) (B := B) m (i + 1) (addL (popT acc f) f d) (C + B) (drop_succ hd) (by omega) (by omega) hsm st.2.2 hB (by omega) hs'
    have e0 : splus acc (cons f d m) = splus (addL (popT acc f) f d) m := rfl
    rw [e0, ← go]
    have hpl := (popT acc f).len_size
    rcases T.snoc (popT acc f) with hn | ⟨l, x, c, hn⟩
    · rw [hn]
      have e1 : IntKind.i64.wrap (((nil : T).rows.length : Int) - 1) = -1 := by rw [lenI]; simp only [len]; exact wid (by omega) (by omega)
      rw [e1, if_neg (by omega), if_pos (by rw [rows_len]; simp only [len]; omega)]
      rfl
    · rw [hn] at hpc hps hpl ⊢
      have hlen : (app l (cons x c nil)).len = l.len + 1 := by rw [len_app]; rfl
      have hsz : (app l (cons x c nil)).size = l.size + x.size + 1 := by rw [size_app]; simp [size]; omega
      have hpc' := (calm_app.1 (sm_calm hpc (by omega))).2
      have e1 : IntKind.i64.wrap (((app l (cons x c nil)).rows.length : Int) - 1) = (l.len : Int) := by rw [lenI, hlen, wid (by omega) (by omega)]; omega
      rw [e1, if_pos (by omega), if_pos (by rw [lenI, hlen]; omega), row_T rfl (snoc_last l x c), odCmp_eq k x f hpc'.1 cf (by omega) (by omega), Option.bind_some, addL_snoc]
      by_cases g : cmpT x f = 0
      · rw [if_pos g, if_pos g]
        have e2 : (app l (cons x c nil)).rows.set (Int.toNat (l.len : Int)) [D.sl x.rows, D.int .i64 (IntKind.i64.wrap (c + d))] = (app l (cons x (w (c + d)) nil)).rows := by
          rw [Int.toNat_natCast, rows_app, rows_app, ← rows_len l, List.set_append_right (h := Nat.le_refl _), Nat.sub_self]; rfl
        rw [e2]
      · rw [if_neg g, if_neg g, if_pos (by rw [rows_len]; omega)]
        have e2 : (app l (cons x c nil)).rows ++ [[D.sl f.rows, D.int .i64 d]] = (app (app l (cons x c nil)) (cons f d nil)).rows := by rw [rows_app (app l _)]; rfl
        rw [e2]
theorem odPlus_eq {B C : Int} (k : Nat) (a b : T) (hk : a.size + b.size < k) (hc : a.size + b.size ≤ cap) (sa : sm C a) (sb : sm B b) (hB : 0 ≤ B) (hC : 0 ≤ C) (hs : C + B * b.len + B ≤ 1000000000000000) : spec_odPlus k a.rows b.rows = some (splus a b).rows := by
  have h1 := a.len_size
  have h2 := b.len_size
  unfold spec_odPlus
  rw [if_pos ⟨by rw [rows_len]; omega, rowsWide a⟩, if_pos (by rw [rows_len]; omega)]
  exact splus_loop b 0 a C (drop_zero b) hk hc sa sb hB hC hs
/-! ### right ones -/
theorem form_sm {p : Option T} {t : T} (h : formA p t = true) : sm 1000000 t := by
  induction t generalizing p with
  | nil => trivial
  | cons e c l ihe ihl =>
    simp only [formA, Bool.and_eq_true, decide_eq_true_eq] at h
    obtain ⟨⟨⟨⟨h1, h2⟩, h3⟩, _⟩, h5⟩ := h
    exact ⟨ihe h3, by omega, ihl h5⟩
/-- Exponents that fall, from below p on. -/
def falls : Option T → T → Prop
  | _, nil => True
  | p, cons e _ l => (∀ q, p = some q → 0 < cmpT q e) ∧ falls (some e) l
theorem form_falls {p : Option T} {t : T} (h : formA p t = true) : falls p t := by
  induction t generalizing p with
  | nil => trivial
  | cons e c l _ ihl =>
    simp only [formA, Bool.and_eq_true, decide_eq_true_eq] at h
    refine ⟨fun q hq => ?_, ihl h.2⟩
    subst hq
    simpa using h.1.2
theorem cmp_lt_of {a b c : T} (h1 : 0 < cmpT a b) (h2 : cmpT b c = 1 ∨ cmpT b c = 0) : 0 < cmpT a c := by
  rcases h2 with h2 | h2
  · have q1 : cmpT b a < 0 := by rw [cmpT_neg a b]; omega
    have q2 : cmpT c b < 0 := by rw [cmpT_neg b c]; omega
    have := cmpT_trans q2 q1
    rw [cmpT_neg c a]; omega
  · obtain rfl := cmpT_eq.1 h2; exact h1
/-- In falling terms, those ahead of a greater one are greater. -/
theorem goP_pop {a f : T} {d : Int} : ∀ {p : Option T}, falls p a → addL (popT a f) f d = goP a f d nil
  | p, h => by
    induction a generalizing p with
    | nil => rfl
    | cons e c l _ ih =>
      have h2 := h.2
      have key : ∀ {x : T}, falls (some x) l → cmpT x f ≤ 0 → popT l f = nil := by
        intro x hx hxf
        clear ih h h2
        induction l generalizing x with
        | nil => rfl
        | cons y k m _ ihm =>
          have hy := hx.1 x rfl
          have hyf : cmpT y f < 0 := by
            rcases cmpT_range x f with q | q | q
            · have q2 : cmpT y x < 0 := by rw [cmpT_neg x y]; omega
              exact cmpT_trans q2 (by omega)
            · obtain rfl := cmpT_eq.1 q
              rw [cmpT_neg x y]; omega
            · omega
          simp only [popT, ihm hx.2 (by omega), if_pos hyf]
      have ih := ih _ h2
      simp only [popT, goP]
      rcases cmpT_range e f with q | q | q
      · rw [key h2 (by omega)]
        have e1 : ¬ cmpT e f = 1 := by omega
        have e2 : ¬ cmpT e f = 0 := by omega
        simp only [if_neg e1, if_neg e2, if_pos (by omega : cmpT e f < 0)]
        rw [← ih, key h2 (by omega)]
      · rw [key h2 (by omega)]
        have e1 : ¬ cmpT e f = 1 := by omega
        simp only [if_neg e1, if_pos q, if_neg (by omega : ¬ cmpT e f < 0), addL]
      · simp only [if_pos q]
        rw [← ih]
        cases hq : popT l f with
        | nil =>
          simp only [if_neg (by omega : ¬ cmpT e f < 0), addL, if_neg (by omega : ¬ cmpT e f = 0)]
        | cons y k m => simp only [addL]
theorem goP_app {a f : T} {d : Int} {m : T} : goP a f d m = app (goP a f d nil) m := by
  induction a with
  | nil => rfl
  | cons e c l _ ih =>
    simp only [goP]
    split
    · simp only [app, ih]
    · split
      · rfl
      · exact ih
/-- What is less than all ahead of it is only added at the end. -/
theorem splus_end {a x : T} {c : Int} : ∀ {m : T}, falls (some x) m → splus (app a (cons x c nil)) m = app (app a (cons x c nil)) m
  | nil, _ => by simp [splus]
  | cons g k m, h => by
    have h1 := h.1 x rfl
    simp only [splus]
    rw [popT_snoc, if_neg (by omega), addL_snoc, if_neg (by omega)]
    rw [splus_end (a := app a (cons x c nil)) h.2, app_assoc (app a (cons x c nil))]
    rfl
theorem goP_snoc {a f : T} {d : Int} : ∃ l c, goP a f d nil = app l (cons f c nil) := by
  induction a with
  | nil => exact ⟨nil, d, rfl⟩
  | cons e c l _ ih =>
    obtain ⟨l', c', h⟩ := ih
    simp only [goP]
    split
    · exact ⟨cons e c l', c', by rw [h]; rfl⟩
    · split
      · rename_i q; obtain rfl := cmpT_eq.1 q; exact ⟨nil, _, rfl⟩
      · exact ⟨l', c', h⟩
theorem splus_plus {a b : T} (ha : falls none a) (hb : falls none b) : splus a b = plusT a b := by
  cases b with
  | nil => cases a <;> rfl
  | cons f d m =>
    simp only [splus, plusT]
    rw [goP_pop ha, goP_app (m := m)]
    obtain ⟨l, c, h⟩ := goP_snoc (a := a) (f := f) (d := d)
    rw [h]
    exact splus_end hb.2
theorem plusT_sm {B C : Int} {a b : T} (ha : sm B a) (hb : sm C b) (hB : 0 ≤ B ∧ 0 ≤ C ∧ B + C ≤ 1000000000000000) : sm (B + C) (plusT a b) := by
  cases b with
  | nil => exact sm_mono ha (by omega)
  | cons f d m =>
    simp only [plusT]
    have hm : sm (B + C) m := sm_mono hb.2.2 (by omega)
    induction a with
    | nil => exact ⟨sm_mono hb.1 (by omega), by have := hb.2.1; omega, hm⟩
    | cons e c l _ ih =>
      have h1 := ha.2.1
      have h2 := hb.2.1
      simp only [goP]
      split
      · exact ⟨sm_mono ha.1 (by omega), by omega, ih ha.2.2⟩
      · split
        · refine ⟨sm_mono ha.1 (by omega), ?_, hm⟩
          show _ ≤ w (c + d) ∧ w (c + d) ≤ _
          rw [show w (c + d) = c + d from wid (by omega) (by omega)]; omega
        · exact ih ha.2.2
def intT (n : Int) : T := if n = 0 then nil else cons nil n nil
theorem intT_size (n : Int) : (intT n).size ≤ 1 := by unfold intT; split <;> simp [size]
theorem intT_sm {n B : Int} (h : -B ≤ n ∧ n ≤ B) : sm B (intT n) := by
  unfold intT; split
  · trivial
  · exact ⟨trivial, h, trivial⟩
theorem snocRows (l e : T) (c : Int) : l.rows ++ [[D.sl e.rows, D.int .i64 c]] = (app l (cons e c nil)).rows := by rw [rows_app]; rfl
end Go.Proofs.Try

namespace Go.Proofs.Try
open Go Go.AX T
theorem form_loop_all {k : Nat} {rec_ : Rw → Int → Option Bool} {a : T} {depth : Int} (hd : 0 ≤ depth ∧ depth ≤ 6) (hk : a.size ≤ k) (hc : a.size ≤ cap)
    (hr : ∀ e : T, e.size < a.size → rec_ e.rows (depth - 1) = some (decide ((dp e : Int) ≤ depth - 1) && formA none e)) :
    ∀ (t : T) (i : Nat), drop a i = t → i ≤ a.len → (∀ q, ahead a i = some q → calm q) → spec_odForm_l0 k rec_ a.rows depth spec_odForm_p3 t.rows i = some (decide ((dp t : Int) ≤ depth) && formA (ahead a i) t)
  | nil, i, hdr, hi, _ => by
    have : decide ((dp nil : Int) ≤ depth) = true := decide_eq_true (by simp only [dp]; omega)
    rw [this]; rfl
  | cons e c l, i, hdr, hi, hcalm => by
    have hs := drop_cons_size hdr
    simp only [rows, spec_odForm_l0, cell_T, l1In_eq, Option.bind_some]
    by_cases h2 : (decide (1 ≤ c) && decide (c ≤ 1000000)) = true
    · rw [if_pos h2, wid (n := depth - 1) (by omega) (by omega), hr e (by omega), Option.bind_some]
      by_cases h3 : (decide ((dp e : Int) ≤ depth - 1) && formA none e) = true
      · rw [if_pos h3]
        simp only [Bool.and_eq_true, decide_eq_true_eq] at h3
        have hce := form_calm h3.2
        have go : ∀ (hp : (match ahead a i with | none => true | some q => decide (0 < cmpT q e)) = true), spec_odForm_l0 k rec_ a.rows depth spec_odForm_p3 l.rows (i + 1) = some (decide ((dp (cons e c l) : Int) ≤ depth) && formA (ahead a i) (cons e c l)) := by
          intro hp
          rw [form_loop_all hd hk hc hr l (i + 1) (drop_succ hdr) (drop_lt hdr) (by rw [ahead_succ hdr]; intro q hq; cases hq; exact hce), ahead_succ hdr]
          have e1 : decide ((dp (cons e c l) : Int) ≤ depth) = decide ((dp l : Int) ≤ depth) := by simp only [dp]; congr 1; apply propext; omega
          have h6 : formA (ahead a i) (cons e c l) = formA (some e) l := by
            simp only [formA, h2, h3.2, Bool.true_and]
            cases hq : ahead a i with
            | none => simp
            | some q => rw [hq] at hp; simp only at hp; simp [hp]
          rw [e1, h6]
        by_cases h4 : (0 : Int) < (i : Int)
        · obtain ⟨q, qc, ql, hq, ha'⟩ := ahead_some (t := a) (i := i) (by omega) hi
          have hqs := drop_cons_size hq
          have hcq := hcalm q ha'
          rw [if_pos h4, wid (n := (i : Int) - 1) (by omega) (by have := a.len_size; have : cap = 1099511627776 := rfl; omega), row_T (n := i - 1) (by omega) hq, odCmp_eq k q e hcq hce (by omega) (by omega), Option.bind_some]
          by_cases h5 : cmpT q e ≤ 0
          · rw [if_pos h5]
            have : decide (0 < cmpT q e) = false := by simpa using h5
            simp [formA, ha', this]
          · rw [if_neg h5]
            exact go (by rw [ha']; simp; omega)
        · rw [if_neg h4]
          have : i = 0 := by omega
          subst this
          exact go rfl
      · rw [if_neg h3]
        have : (decide ((dp (cons e c l) : Int) ≤ depth) && formA (ahead a i) (cons e c l)) = false := by
          refine Bool.eq_false_iff.2 fun hx => h3 ?_
          rw [Bool.and_eq_true, decide_eq_true_eq] at hx ⊢
          obtain ⟨x1, x2⟩ := hx
          simp only [dp] at x1
          simp only [formA, Bool.and_eq_true] at x2
          exact ⟨by omega, x2.1.1.2⟩
        rw [this]
    · rw [if_neg h2]
      have : formA (ahead a i) (cons e c l) = false := by
        simp only [formA]
        cases hx : (decide (1 ≤ c) && decide (c ≤ 1000000)) with
        | true => exact absurd hx h2
        | false => simp
      rw [this, Bool.and_false]
theorem form_all : ∀ (k : Nat) (a : T) (depth : Int), a.size < k → a.size ≤ cap → -1 ≤ depth → depth ≤ 6 → spec_odForm k a.rows depth = some (decide ((dp a : Int) ≤ depth) && formA none a)
  | 0, _, _, h, _, _, _ => absurd h (Nat.not_lt_zero _)
  | k + 1, a, depth, h, hc, d0, d6 => by
    have hl := a.len_size
    simp only [spec_odForm, spec_odForm_b]
    by_cases h1 : depth < 0
    · rw [if_pos h1]
      have : decide ((dp a : Int) ≤ depth) = false := by simp; omega
      rw [this, Bool.false_and]
    · rw [if_neg h1, if_pos (by rw [rows_len]; omega), form_loop_all (a := a) (by omega) (by omega) hc (fun e he => form_all k e (depth - 1) (by omega) (by omega) (by omega) (by omega)) a 0 (drop_zero a) (by omega) (by intro q hq; cases hq)]
      rfl
theorem odGood_all (k : Nat) (a : T) (h : a.size < k) (hc : a.size ≤ cap) : spec_odGood k a.rows = some (ordP a) := by
  unfold spec_odGood
  obtain ⟨r, er, q1, q2, q3, q4⟩ := left_eq k a 6 60 h hc (by omega) (by omega) (by omega) (by omega)
  rw [er, Option.bind_some]
  by_cases h1 : 1 + nodesL a ≤ 60 ∧ dp a ≤ 6
  · have := q3 ⟨by omega, by omega⟩
    rw [if_pos (by omega), form_all k a 6 h hc (by omega) (by omega), Option.bind_some]
    have h2 : decide ((dp a : Int) ≤ 6) = true := by simp; omega
    simp only [ordP, h2, h1.1, h1.2, decide_true, Bool.true_and]
    cases formA none a <;> rfl
  · have := q4 (by omega)
    rw [if_neg (by omega)]
    have : ordP a = false := by
      cases hx : ordP a with
      | false => rfl
      | true => simp only [ordP, Bool.and_eq_true, decide_eq_true_eq] at hx; exact absurd hx.1 h1
    rw [this]
end Go.Proofs.Try

namespace Go.Proofs.Try
open Go Go.AX T
theorem told_eq (k : Nat) (a : T) (h : a.size < k) (hc : a.size ≤ cap) : impl_told k a.rows = some ((toldT a).1.rows, (toldT a).2) := by
  unfold impl_told toldT
  rw [IsOrdinal_eq k a h hc, Option.bind_some]
  cases ordP a with
  | false => rfl
  | true => rw [if_pos rfl, clone_eq k a h hc]; rfl
end Go.Proofs.Try

namespace Go.Proofs.Try
open Go Go.AX T
theorem odIf_eq (k : Nat) (a : T) (h : a.size < k) (hc : a.size ≤ cap) (ha : calm a) : spec_odIf k a.rows = some ((toldT a).1.rows, (toldT a).2) := by
  unfold spec_odIf toldT
  rw [odGood_eq k a h hc ha, Option.bind_some]
  cases ordP a with
  | false => rfl
  | true => rw [if_pos rfl, own_eq k a h hc]; rfl
theorem odIf_all (k : Nat) (a : T) (h : a.size < k) (hc : a.size ≤ cap) : spec_odIf k a.rows = some ((toldT a).1.rows, (toldT a).2) := by
  unfold spec_odIf toldT
  rw [odGood_all k a h hc]
  simp only [Option.bind_some]
  cases ordP a with
  | false => rfl
  | true => rw [if_pos rfl, own_eq k a h hc]; rfl
end Go.Proofs.Try

namespace Go.Proofs.Try
open Go Go.AX T
/-! ### what is left -/
def lessT : T → T → T
  | a, nil => a
  | nil, cons _ _ _ => nil
  | cons e c l, cons f d m => if cmpT e f = 0 then (if c = d then lessT l m else cons e (w (c - d)) l) else cons e c l
theorem lessT_nil (a : T) : lessT a nil = a := by cases a <;> rfl
theorem lessT_size (a b : T) : (lessT a b).size ≤ a.size := by
  induction a generalizing b with
  | nil => cases b <;> simp [lessT]
  | cons e c l _ ih =>
    cases b with
    | nil => simp [lessT]
    | cons f d m =>
      simp only [lessT]
      split
      · split
        · have := ih m; simp only [size]; omega
        · simp [size]
      · simp
theorem rows_cons_drop {a : T} {i : Nat} {e : T} {c : Int} {l : T} (h : drop a i = cons e c l) : a.rows.drop (i + 1) = l.rows := by rw [← rows_drop, drop_succ h]
theorem less_loop {k : Nat} {a b : T} (hk : a.size < k) (hc : a.size ≤ cap) : ∀ (t : T) (i : Nat), drop b i = t → i ≤ b.len → i ≤ a.len → 0 ≤ cmpT (drop a i) t →
    impl_less_l0 k a.rows b.rows (impl_less_p2 a.rows b.rows) t.rows i = some (lessT (drop a i) t).rows
  | nil, i, hd, hb, ha, _ => by
    have h1 := drop_ge hd
    have e1 : i = b.len := by omega
    show impl_less_p2 a.rows b.rows = _
    unfold impl_less_p2
    rw [if_pos ⟨by rw [lenI]; omega, by rw [lenI, lenI]; omega, rowsWide a⟩, lessT_nil, rows_drop, e1, lenI, Int.toNat_natCast]
  | cons f d m, i, hd, hb, ha, hcmp => by
    have h3 : cap = 1099511627776 := rfl
    have hl := a.len_size
    cases hq : drop a i with
    | nil => rw [hq] at hcmp; simp [cmpT] at hcmp
    | cons e c l =>
      have hs := drop_cons_size hq
      have hlt := drop_lt hq
      have hll := l.len_size
      rw [hq] at hcmp
      simp only [rows, impl_less_l0, cell_T]
      rw [row_T rfl hq, impl_cmp_eq k e f (by omega) (by omega), Option.bind_some]
      by_cases g1 : cmpT e f = 0
      · rw [if_pos g1]
        by_cases g2 : c = d
        · subst g2
          rw [if_pos rfl]
          have hn : 0 ≤ cmpT (drop a (i + 1)) m := by rw [drop_succ hq]; simpa [cmpT, g1, cmpI_refl] using hcmp
          have := less_loop hk hc m (i + 1) (drop_succ hd) (drop_lt hd) hlt hn
          rw [this, drop_succ hq]
          simp [lessT, g1]
        · rw [if_neg g2]
          have e1 : IntKind.i64.wrap ((i : Int) + 1) = ((i + 1 : Nat) : Int) := by rw [wid (by omega) (by omega)]; rfl
          rw [e1, if_pos ⟨by omega, by rw [lenI]; omega, rowsWide a⟩, Int.toNat_natCast, rows_cons_drop hq, if_pos ⟨by rw [rows_len]; show 1 + l.len ≤ cap; omega, rowsWide l⟩]
          simp only [lessT, g1, if_true, if_neg g2, rows]; rfl
      · rw [if_neg g1, if_pos ⟨by omega, by rw [lenI]; omega, rowsWide a⟩, Int.toNat_natCast, ← rows_drop, hq]
        simp [lessT, g1]
theorem less_eq (k : Nat) (a b : T) (hk : a.size < k) (hc : a.size ≤ cap) (hb : b.size ≤ cap) (h : 0 ≤ cmpT a b) : impl_less k a.rows b.rows = some (lessT a b).rows := by
  have := b.len_size
  unfold impl_less
  rw [if_pos (by rw [rows_len]; omega)]
  have := less_loop hk hc b 0 (drop_zero b) (by omega) (by omega) (by rw [drop_zero]; exact h)
  rw [this, drop_zero]
theorem odLess_loop {k : Nat} {a b : T} (hk : a.size < k) (hc : a.size ≤ cap) (qa : calm a) (qb : calm b) : ∀ (t : T) (i : Nat), drop a i = t → i ≤ b.len → i ≤ a.len → 0 ≤ cmpT t (drop b i) →
    spec_odLess_l0 k a.rows b.rows spec_odLess_p2 t.rows i = some (lessT t (drop b i)).rows
  | nil, i, hd, hb, ha, hcmp => by
    cases hq : drop b i with
    | nil => rfl
    | cons f d m => rfl
  | cons e c l, i, hd, hb, ha, hcmp => by
    have h3 : cap = 1099511627776 := rfl
    have hl := a.len_size
    have hs := drop_cons_size hd
    have hlt := drop_lt hd
    have hll := l.len_size
    have hca := calm_drop qa (i := i)
    rw [hd] at hca
    simp only [rows, spec_odLess_l0, cell_T]
    by_cases g0 : i = b.len
    · rw [if_pos (by rw [lenI]; omega), if_pos ⟨by omega, by rw [lenI]; omega, rowsWide a⟩, Int.toNat_natCast, ← rows_drop, hd, drop_of_ge (t := b) (by omega)]
      rfl
    · rw [if_neg (by rw [lenI]; omega)]
      cases hq : drop b i with
      | nil => have := drop_ge hq; omega
      | cons f d m =>
        have hcb := calm_drop qb (i := i)
        rw [hq] at hcmp hcb
        rw [row_T rfl hq, odCmp_eq k e f hca.1 hcb.1 (by omega) (by omega), Option.bind_some]
        by_cases g1 : cmpT e f = 0
        · rw [if_pos g1]
          by_cases g2 : c = d
          · subst g2
            rw [if_pos rfl]
            have hn : 0 ≤ cmpT l (drop b (i + 1)) := by rw [drop_succ hq]; simpa [cmpT, g1, cmpI_refl] using hcmp
            have := odLess_loop hk hc qa qb l (i + 1) (drop_succ hd) (drop_lt hq) hlt hn
            rw [this, drop_succ hq]
            simp [lessT, g1]
          · rw [if_neg g2]
            have e1 : IntKind.i64.wrap ((i : Int) + 1) = ((i + 1 : Nat) : Int) := by rw [wid (by omega) (by omega)]; rfl
            rw [e1, if_pos ⟨by omega, by rw [lenI]; omega, rowsWide a⟩, Int.toNat_natCast, rows_cons_drop hd, if_pos ⟨by rw [rows_len]; show 1 + l.len ≤ cap; omega, rowsWide l⟩]
            simp only [lessT, g1, if_true, if_neg g2, rows]; rfl
        · rw [if_neg g1, if_pos ⟨by omega, by rw [lenI]; omega, rowsWide a⟩, Int.toNat_natCast, ← rows_drop, hd]
          simp [lessT, g1]
theorem odLess_eq (k : Nat) (a b : T) (hk : a.size < k) (hc : a.size ≤ cap) (qa : calm a) (qb : calm b) (h : 0 ≤ cmpT a b) : spec_odLess k a.rows b.rows = some (lessT a b).rows := by
  have := a.len_size
  unfold spec_odLess
  rw [if_pos (by rw [rows_len]; omega)]
  have := odLess_loop hk hc qa qb a 0 (drop_zero a) (by omega) (by omega) (by rw [drop_zero]; exact h)
  rw [this, drop_zero]
theorem lessT_calm {a b : T} (ha : formA none a = true) (hb : formA none b = true) : calm (lessT a b) := by
  induction a generalizing b with
  | nil => cases b <;> trivial
  | cons e c l _ ih =>
    cases b with
    | nil => rw [lessT_nil]; exact form_calm ha
    | cons f d m =>
      have h1 := form_calm ha
      have h2 := form_calm hb
      simp only [formA, Bool.and_eq_true, decide_eq_true_eq] at ha hb
      simp only [lessT]
      split
      · split
        · exact ih (form_any ha.2) (form_any hb.2)
        · refine ⟨h1.1, ?_, h1.2.2⟩
          show _ ≤ w (c - d) ∧ w (c - d) ≤ _
          rw [show w (c - d) = c - d from wid (by omega) (by omega)]; omega
      · exact h1
end Go.Proofs.Try

namespace Go.Proofs.Try
open Go Go.AX T
theorem gt_of {e f : T} (h : ¬ cmpT e f = 1) (h0 : ¬ cmpT e f = 0) : cmpT e f < 0 := by
  rcases cmpT_range e f with q | q | q <;> omega
theorem gt_trans {e f g : T} (h1 : cmpT e f = 1) (h2 : cmpT f g = 1) : cmpT e g = 1 := by
  have q1 : cmpT f e < 0 := by rw [cmpT_neg e f]; omega
  have q2 : cmpT g f < 0 := by rw [cmpT_neg f g]; omega
  have := cmpT_trans q2 q1
  have q3 := cmpT_neg g e
  rcases cmpT_range e g with q | q | q <;> omega
theorem goP_low {m f g n : T} {h : Int} (hf : falls (some f) m) (hfg : cmpT f g < 0) : goP m g h n = cons g h n := by
  induction m generalizing f with
  | nil => rfl
  | cons x c l _ ih =>
    have h1 := hf.1 f rfl
    have h2 : cmpT x g < 0 := by
      have : cmpT x f < 0 := by rw [cmpT_neg f x]; omega
      exact cmpT_trans this hfg
    simp only [goP]
    rw [if_neg (by omega), if_neg (by omega)]
    exact ih hf.2 h2
theorem goP_A {a f g m n : T} {d h : Int} (hfg : cmpT f g = 1) : goP (goP a f d m) g h n = goP a f d (goP m g h n) := by
  induction a with
  | nil => simp only [goP, if_pos hfg]
  | cons e c l _ ih =>
    simp only [goP]
    split
    · rename_i q; simp only [goP]; rw [if_pos (gt_trans q hfg), ih]
    · split
      · rename_i q; obtain rfl := cmpT_eq.1 q; simp only [goP]; rw [if_pos hfg]
      · exact ih
theorem goP_BX {a f m n : T} {d h : Int} (ha : sm 1000000000000000 a) (hd : -1000000000000000 ≤ d ∧ d ≤ 1000000000000000) (hh : -1000000000000000 ≤ h ∧ h ≤ 1000000000000000) : goP (goP a f d m) f h n = goP a f (w (d + h)) n := by
  have r : cmpT f f = 0 := cmpT_refl f
  induction a with
  | nil => simp only [goP]; rw [if_neg (by omega), if_pos r]
  | cons e c l _ ih =>
    simp only [goP]
    split
    · rename_i q; simp only [goP]; rw [if_pos q, ih ha.2.2]
    · rename_i q0
      split
      · rename_i q; simp only [goP]; rw [if_neg q0, if_pos q]
        have hc := ha.2.1
        have e1 : w (c + d) = c + d := wid (by omega) (by omega)
        have e2 : w (d + h) = d + h := wid (by omega) (by omega)
        rw [e1, e2, Int.add_assoc]
      · exact ih ha.2.2
theorem goP_C {a f g m n : T} {d h : Int} : ∀ {p : Option T}, falls p a → falls (some f) m → cmpT f g < 0 → goP (goP a f d m) g h n = goP a g h n := by
  induction a with
  | nil =>
    intro p _ hm hfg
    simp only [goP]
    rw [if_neg (by omega), if_neg (by omega), goP_low hm hfg]
  | cons e c l _ ih =>
    intro p ha hm hfg
    have ih := ih ha.2 hm hfg
    by_cases q : cmpT e f = 1
    · simp only [goP, if_pos q]
      rw [ih]
    · by_cases q0 : cmpT e f = 0
      · obtain rfl := cmpT_eq.1 q0
        simp only [goP, if_neg q, if_pos q0]
        rw [if_neg (by omega), if_neg (by omega), if_neg (by omega), if_neg (by omega), goP_low hm hfg, goP_low ha.2 hfg]
      · have lt := gt_of q q0
        have lt2 := cmpT_trans lt hfg
        simp only [goP, if_neg q, if_neg q0]
        rw [if_neg (by omega), if_neg (by omega)]
        exact ih
theorem plusT_assocX {a b c : T} (sa : sm 1000000000000000 a) (sb : sm 1000000000000000 b) (sc : sm 1000000000000000 c) (fa : falls none a) (fb : falls none b) : plusT a (plusT b c) = plusT (plusT a b) c := by
  cases c with
  | nil => rfl
  | cons g h n =>
    cases b with
    | nil => rfl
    | cons f d m =>
      show plusT a (goP (cons f d m) g h n) = goP (goP a f d m) g h n
      by_cases q : cmpT f g = 1
      · rw [goP_A q]; simp only [goP, if_pos q]; rfl
      · by_cases q0 : cmpT f g = 0
        · obtain rfl := cmpT_eq.1 q0
          rw [goP_BX sa sb.2.1 sc.2.1]
          simp only [goP, if_neg q, if_pos q0]; rfl
        · have lt := gt_of q q0
          rw [goP_C fa fb.2 lt]
          simp only [goP, if_neg q, if_neg q0]
          rw [goP_low fb.2 lt]
          rfl
theorem plusT_assocB {a b c : T} (sa : sm 1000000000 a) (sb : sm 1000000000 b) (sc : sm 1000000000 c) (fa : falls none a) (fb : falls none b) : plusT a (plusT b c) = plusT (plusT a b) c :=
  plusT_assocX (sm_mono sa (by omega)) (sm_mono sb (by omega)) (sm_mono sc (by omega)) fa fb
theorem cmpT_cons_eq {e : T} {c : Int} {x y : T} : cmpT (cons e c x) (cons e c y) = cmpT x y := by
  simp only [cmpT, cmpT_refl, cmpI_refl, if_true]
theorem lessT_self {a : T} : lessT a a = nil := by
  induction a with
  | nil => rfl
  | cons e c l _ ih => simp only [lessT, cmpT_refl, if_true, ih]
theorem sub_goPB {a f m : T} {d : Int} (hd : 1 ≤ d ∧ d ≤ 1000000000) : ∀ {p : Option T}, falls p a → sm 1000000000 a → lessT (goP a f d m) a = cons f d m ∧ 0 ≤ cmpT (goP a f d m) a := by
  induction a with
  | nil => intro p _ _; exact ⟨rfl, by simp [goP, cmpT]⟩
  | cons e c l _ ih =>
    intro p hf hs
    have ih := ih hf.2 hs.2.2
    have hc := hs.2.1
    by_cases q : cmpT e f = 1
    · simp only [goP, if_pos q, lessT, cmpT_refl, if_true, cmpT_cons_eq]
      exact ih
    · by_cases q0 : cmpT e f = 0
      · obtain rfl := cmpT_eq.1 q0
        have e1 : w (c + d) = c + d := wid (by omega) (by omega)
        have e2 : w (c + d - c) = d := by rw [show w (c + d - c) = c + d - c from wid (by omega) (by omega)]; omega
        simp only [goP, if_neg q, if_pos q0, e1]
        refine ⟨?_, ?_⟩
        · simp only [lessT, cmpT_refl, if_true]
          rw [if_neg (by omega), e2]
        · have e3 : cmpI (c + d) c = 1 := by unfold cmpI; rw [if_neg (by omega), if_pos (by omega)]
          simp only [cmpT, cmpT_refl, e3]
          simp
      · have lt := gt_of q q0
        have e1 : cmpT f e = 1 := by rw [cmpT_neg e f]; rcases cmpT_range e f with z | z | z <;> omega
        have e2 : goP (cons e c l) f d m = cons f d m := by
          simp only [goP, if_neg q, if_neg q0]; exact goP_low hf.2 lt
        rw [e2]
        refine ⟨?_, ?_⟩
        · simp only [lessT]; rw [if_neg (by omega)]
        · simp only [cmpT, e1]; simp
theorem sub_plusB {a b : T} (fa : falls none a) (sa : sm 1000000000 a) (sb : sm 1000000000 b) (pb : ∀ f d m, b = cons f d m → 1 ≤ d) : lessT (plusT a b) a = b ∧ 0 ≤ cmpT (plusT a b) a := by
  cases b with
  | nil => exact ⟨lessT_self, by show 0 ≤ cmpT a a; rw [cmpT_refl]; omega⟩
  | cons f d m => exact sub_goPB ⟨pb f d m rfl, sb.2.1.2⟩ fa sa
end Go.Proofs.Try

namespace Go.Proofs.Try
open Go Go.AX T
theorem falls_weak {q e l : T} {p : Option T} (h : falls (some e) l) (hp : ∀ q, p = some q → 0 < cmpT q e) : falls p l := by
  cases l with
  | nil => trivial
  | cons x c m =>
    refine ⟨fun r hr => ?_, h.2⟩
    have h1 := hp r hr
    have h2 := h.1 e rfl
    have := cmpT_range e x
    exact cmp_lt_of h1 (by omega)
theorem falls_goP {a f m : T} {d : Int} {p : Option T} (ha : falls p a) (hp : ∀ q, p = some q → 0 < cmpT q f) (hm : falls (some f) m) : falls p (goP a f d m) := by
  induction a generalizing p with
  | nil => exact ⟨hp, hm⟩
  | cons e c l _ ih =>
    simp only [goP]
    split
    · rename_i q
      exact ⟨ha.1, ih ha.2 fun r hr => by cases hr; omega⟩
    · split
      · rename_i q; obtain rfl := cmpT_eq.1 q; exact ⟨ha.1, hm⟩
      · exact ih (falls_weak (q := e) ha.2 ha.1) hp
theorem falls_plusT {a b : T} (ha : falls none a) (hb : falls none b) : falls none (plusT a b) := by
  cases b with
  | nil => exact ha
  | cons f d m => exact falls_goP ha (fun q hq => by cases hq) hb.2
/-- Coefficients above nothing. -/
def posT : T → Prop
  | .nil => True
  | .cons _ c l => 1 ≤ c ∧ posT l
/-- Terms as those of a right ordinal, but for its nodes. -/
def okT (B : Int) (Z : Nat) (n : T) : Prop := falls none n ∧ posT n ∧ sm B n ∧ n.size ≤ Z
theorem ordP_okT {t : T} (h : ordP t = true) : okT 1000000 30 t := by
  refine ⟨form_falls (ordP_form h), ?_, form_sm (ordP_form h), ordP_size h⟩
  have key : ∀ (p : Option T) (t : T), formA p t = true → posT t := by
    intro p t
    induction t generalizing p with
    | nil => intro _; trivial
    | cons e c l _ ih =>
      intro h
      simp only [formA, Bool.and_eq_true, decide_eq_true_eq] at h
      exact ⟨h.1.1.1.1, ih _ h.2⟩
  exact key _ _ (ordP_form h)
theorem okT_calm {B : Int} {Z : Nat} {n : T} (h : okT B Z n) (hB : B ≤ 1000000000000000) : calm n := sm_calm h.2.2.1 hB
theorem okT_mono {B C : Int} {Z Y : Nat} {n : T} (h : okT B Z n) (hB : B ≤ C) (hZ : Z ≤ Y) : okT C Y n := ⟨h.1, h.2.1, sm_mono h.2.2.1 hB, by have := h.2.2.2; omega⟩
theorem less_parts {B : Int} (hB : B ≤ 1000000000000000) {a : T} : ∀ {b : T} {p : Option T}, falls p a → posT a → posT b → sm B a → 0 ≤ cmpT a b → falls none (lessT a b) ∧ posT (lessT a b) ∧ sm B (lessT a b) := by
  induction a with
  | nil =>
    intro b p _ _ _ _ _
    have : lessT .nil b = .nil := by cases b <;> rfl
    rw [this]
    exact ⟨trivial, trivial, trivial⟩
  | cons e c l _ ih =>
    intro b p fa pa pb sa h
    have f0 : ∀ x, falls none (.cons e x l) := fun x => ⟨fun _ h => (by cases h), fa.2⟩
    cases b with
    | nil => exact ⟨f0 c, pa, sa⟩
    | cons f d m =>
      simp only [lessT]
      simp only [cmpT] at h
      split
      · rename_i q1
        rw [if_pos q1] at h
        split
        · rename_i q2
          rw [if_pos (cmpI_eq.2 q2)] at h
          exact ih (p := some e) fa.2 pa.2 pb.2 sa.2.2 h
        · rename_i q2
          rw [if_neg (fun q => q2 (cmpI_eq.1 q))] at h
          have hcd : d < c := by
            unfold cmpI at h
            split at h
            · omega
            · omega
          have b1 := sa.2.1
          have b2 := pb.1
          have e1 : w (c - d) = c - d := wid (by omega) (by omega)
          rw [e1]
          exact ⟨f0 _, ⟨by omega, pa.2⟩, sa.1, by omega, sa.2.2⟩
      · exact ⟨f0 c, pa, sa⟩
theorem less_ok {B C : Int} {Z Y : Nat} {a b : T} (hB : B ≤ 1000000000000000) (ha : okT B Z a) (hb : okT C Y b) (h : 0 ≤ cmpT a b) : okT B Z (lessT a b) := by
  obtain ⟨h1, h2, h3⟩ := less_parts hB ha.1 ha.2.1 hb.2.1 ha.2.2.1 h
  have := lessT_size a b
  exact ⟨h1, h2, h3, by have := ha.2.2.2; omega⟩
theorem lessT_same (a : T) : lessT a a = .nil := by
  induction a with
  | nil => rfl
  | cons e c l _ ih => simp [lessT, cmpT_refl, ih]
theorem plusT_nilL (x : T) : plusT .nil x = x := by cases x <;> rfl
theorem posT_goP {a f m : T} {d : Int} (sa : sm 1000000000 a) (pa : posT a) (hd : 1 ≤ d ∧ d ≤ 1000000000) (pm : posT m) : posT (goP a f d m) := by
  induction a with
  | nil => exact ⟨hd.1, pm⟩
  | cons e c l _ ih =>
    have := ih sa.2.2 pa.2
    simp only [goP]
    split
    · exact ⟨pa.1, this⟩
    · split
      · have b1 := sa.2.1
        have b2 := pa.1
        refine ⟨?_, pm⟩
        rw [show w (c + d) = c + d from wid (by omega) (by omega)]; omega
      · exact this
theorem posT_plus {a b : T} (sa : sm 1000000000 a) (sb : sm 1000000000 b) (pa : posT a) (pb : posT b) : posT (plusT a b) := by
  cases b with
  | nil => exact pa
  | cons f d m => exact posT_goP sa pa ⟨pb.1, sb.2.1.2⟩ pb.2
/-- Exponents that are so. -/
def exOk (B : Int) : T → Prop
  | .nil => True
  | .cons e _ l => (falls none e ∧ posT e ∧ sm B e) ∧ exOk B l
theorem form_posT {p : Option T} {t : T} (h : formA p t = true) : posT t := by
  induction t generalizing p with
  | nil => trivial
  | cons e c l _ ih =>
    simp only [formA, Bool.and_eq_true, decide_eq_true_eq] at h
    exact ⟨h.1.1.1.1, ih h.2⟩
theorem form_exOk {p : Option T} {t : T} (h : formA p t = true) : exOk 1000000 t := by
  induction t generalizing p with
  | nil => trivial
  | cons e c l _ ih =>
    simp only [formA, Bool.and_eq_true, decide_eq_true_eq] at h
    exact ⟨⟨form_falls h.1.1.2, form_posT h.1.1.2, form_sm h.1.1.2⟩, ih h.2⟩
theorem exOk_mono {B C : Int} {t : T} (h : exOk B t) (hB : B ≤ C) : exOk C t := by
  induction t with
  | nil => trivial
  | cons e c l _ ih => exact ⟨⟨h.1.1, h.1.2.1, sm_mono h.1.2.2 hB⟩, ih h.2⟩
theorem exOk_app {B : Int} {a b : T} : exOk B (app a b) ↔ exOk B a ∧ exOk B b := by
  induction a with
  | nil => simp [app, exOk]
  | cons e c l _ ih => simp only [app, exOk, ih, and_assoc]
theorem exOk_goP {B : Int} {a f m : T} {d : Int} (ha : exOk B a) (hf : falls none f ∧ posT f ∧ sm B f) (hm : exOk B m) : exOk B (goP a f d m) := by
  induction a with
  | nil => exact ⟨hf, hm⟩
  | cons e c l _ ih =>
    simp only [goP]
    split
    · exact ⟨ha.1, ih ha.2⟩
    · split
      · exact ⟨ha.1, hm⟩
      · exact ih ha.2
theorem exOk_plus {B : Int} {a b : T} (ha : exOk B a) (hb : exOk B b) : exOk B (plusT a b) := by
  cases b with
  | nil => exact ha
  | cons f d m => exact exOk_goP ha hb.1 hb.2
/-- What is added on the right decides. -/
theorem plus_lt {a g n : T} {h : Int} {p : Option T} (fa : falls p a) (sa : sm 1000000000 a) (hh : 1 ≤ h ∧ h ≤ 1000000000) : cmpT (goP a g h n) a = 1 := by
  obtain ⟨k1, k2⟩ := sub_goPB (f := g) (m := n) hh fa sa
  rcases cmpT_range (goP a g h n) a with q | q | q
  · omega
  · rw [cmpT_eq.1 q, lessT_same] at k1; cases k1
  · exact q
theorem plus_mono {a : T} : ∀ {p : Option T} {f g m n : T} {d h : Int}, falls p a → sm 1000000000 a → (1 ≤ d ∧ d ≤ 1000000000) → (1 ≤ h ∧ h ≤ 1000000000) → cmpT (goP a f d m) (goP a g h n) = cmpT (cons f d m) (cons g h n) := by
  induction a with
  | nil => intros; rfl
  | cons e c l _ ih =>
    intro p f g m n d h fa sa hd hh
    have b1 := sa.2.1
    have wd : w (c + d) = c + d := wid (by omega) (by omega)
    have wh : w (c + h) = c + h := wid (by omega) (by omega)
    have n1 := cmpT_neg e f
    have n2 := cmpT_neg e g
    have n3 := cmpT_neg f g
    have r3 := cmpT_range f g
    have same : ∀ x y : T, cmpT (cons e c x) (cons e c y) = cmpT x y := fun x y => by simp [cmpT, cmpT_refl, cmpI_refl]
    have cI1 : cmpI c (c + h) = -1 := by unfold cmpI; rw [if_pos (by omega)]
    have cI2 : cmpI (c + d) c = 1 := by unfold cmpI; rw [if_neg (by omega), if_pos (by omega)]
    have cI3 : cmpI (c + d) (c + h) = cmpI d h := by
      unfold cmpI
      by_cases q1 : d < h
      · rw [if_pos (by omega), if_pos q1]
      · by_cases q2 : h < d
        · rw [if_neg (by omega), if_pos (by omega), if_neg q1, if_pos q2]
        · rw [if_neg (by omega), if_neg (by omega), if_neg q1, if_neg q2]
    rcases cmpT_range e f with rf | rf | rf <;> rcases cmpT_range e g with rg | rg | rg
    · -- both are greater
      have z1 : goP (cons e c l) f d m = cons f d m := by simp only [goP]; rw [if_neg (by omega), if_neg (by omega)]; exact goP_low fa.2 (by omega)
      have z2 : goP (cons e c l) g h n = cons g h n := by simp only [goP]; rw [if_neg (by omega), if_neg (by omega)]; exact goP_low fa.2 (by omega)
      rw [z1, z2]
    · have z1 : goP (cons e c l) f d m = cons f d m := by simp only [goP]; rw [if_neg (by omega), if_neg (by omega)]; exact goP_low fa.2 (by omega)
      obtain rfl := cmpT_eq.1 rg
      have z2 : goP (cons e c l) e h n = cons e (c + h) n := by simp only [goP]; rw [if_neg (by omega), if_pos rg, wh]
      rw [z1, z2]
      simp only [cmpT]
      rw [if_neg (by omega), if_neg (by omega)]
    · have z1 : goP (cons e c l) f d m = cons f d m := by simp only [goP]; rw [if_neg (by omega), if_neg (by omega)]; exact goP_low fa.2 (by omega)
      have z2 : goP (cons e c l) g h n = cons e c (goP l g h n) := by simp only [goP]; rw [if_pos rg]
      have fg : cmpT f g = 1 := gt_trans (e := f) (f := e) (by omega) rg
      rw [z1, z2]
      simp only [cmpT]
      rw [if_neg (by omega), if_neg (by omega)]; omega
    · obtain rfl := cmpT_eq.1 rf
      have z1 : goP (cons e c l) e d m = cons e (c + d) m := by simp only [goP]; rw [if_neg (by omega), if_pos rf, wd]
      have z2 : goP (cons e c l) g h n = cons g h n := by simp only [goP]; rw [if_neg (by omega), if_neg (by omega)]; exact goP_low fa.2 (by omega)
      rw [z1, z2]
      simp only [cmpT]
      rw [if_neg (by omega), if_neg (by omega)]
    · obtain rfl := cmpT_eq.1 rf
      obtain rfl := cmpT_eq.1 rg
      have z1 : ∀ (x : Int) (y : T), w (c + x) = c + x → goP (cons e c l) e x y = cons e (c + x) y := fun x y hx => by simp only [goP]; rw [if_neg (by omega), if_pos rf, hx]
      rw [z1 d m wd, z1 h n wh]
      simp only [cmpT, cI3]
    · obtain rfl := cmpT_eq.1 rf
      have z1 : goP (cons e c l) e d m = cons e (c + d) m := by simp only [goP]; rw [if_neg (by omega), if_pos rf, wd]
      have z2 : goP (cons e c l) g h n = cons e c (goP l g h n) := by simp only [goP]; rw [if_pos rg]
      rw [z1, z2]
      simp only [cmpT, cI2, cmpT_refl]
      rw [if_neg (show ¬ cmpT e g = 0 by omega)]
      simp; omega
    · have z1 : goP (cons e c l) f d m = cons e c (goP l f d m) := by simp only [goP]; rw [if_pos rf]
      have z2 : goP (cons e c l) g h n = cons g h n := by simp only [goP]; rw [if_neg (by omega), if_neg (by omega)]; exact goP_low fa.2 (by omega)
      have fg : cmpT g f = 1 := gt_trans (e := g) (f := e) (by omega) rf
      rw [z1, z2]
      simp only [cmpT]
      rw [if_neg (by omega), if_neg (by omega)]; omega
    · obtain rfl := cmpT_eq.1 rg
      have z1 : goP (cons e c l) f d m = cons e c (goP l f d m) := by simp only [goP]; rw [if_pos rf]
      have z2 : goP (cons e c l) e h n = cons e (c + h) n := by simp only [goP]; rw [if_neg (by omega), if_pos rg, wh]
      rw [z1, z2]
      simp only [cmpT, cI1, cmpT_refl]
      rw [if_neg (show ¬ cmpT f e = 0 by omega)]
      simp; omega
    · have z1 : goP (cons e c l) f d m = cons e c (goP l f d m) := by simp only [goP]; rw [if_pos rf]
      have z2 : goP (cons e c l) g h n = cons e c (goP l g h n) := by simp only [goP]; rw [if_pos rg]
      rw [z1, z2, same]
      exact ih fa.2 sa.2.2 hd hh
/-- A sum is monotone in what is added on the right. -/
theorem plusT_cmp {a x y : T} (fa : falls none a) (sa : sm 1000000000 a) (px : posT x) (py : posT y) (sx : sm 1000000000 x) (sy : sm 1000000000 y) : cmpT (plusT a x) (plusT a y) = cmpT x y := by
  cases x with
  | nil =>
    cases y with
    | nil => exact cmpT_refl _
    | cons g h n =>
      have := plus_lt (g := g) (n := n) fa sa ⟨py.1, sy.2.1.2⟩
      show cmpT a (goP a g h n) = _
      rw [cmpT_neg (goP a g h n) a, this]; rfl
  | cons f d m =>
    cases y with
    | nil =>
      have := plus_lt (g := f) (n := m) fa sa ⟨px.1, sx.2.1.2⟩
      show cmpT (goP a f d m) a = _
      rw [this]; rfl
    | cons g h n => exact plus_mono fa sa ⟨px.1, sx.2.1.2⟩ ⟨py.1, sy.2.1.2⟩
end Go.Proofs.Try

namespace Go.Proofs.Try
open Go Go.AX T
/-- A product with a right ordinal w^a1 c1 + a', term by term. -/
def tmG (a1 : T) (c1 : Int) (a' : T) : T → T
  | nil => nil
  | cons nil d m => app (cons a1 (w (c1 * d)) a') (tmG a1 c1 a' m)
  | cons (cons x y z) d m => cons (plusT a1 (cons x y z)) d (tmG a1 c1 a' m)
def timesT : T → T → T
  | nil, _ => nil
  | cons a1 c1 a', b => tmG a1 c1 a' b
theorem tmG_size (a1 : T) (c1 : Int) (a' : T) : ∀ b : T, (tmG a1 c1 a' b).size ≤ b.size * (a1.size + a'.size + 2)
  | nil => by simp [tmG, size]
  | cons nil d m => by
    have ih := tmG_size a1 c1 a' m
    simp only [tmG, size_app, size]
    rw [show 0 + m.size + 1 = m.size + 1 by omega, Nat.add_mul, Nat.one_mul]
    omega
  | cons (cons x y z) d m => by
    have ih := tmG_size a1 c1 a' m
    have h1 := plusT_size a1 (cons x y z)
    simp only [tmG]
    rw [show (cons (plusT a1 (cons x y z)) d (tmG a1 c1 a' m)).size = (plusT a1 (cons x y z)).size + (tmG a1 c1 a' m).size + 1 from rfl, show (cons (cons x y z) d m).size = (cons x y z).size + m.size + 1 from rfl, Nat.add_mul, Nat.add_mul, Nat.one_mul]
    have : (cons x y z).size ≤ (cons x y z).size * (a1.size + a'.size + 2) := Nat.le_mul_of_pos_right _ (by omega)
    omega
theorem posT_app {a b : T} : posT (app a b) ↔ posT a ∧ posT b := by
  induction a with
  | nil => simp [app, posT]
  | cons e c l _ ih => simp only [app, posT, ih, and_assoc]
theorem mul_in {a b B C : Int} (ha : 0 ≤ a ∧ a ≤ B) (hb : 0 ≤ b ∧ b ≤ C) : 0 ≤ a * b ∧ a * b ≤ B * C :=
  ⟨Int.mul_nonneg ha.1 hb.1, Int.mul_le_mul ha.2 hb.2 hb.1 (by omega)⟩
theorem tmG_sm {B C D : Int} {a1 a' : T} {c1 : Int} (s1 : sm B a1) (hc : 0 ≤ c1 ∧ c1 ≤ B) (s' : sm B a') (hB : 0 ≤ B ∧ 0 ≤ C ∧ B + C ≤ D ∧ B * C ≤ D ∧ D ≤ 1000000000000000) : ∀ b : T, sm C b → posT b → sm D (tmG a1 c1 a' b)
  | nil, _, _ => trivial
  | cons nil d m, hs, hp => by
    have ih := tmG_sm s1 hc s' hB m hs.2.2 hp.2
    have hm := mul_in hc ⟨by have := hp.1; omega, hs.2.1.2⟩
    simp only [tmG, sm_app]
    refine ⟨⟨sm_mono s1 (by omega), ?_, sm_mono s' (by omega)⟩, ih⟩
    rw [show w (c1 * d) = c1 * d from wid (by omega) (by omega)]; omega
  | cons (cons x y z) d m, hs, hp => by
    have ih := tmG_sm s1 hc s' hB m hs.2.2 hp.2
    have h1 := hs.2.1
    exact ⟨sm_mono (plusT_sm s1 hs.1 ⟨by omega, by omega, by omega⟩) (by omega), ⟨by omega, by omega⟩, ih⟩
theorem tmG_pos {B C : Int} {a1 a' : T} {c1 : Int} (hc : 1 ≤ c1 ∧ c1 ≤ B) (p' : posT a') (hB : B * C ≤ 1000000000000000) : ∀ b : T, sm C b → posT b → posT (tmG a1 c1 a' b)
  | nil, _, _ => trivial
  | cons nil d m, hs, hp => by
    have ih := tmG_pos (a1 := a1) hc p' hB m hs.2.2 hp.2
    have hm := mul_in (B := B) ⟨by omega, hc.2⟩ ⟨by have := hp.1; omega, hs.2.1.2⟩
    have h1 : 1 * 1 ≤ c1 * d := Int.mul_le_mul hc.1 hp.1 (by omega) (by omega)
    have e1 : w (c1 * d) = c1 * d := wid (by omega) (by omega)
    simp only [tmG, posT_app]
    exact ⟨⟨by omega, p'⟩, ih⟩
  | cons (cons x y z) d m, hs, hp => ⟨hp.1, tmG_pos hc p' hB m hs.2.2 hp.2⟩
theorem tmG_exOk {B C D : Int} {a1 a' : T} {c1 : Int} (f1 : falls none a1 ∧ posT a1 ∧ sm B a1) (e' : exOk D a') (hB : 0 ≤ B ∧ 0 ≤ C ∧ B ≤ 1000000000 ∧ C ≤ 1000000000 ∧ B + C ≤ D) : ∀ b : T, exOk C b → exOk D (tmG a1 c1 a' b)
  | nil, _ => trivial
  | cons nil d m, hb => by
    have ih := tmG_exOk (c1 := c1) f1 e' hB m hb.2
    simp only [tmG, exOk_app]
    exact ⟨⟨⟨f1.1, f1.2.1, sm_mono f1.2.2 (by omega)⟩, e'⟩, ih⟩
  | cons (cons x y z) d m, hb => by
    have ih := tmG_exOk (c1 := c1) f1 e' hB m hb.2
    have h1 := hb.1
    refine ⟨⟨falls_plusT f1.1 h1.1, posT_plus (sm_mono f1.2.2 (by omega)) (sm_mono h1.2.2 (by omega)) f1.2.1 h1.2.1, ?_⟩, ih⟩
    exact sm_mono (plusT_sm f1.2.2 h1.2.2 ⟨by omega, by omega, by omega⟩) (by omega)
theorem falls_low {m : T} (h : falls (some nil) m) : m = nil := by
  cases m with
  | nil => rfl
  | cons e c l => exfalso; have := h.1 nil rfl; cases e <;> simp [cmpT] at this
theorem tmG_falls {a1 a' : T} {c1 : Int} (f1 : falls none a1) (s1 : sm 1000000000 a1) (fa : falls (some a1) a') : ∀ (b : T) (q : Option T), (∀ r, q = some r → posT r ∧ sm 1000000000 r) → falls q b → exOk 1000000000 b → falls (q.map (plusT a1)) (tmG a1 c1 a' b)
  | nil, _, _, _, _ => trivial
  | cons nil d m, q, hq, hf, he => by
    have hm := falls_low hf.2
    subst hm
    simp only [tmG, T.app_nil]
    refine ⟨fun r hr => ?_, fa⟩
    cases q with
    | none => cases hr
    | some q =>
      have := plusT_cmp (y := nil) f1 s1 (hq q rfl).1 trivial (hq q rfl).2 trivial
      have h0 := hf.1 q rfl
      obtain rfl : plusT a1 q = r := Option.some.inj hr
      rw [show plusT a1 nil = a1 from rfl] at this
      omega
  | cons (cons x y z) d m, q, hq, hf, he => by
    have ih := tmG_falls (c1 := c1) f1 s1 fa m (some (cons x y z)) (fun r hr => by cases hr; exact ⟨he.1.2.1, he.1.2.2⟩) hf.2 he.2
    refine ⟨fun r hr => ?_, ih⟩
    cases q with
    | none => cases hr
    | some q =>
      have := plusT_cmp (y := cons x y z) f1 s1 (hq q rfl).1 he.1.2.1 (hq q rfl).2 he.1.2.2
      have h0 := hf.1 q rfl
      obtain rfl : plusT a1 q = r := Option.some.inj hr
      omega
/-! ### impl's product -/
theorem product_loop {k : Nat} {b : Rw} {a1 a' : T} {c1 : Int} {K : Rw → Option Rw} (hk : a1.size < k) (hw : a1.size + 1 ≤ cap) : ∀ (t acc : T), a1.size + t.size + 1 ≤ cap → acc.len + (tmG a1 c1 a' t).len ≤ cap →
    impl_product_l0 k (cons a1 c1 a').rows b K t.rows acc.rows = K (app acc (tmG a1 c1 a' t)).rows
  | nil, acc, _, _ => by simp only [tmG, T.app_nil]; rfl
  | cons nil d m, acc, hc, hl => by
    simp only [size] at hc
    simp only [tmG, len_app, len] at hl
    simp only [rows, impl_product_l0, cell_T]
    rw [show impl_isZero ([] : Rw) = some true from rfl, Option.bind_some, if_pos rfl, show impl_degree ([D.sl a1.rows, D.int .i64 c1] :: a'.rows) = some a1.rows from rfl, Option.bind_some]
    have hr := row_T (α := Rw) (t := cons a1 c1 a') (i := 0) (n := 0) rfl rfl
    simp only [rows] at hr
    rw [hr, if_pos (by rw [rows_len]; omega), if_pos ⟨by omega, by simp only [List.length_cons]; omega, rowsWide (cons a1 c1 a')⟩]
    rw [show ([D.sl a1.rows, D.int .i64 c1] :: a'.rows).drop (1 : Int).toNat = a'.rows from rfl]
    rw [if_pos ⟨by simp only [List.length_append, List.length_cons, List.length_nil, rows_len]; omega, rowsWide a'⟩]
    have e1 : (acc.rows ++ [[D.sl a1.rows, D.int .i64 (IntKind.i64.wrap (c1 * d))]]) ++ a'.rows = (app acc (cons a1 (w (c1 * d)) a')).rows := by rw [rows_app, List.append_assoc]; rfl
    rw [e1]
    have := product_loop (b := b) (c1 := c1) (a' := a') (K := K) hk hw m (app acc (cons a1 (w (c1 * d)) a')) (by omega) (by rw [len_app]; simp only [len]; omega)
    simp only [rows] at this
    rw [this, app_assoc]
    simp only [tmG]
  | cons (cons x y z) d m, acc, hc, hl => by
    simp only [size] at hc
    simp only [tmG, len] at hl
    have e0 : (cons (cons x y z) d m).rows = [D.sl (cons x y z).rows, D.int .i64 d] :: m.rows := rfl
    rw [e0]
    have h0 : impl_isZero (cons x y z).rows = some false := by rw [impl_isZero_eq]
    have hd : impl_degree (cons a1 c1 a').rows = some a1.rows := rfl
    simp only [impl_product_l0, cell_T]
    rw [h0, Option.bind_some, if_neg (by simp), hd, Option.bind_some, plus_eq k a1 (cons x y z) hk (by simp only [size]; omega), Option.bind_some, if_pos (by rw [rows_len]; omega), snocRows]
    have := product_loop (b := b) (c1 := c1) (a' := a') (K := K) hk hw m (app acc (cons (plusT a1 (cons x y z)) d nil)) (by omega) (by rw [len_app]; simp only [len]; omega)
    rw [this, app_assoc]
    rfl
theorem product_eq (k : Nat) (a b : T) (hk : a.size < k) (hc : a.size + b.size + 1 ≤ cap) (ht : (timesT a b).len ≤ cap) : impl_product k a.rows b.rows = some (timesT a b).rows := by
  have h1 := b.len_size
  unfold impl_product
  rw [impl_isZero_eq, Option.bind_some]
  cases a with
  | nil => rfl
  | cons a1 c1 a' =>
    simp only [size] at hk hc
    simp only
    rw [if_neg (by simp)]
    unfold impl_product_p3
    rw [if_pos (by rw [rows_len]; omega)]
    have := product_loop (k := k) (b := b.rows) (a1 := a1) (c1 := c1) (a' := a') (K := fun v => impl_product_p4 v) (by omega) (by omega) b nil (by omega) (by simp only [len]; simp only [timesT] at ht; omega)
    exact this
/-! ### the reference's product -/
/-- What is less than all ahead of it is only added at the end. -/
theorem splus_at {acc p : T} (h : acc = nil ∨ ∃ l y c, acc = app l (cons y c nil) ∧ falls (some y) p) (hp : falls none p) : splus acc p = app acc p := by
  rcases h with rfl | ⟨l, y, c, rfl, h⟩
  · rw [splus_plus (a := nil) trivial hp, plusT_nilL]; rfl
  · exact splus_end h
theorem falls_app1 {p : Option T} {l x : T} (h : falls p (app l x)) : falls p l := by
  induction l generalizing p with
  | nil => trivial
  | cons e c l _ ih => exact ⟨h.1, ih h.2⟩
theorem falls_none {p : Option T} {l : T} (h : falls p l) : falls none l := by
  cases l with
  | nil => trivial
  | cons e c l => exact ⟨fun _ h => (by cases h), h.2⟩
theorem odTimes_loop {k : Nat} {b : Rw} {a1 a' : T} {c1 : Int} {C E : Int} {Z : Nat} {K : Rw → Option Rw} (s1 : sm 1000000000 a1) (fa : falls none a1) (f' : falls (some a1) a') (sa' : sm 1000000000 a') (hc1 : 0 ≤ c1 ∧ c1 * C ≤ E) (hC : 0 ≤ C ∧ C ≤ 1000000000) (hD : 2000000000 ≤ E ∧ E * 100 ≤ 1000000000000000) (hk : Z + a1.size + a'.size + 1 < k) (hw : Z + a1.size + a'.size + 1 ≤ cap) (hz' : a'.size ≤ 90) (hZ1 : a1.size + a'.size + 1 ≤ Z) : ∀ (t acc : T), acc.size + t.size * (a1.size + a'.size + 2) ≤ Z → sm E acc → exOk 1000000000 t → sm C t → posT t → falls none t → t.size ≤ 9000 →
    (acc = nil ∨ ∃ l y c, acc = app l (cons y c nil) ∧ falls (some y) (tmG a1 c1 a' t)) →
    spec_odTimes_l0 k (cons a1 c1 a').rows b K t.rows acc.rows = K (app acc (tmG a1 c1 a' t)).rows
  | nil, acc, _, _, _, _, _, _, _, _ => by simp only [tmG, T.app_nil]; rfl
  | cons nil d m, acc, hl, hs, he, st, pt, ft, h9, hq => by
    have hm := falls_low ft.2
    subst hm
    have h3 : cap = 1099511627776 := rfl
    have hmul := mul_in (B := c1) (C := C) ⟨hc1.1, Int.le_refl _⟩ ⟨by have := pt.1; omega, st.2.1.2⟩
    have e1 : w (c1 * d) = c1 * d := wid (by omega) (by omega)
    have hb : nil.rows = ([] : Rw) := rfl
    have hs1 : spec_odPlus k a1.rows nil.rows = some a1.rows := odPlus_eq (B := 0) (C := 1000000000) k a1 nil (by simp only [size]; omega) (by simp only [size]; omega) s1 trivial (by omega) (by omega) (by omega)
    have hz : spec_odZero nil.rows = some true := rfl
    have hr := row_T (α := Rw) (t := cons a1 c1 a') (i := 0) (n := 0) rfl rfl
    have hpl := odPlus_eq (B := E) (C := E) k acc (cons a1 (w (c1 * d)) a') (by simp only [size] at hl ⊢; omega) (by simp only [size] at hl ⊢; omega) hs ⟨sm_mono s1 (by omega), by omega, sm_mono sa' (by omega)⟩ (by omega) (by omega) (by have := a'.len_size; simp only [len]; have : E * ((a'.len + 1 : Nat) : Int) ≤ E * 91 := Int.mul_le_mul_of_nonneg_left (by omega) (by omega); omega)
    have hq2 : acc = nil ∨ ∃ l y' c, acc = app l (cons y' c nil) ∧ falls (some y') (cons a1 (w (c1 * d)) a') := by
      rcases hq with hq | ⟨l, y, c, e, hq⟩
      · exact .inl hq
      · refine .inr ⟨l, y, c, e, ?_⟩; simpa only [tmG, T.app_nil] using hq
    rw [splus_at hq2 (show falls none (cons a1 (w (c1 * d)) a') from ⟨fun _ h => (by cases h), f'⟩)] at hpl
    rw [show (cons nil d nil).rows = [D.sl nil.rows, D.int .i64 d] :: nil.rows from rfl]
    simp only [spec_odTimes_l0, cell_T]
    rw [hr, hs1, Option.bind_some, hz, Option.bind_some, if_pos rfl, if_pos ⟨by omega, by simp only [rows, List.length_cons]; omega, rowsWide (cons a1 c1 a')⟩]
    rw [show ((cons a1 c1 a').rows).drop (1 : Int).toNat = a'.rows from rfl]
    rw [if_pos ⟨by simp only [List.length_cons, List.length_nil, rows_len]; have := a'.len_size; omega, rowsWide a'⟩]
    rw [show [[D.sl a1.rows, D.int .i64 (IntKind.i64.wrap (c1 * d))]] ++ a'.rows = (cons a1 (w (c1 * d)) a').rows from rfl, hpl, Option.bind_some]
    simp only [tmG, T.app_nil, rows, spec_odTimes_l0]
  | cons (cons x y z) d m, acc, hl, hs, he, st, pt, ft, h9, hq => by
    have h3 : cap = 1099511627776 := rfl
    have hp1 := pt.1
    have hst := st.2.1
    have hfs := (cons x y z).len_size
    have hps := plusT_size a1 (cons x y z)
    rw [show (cons (cons x y z) d m).size = (cons x y z).size + m.size + 1 from rfl] at hl h9
    rw [Nat.add_mul, Nat.add_mul, Nat.one_mul] at hl
    have hx1 : (cons x y z).size ≤ (cons x y z).size * (a1.size + a'.size + 2) := Nat.le_mul_of_pos_right _ (by omega)
    have hs1 : spec_odPlus k a1.rows (cons x y z).rows = some (plusT a1 (cons x y z)).rows := by
      rw [odPlus_eq (B := 1000000000) (C := 1000000000) k a1 (cons x y z) (by omega) (by omega) s1 he.1.2.2 (by omega) (by omega) (by omega), splus_plus fa he.1.1]
    have hz : spec_odZero (cons x y z).rows = some false := by unfold spec_odZero; rw [if_neg (by rw [lenI]; simp only [len]; omega)]
    have hr := row_T (α := Rw) (t := cons a1 c1 a') (i := 0) (n := 0) rfl rfl
    have hsp : sm E (plusT a1 (cons x y z)) := sm_mono (plusT_sm s1 he.1.2.2 ⟨by omega, by omega, by omega⟩) (by omega)
    have hpl := odPlus_eq (B := E) (C := E) k acc (cons (plusT a1 (cons x y z)) d nil) (by rw [show (cons (plusT a1 (cons x y z)) d nil).size = (plusT a1 (cons x y z)).size + 0 + 1 from rfl]; omega) (by rw [show (cons (plusT a1 (cons x y z)) d nil).size = (plusT a1 (cons x y z)).size + 0 + 1 from rfl]; omega) hs ⟨hsp, by omega, trivial⟩ (by omega) (by omega) (by simp only [len]; omega)
    have hq2 : acc = nil ∨ ∃ l y' c, acc = app l (cons y' c nil) ∧ falls (some y') (cons (plusT a1 (cons x y z)) d nil) := by
      rcases hq with hq | ⟨l, y', c, e, hq⟩
      · exact .inl hq
      · exact .inr ⟨l, y', c, e, hq.1, trivial⟩
    rw [splus_at hq2 (show falls none (cons (plusT a1 (cons x y z)) d nil) from ⟨fun _ h => (by cases h), trivial⟩)] at hpl
    rw [show (cons (cons x y z) d m).rows = [D.sl (cons x y z).rows, D.int .i64 d] :: m.rows from rfl]
    simp only [spec_odTimes_l0, cell_T]
    rw [hr, hs1, Option.bind_some, hz, Option.bind_some, if_neg (by simp)]
    rw [show [[D.sl (plusT a1 (cons x y z)).rows, D.int .i64 d]] = (cons (plusT a1 (cons x y z)) d nil).rows from rfl, hpl, Option.bind_some]
    have hfm := tmG_falls (c1 := c1) fa s1 f' m (some (cons x y z)) (fun r hr => by cases hr; exact ⟨he.1.2.1, he.1.2.2⟩) ft.2 he.2
    rw [odTimes_loop s1 fa f' sa' hc1 hC hD hk hw hz' hZ1 m (app acc (cons (plusT a1 (cons x y z)) d nil)) (by rw [size_app, show (cons (plusT a1 (cons x y z)) d nil).size = (plusT a1 (cons x y z)).size + 0 + 1 from rfl]; omega) (sm_app.2 ⟨hs, hsp, by omega, trivial⟩) he.2 st.2.2 pt.2 (falls_none ft.2) (by omega) (.inr ⟨acc, _, d, rfl, hfm⟩), app_assoc]
    rfl
/-- The product of right ones: impl and the reference. -/
theorem odTimes_eq {k : Nat} {a b : T} {B C : Int} {Y Z : Nat} (ha : falls none a ∧ posT a ∧ sm B a) (fx : exOk 1000000000 a) (hb : falls none b ∧ posT b ∧ sm C b) (eb : exOk 1000000000 b) (hB : 0 ≤ B ∧ B ≤ 1000000000 ∧ 0 ≤ C ∧ C ≤ 1000000000 ∧ B * C ≤ 1000000000000) (za : a.size ≤ Y) (hY : Y ≤ 90) (zb : b.size ≤ Z) (hZ : Z ≤ 9000) (hk : Z * (Y + 2) + 2 * Y + 200 < k) (hc : k ≤ cap) : spec_odTimes k a.rows b.rows = some (timesT a b).rows := by
  have h1 := b.len_size
  unfold spec_odTimes
  have hZY : b.size * (Y + 2) ≤ Z * (Y + 2) := Nat.mul_le_mul_right _ zb
  cases a with
  | nil => rfl
  | cons a1 c1 a' =>
    have hz : spec_odZero (cons a1 c1 a').rows = some false := by unfold spec_odZero; rw [if_neg (by rw [lenI]; simp only [len]; omega)]
    rw [hz, Option.bind_some, if_neg (by simp)]
    unfold spec_odTimes_p3
    simp only [size] at za
    have h2 : b.size * (a1.size + a'.size + 2) ≤ b.size * (Y + 2) := Nat.mul_le_mul_left _ (by omega)
    have hcc := ha.2.2.2.1
    have hp1 := ha.2.1.1
    have hbz : b.size ≤ b.size * (Y + 2) := Nat.le_mul_of_pos_right _ (by omega)
    rw [if_pos (by rw [rows_len]; omega)]
    have hmul : c1 * C ≤ B * C := Int.mul_le_mul_of_nonneg_right hcc.2 (by omega)
    have := odTimes_loop (k := k) (b := b.rows) (a1 := a1) (a' := a') (c1 := c1) (C := C) (E := 1000000000000) (Z := b.size * (Y + 2) + Y + 100) (K := fun v => spec_odTimes_p4 v) fx.1.2.2 fx.1.1 ha.1.2 (sm_mono ha.2.2.2.2 (by omega)) ⟨by omega, by omega⟩ ⟨by omega, by omega⟩ (by omega) (by omega) (by omega) (by omega) (by omega) b nil (by simp only [size]; omega) trivial eb hb.2.2 hb.2.1 hb.1 (by omega) (.inl rfl)
    exact this
end Go.Proofs.Try

namespace Go.Proofs.Try
open Go Go.AX T
theorem tm_head {a1 a' : T} {c1 : Int} (f : T) (d : Int) (m : T) : ∃ d' m', tmG a1 c1 a' (cons f d m) = cons (plusT a1 f) d' m' := by
  cases f with
  | nil => exact ⟨w (c1 * d), app a' (tmG a1 c1 a' m), rfl⟩
  | cons x y z => exact ⟨d, tmG a1 c1 a' m, rfl⟩
theorem plusT_c (a f : T) (d : Int) (m : T) : plusT a (cons f d m) = goP a f d m := rfl
theorem tm_dist {a1 a' : T} {c1 : Int} (f1 : falls none a1) (s1 : sm 1000000000 a1) (fa : falls (some a1) a') (hc1 : 0 ≤ c1 ∧ c1 ≤ 1000000000) {f : T} {d : Int} {m : T} (fc : falls none (cons f d m)) (sc : sm 1000000000 (cons f d m)) (ec : exOk 1000000000 (cons f d m)) (pc : posT (cons f d m)) :
    ∀ (b : T) (p : Option T), falls p b → sm 1000000000 b → exOk 1000000000 b → posT b → tmG a1 c1 a' (goP b f d m) = plusT (tmG a1 c1 a' b) (tmG a1 c1 a' (cons f d m))
  | nil, _, _, _, _, _ => by simp only [goP]; rw [show tmG a1 c1 a' nil = nil from rfl, plusT_nilL]
  | cons e c l, p, fb, sb, eb, pb => by
    obtain ⟨d', m', hX⟩ := tm_head (a1 := a1) (a' := a') (c1 := c1) f d m
    have hcmp := plusT_cmp (y := f) f1 s1 eb.1.2.1 ec.1.2.1 eb.1.2.2 ec.1.2.2
    by_cases q : cmpT e f = 1
    · have ih := tm_dist f1 s1 fa hc1 fc sc ec pc l (some e) fb.2 sb.2.2 eb.2 pb.2
      have hne : ∃ x y z, e = cons x y z := by
        cases e with
        | nil => cases f <;> simp [cmpT] at q
        | cons x y z => exact ⟨x, y, z, rfl⟩
      obtain ⟨x, y, z, rfl⟩ := hne
      simp only [goP, if_pos q, tmG]
      rw [ih, hX, plusT_c _ (plusT a1 f) d' m', plusT_c _ (plusT a1 f) d' m']
      have hg : cmpT (plusT a1 (cons x y z)) (plusT a1 f) = 1 := by omega
      simp only [goP, if_pos hg]
    · by_cases q0 : cmpT e f = 0
      · obtain rfl := cmpT_eq.1 q0
        have hb := sb.2.1
        have hd := sc.2.1
        have p1 := pb.1
        have p2 := pc.1
        simp only [goP, if_neg q, if_pos q0]
        cases e with
        | nil =>
          obtain rfl := falls_low fb.2
          obtain rfl := falls_low fc.2
          have e1 : w (c + d) = c + d := wid (by omega) (by omega)
          have m1 := mul_in hc1 (show 0 ≤ c ∧ c ≤ 1000000000 by omega)
          have m2 := mul_in hc1 (show 0 ≤ d ∧ d ≤ 1000000000 by omega)
          simp only [tmG, T.app_nil, plusT, goP, cmpT_refl]
          rw [if_neg (by omega), if_pos trivial, e1, show w (c1 * c) = c1 * c from wid (by omega) (by omega), show w (c1 * d) = c1 * d from wid (by omega) (by omega), Int.mul_add]
        | cons x y z =>
          simp only [tmG]
          rw [show ∀ t u v s, plusT (cons (plusT a1 (cons x y z)) t u) (cons (plusT a1 (cons x y z)) v s) = goP (cons (plusT a1 (cons x y z)) t u) (plusT a1 (cons x y z)) v s from fun _ _ _ _ => rfl]
          simp only [goP, cmpT_refl]
          rw [if_neg (by omega), if_pos trivial]
      · have lt := gt_of q q0
        have e1 : goP (cons e c l) f d m = cons f d m := by simp only [goP, if_neg q, if_neg q0]; exact goP_low fb.2 lt
        rw [e1, hX]
        obtain ⟨c', l', hY⟩ := tm_head (a1 := a1) (a' := a') (c1 := c1) e c l
        have hfy := tmG_falls (c1 := c1) f1 s1 fa (cons e c l) none (fun r h => (by cases h)) ⟨fun r h => (by cases h), fb.2⟩ eb
        rw [hY] at hfy ⊢
        rw [plusT_c _ (plusT a1 f) d' m']
        have hg : cmpT (plusT a1 e) (plusT a1 f) < 0 := by omega
        simp only [goP]
        rw [if_neg (by omega), if_neg (by omega), goP_low hfy.2 hg]
theorem times_dist {a b c : T} (fa : falls none a) (pa : posT a) (sa : sm 1000000000 a) (ea : exOk 1000000000 a) (fb : falls none b) (sb : sm 1000000000 b) (eb : exOk 1000000000 b) (pb : posT b) (fc : falls none c) (sc : sm 1000000000 c) (ec : exOk 1000000000 c) (pc : posT c) : timesT a (plusT b c) = plusT (timesT a b) (timesT a c) := by
  cases a with
  | nil => rfl
  | cons a1 c1 a' =>
    cases c with
    | nil => rfl
    | cons f d m => exact tm_dist ea.1.1 ea.1.2.2 fa.2 ⟨by have := pa.1; omega, sa.2.1.2⟩ fc sc ec pc b none fb sb eb pb
theorem falls_less {l : T} : ∀ {e m x : T} {y : Int} {z : T}, falls (some e) l → lessT l m = cons x y z → 0 < cmpT e x := by
  induction l with
  | nil => intro e m x y z _ h; cases m <;> simp [lessT] at h
  | cons a c l _ ih =>
    intro e m x y z hf h
    have h1 := hf.1 e rfl
    cases m with
    | nil => rw [lessT_nil] at h; injection h with h2; rw [← h2]; exact h1
    | cons f d m =>
      simp only [lessT] at h
      split at h
      · split at h
        · have := ih hf.2 h
          have q1 : cmpT x a < 0 := by rw [cmpT_neg a x]; omega
          have q2 : cmpT a e < 0 := by rw [cmpT_neg e a]; omega
          have := cmpT_trans q1 q2
          rw [cmpT_neg x e]; omega
        · injection h with h2; rw [← h2]; exact h1
      · injection h with h2; rw [← h2]; exact h1
/-- What is left, added again. -/
theorem plus_lessX {a : T} : ∀ {b : T} {p q : Option T}, falls p a → falls q b → posT a → posT b → sm 1000000000000000 a → sm 1000000000000000 b → 0 ≤ cmpT a b → plusT b (lessT a b) = a := by
  induction a with
  | nil =>
    intro b p q _ _ _ _ _ _ h
    cases b with
    | nil => rfl
    | cons f d m => simp [cmpT] at h
  | cons e c l _ ih =>
    intro b p q fa fb pa pb sa sb h
    cases b with
    | nil => rw [lessT_nil, plusT_nilL]
    | cons f d m =>
      simp only [cmpT] at h
      simp only [lessT]
      by_cases q1 : cmpT e f = 0
      · obtain rfl := cmpT_eq.1 q1
        rw [if_pos q1] at h ⊢
        by_cases q2 : c = d
        · subst q2
          rw [cmpI_refl, if_pos rfl] at h
          rw [if_pos rfl]
          have ih := ih fa.2 fb.2 pa.2 pb.2 sa.2.2 sb.2.2 h
          obtain ⟨h1, h2, h3⟩ := less_parts (B := 1000000000000000) (by omega) fa.2 pa.2 pb.2 sa.2.2 h
          cases hx : lessT l m with
          | nil =>
            rw [hx] at ih
            show cons e c m = cons e c l
            rw [show plusT m nil = m from rfl] at ih
            rw [ih]
          | cons x y z =>
            rw [hx] at ih
            have hxe : cmpT e x = 1 := by
              have := (falls_less fa.2 hx)
              have := cmpT_range e x
              omega
            simp only [plusT] at ih ⊢
            simp only [goP, if_pos hxe]
            rw [ih]
        · rw [if_neg (fun z => q2 (cmpI_eq.1 z))] at h
          have hcd : d < c := by
            unfold cmpI at h
            split at h
            · omega
            · omega
          rw [if_neg q2]
          have b1 := sa.2.1
          have b2 := sb.2.1
          have p2 := pb.1
          have e1 : w (c - d) = c - d := wid (by omega) (by omega)
          simp only [plusT, goP, cmpT_refl]
          rw [if_neg (by omega), if_pos trivial, e1, show w (d + (c - d)) = d + (c - d) from wid (by omega) (by omega)]
          rw [show d + (c - d) = c by omega]
      · rw [if_neg q1] at h ⊢
        have hfe : cmpT f e < 0 := by rw [cmpT_neg e f]; have := cmpT_range e f; omega
        simp only [plusT]
        simp only [goP]
        rw [if_neg (by omega), if_neg (by omega), goP_low fb.2 hfe]
theorem plus_less {a b : T} {p q : Option T} (fa : falls p a) (fb : falls q b) (pa : posT a) (pb : posT b) (sa : sm 1000000000 a) (sb : sm 1000000000 b) (h : 0 ≤ cmpT a b) : plusT b (lessT a b) = a :=
  plus_lessX fa fb pa pb (sm_mono sa (by omega)) (sm_mono sb (by omega)) h
end Go.Proofs.Try

namespace Go.Proofs.Try
open Go Go.AX T
def pwT (e : T) (n : Int) : T := if n = 0 then nil else cons e n nil
theorem ipower_eq (e : T) (n : Int) : impl_power e.rows n = some (pwT e n).rows := by
  unfold impl_power pwT
  split <;> rfl
theorem sTerm_eq (e : T) (n : Int) : spec_odTerm e.rows n = some (pwT e n).rows := by
  unfold spec_odTerm pwT
  split <;> rfl
theorem ifinite_eq (n : Int) : impl_finite n = some (pwT nil n).rows := by
  unfold impl_finite pwT
  split <;> rfl
theorem sInt_eq (n : Int) : spec_odInt n = some (pwT nil n).rows := by
  unfold spec_odInt
  rw [show ([] : Rw) = nil.rows from rfl, sTerm_eq]; rfl
theorem exOk_less {B : Int} {a : T} : ∀ {b : T}, exOk B a → exOk B (lessT a b) := by
  induction a with
  | nil => intro b _; cases b <;> exact trivial
  | cons e c l _ ih =>
    intro b h
    cases b with
    | nil => rw [lessT_nil]; exact h
    | cons f d m =>
      simp only [lessT]
      split
      · split
        · exact ih h.2
        · exact h
      · exact h
/-- A right ordinal but for its nodes: terms and exponents. -/
def rt (B : Int) (Z : Nat) (n : T) : Prop := okT B Z n ∧ exOk B n
theorem ordP_rt {t : T} (h : ordP t = true) : rt 1000000 30 t := ⟨ordP_okT h, form_exOk (ordP_form h)⟩
/-- The next part of a quotient. -/
def nextT : T → T → T
  | cons s c l, cons t d m => if cmpT s t = 0 then (if 0 < cmpT (timesT (cons t d m) (pwT nil (w (c.tdiv d)))) (cons s c l) then pwT nil (w (w (c.tdiv d) - 1)) else pwT nil (w (c.tdiv d))) else pwT (lessT s t) c
  | _, _ => nil
theorem times_int {t m : T} {d k : Int} (hk : k ≠ 0) : timesT (cons t d m) (pwT nil k) = cons t (w (d * k)) m := by
  unfold pwT
  rw [if_neg hk]
  simp only [timesT, tmG, T.app_nil]
theorem times_pow {t e m : T} {d k : Int} (he : e ≠ nil) (hk : k ≠ 0) : timesT (cons t d m) (pwT e k) = cons (plusT t e) k nil := by
  unfold pwT
  rw [if_neg hk]
  cases e with
  | nil => exact absurd rfl he
  | cons x y z => simp only [timesT, tmG]
theorem cmp_gtI {c d : Int} (h : d < c) : cmpI c d = 1 := by unfold cmpI; rw [if_neg (by omega), if_pos h]
theorem cmp_ltI {c d : Int} (h : c < d) : cmpI c d = -1 := by unfold cmpI; rw [if_pos h]
theorem cmp_sameE {s l m : T} {c d : Int} : cmpT (cons s c l) (cons s d m) = if cmpI c d = 0 then cmpT l m else cmpI c d := by simp only [cmpT, cmpT_refl, if_true]
/-- One round: what is next, and what is left. -/
theorem div_round {a b : T} (ra : rt 1000000 30 a) (rb : rt 1000000 30 b) (hb : b ≠ nil) (h : 0 ≤ cmpT a b) :
    rt 1000000 31 (nextT a b) ∧ 0 ≤ cmpT a (timesT b (nextT a b)) ∧ rt 1000000 30 (lessT a (timesT b (nextT a b))) ∧ rt 1000000000000 1000 (timesT b (nextT a b)) ∧
    ((lessT a (timesT b (nextT a b))).len < a.len ∨ cmpT (lessT a (timesT b (nextT a b))) b < 0) := by
  obtain ⟨⟨fa, pa, sa, za⟩, ea⟩ := ra
  obtain ⟨⟨fb, pb, sb, zb⟩, eb⟩ := rb
  cases b with
  | nil => exact absurd rfl hb
  | cons t d m =>
    cases a with
    | nil => simp [cmpT] at h
    | cons s c l =>
      have ec := sa.2.1
      have ed := sb.2.1
      have c1 := pa.1
      have d1 := pb.1
      simp only [size] at za zb
      -- whatever is next: it is enough to know that it is right and no more than a
      have key : ∀ x : T, rt 1000000 31 x → 0 ≤ cmpT (cons s c l) (timesT (cons t d m) x) → ((lessT (cons s c l) (timesT (cons t d m) x)).len < (cons s c l).len ∨ cmpT (lessT (cons s c l) (timesT (cons t d m) x)) (cons t d m) < 0) →
          rt 1000000 31 x ∧ 0 ≤ cmpT (cons s c l) (timesT (cons t d m) x) ∧ rt 1000000 30 (lessT (cons s c l) (timesT (cons t d m) x)) ∧ rt 1000000000000 1000 (timesT (cons t d m) x) ∧
          ((lessT (cons s c l) (timesT (cons t d m) x)).len < (cons s c l).len ∨ cmpT (lessT (cons s c l) (timesT (cons t d m) x)) (cons t d m) < 0) := by
        intro x rx hx hl
        obtain ⟨⟨fx, px, sx, zx⟩, ex⟩ := rx
        have o1 : okT 1000000000000 1000 (timesT (cons t d m) x) := by
          refine ⟨?_, ?_, ?_, ?_⟩
          · exact tmG_falls (c1 := d) eb.1.1 (sm_mono eb.1.2.2 (by omega)) fb.2 x none (fun r h => by cases h) fx (exOk_mono ex (by omega))
          · exact tmG_pos (B := 1000000) (C := 1000000) ⟨d1, ed.2⟩ pb.2 (by omega) x sx px
          · exact tmG_sm (B := 1000000) (C := 1000000) (sm_mono eb.1.2.2 (by omega)) ⟨by omega, ed.2⟩ sb.2.2 (by omega) x sx px
          · have := tmG_size t d m x
            have h2 : x.size * (t.size + m.size + 2) ≤ 31 * 31 := Nat.mul_le_mul zx (by omega)
            show (tmG t d m x).size ≤ 1000
            omega
        refine ⟨⟨⟨fx, px, sx, zx⟩, ex⟩, hx, ⟨less_ok (C := 1000000000000) (Y := 1000) (by omega) ⟨fa, pa, sa, by simp only [size]; omega⟩ o1 hx, exOk_less ea⟩, ⟨o1, ?_⟩, hl⟩
        exact tmG_exOk (B := 1000000) (C := 1000000) (D := 1000000000000) ⟨eb.1.1, eb.1.2.1, eb.1.2.2⟩ (exOk_mono eb.2 (by omega)) (by omega) x ex
      by_cases q : cmpT s t = 0
      · obtain rfl := cmpT_eq.1 q
        have hint : ∀ k : Int, 1 ≤ k ∧ k ≤ 1000000 → rt 1000000 31 (pwT nil k) := by
          intro k hk
          unfold pwT
          rw [if_neg (by omega)]
          exact ⟨⟨⟨fun _ h => (by cases h), trivial⟩, ⟨hk.1, trivial⟩, ⟨trivial, by omega, trivial⟩, by simp [size]⟩, ⟨⟨trivial, trivial, trivial⟩, trivial⟩⟩
        rw [cmp_sameE] at h
        have hcd : d ≤ c := by
          rcases Int.lt_or_le c d with x | x
          · rw [cmp_ltI x] at h; simp at h
          · exact x
        have hdiv : c.tdiv d = c / d := Int.tdiv_eq_ediv_of_nonneg (by omega)
        have hk1 : 1 ≤ c / d := Int.le_ediv_of_mul_le (by omega) (by omega)
        have hk2 : c / d ≤ c := Int.ediv_le_self _ (by omega)
        have hmd := Int.mul_ediv_add_emod c d
        have hm0 := Int.emod_nonneg c (show d ≠ 0 by omega)
        have hm1 := Int.emod_lt_of_pos c (show 0 < d by omega)
        obtain ⟨k, hk⟩ : ∃ k, c / d = k := ⟨_, rfl⟩
        obtain ⟨dk, hdk⟩ : ∃ x, d * k = x := ⟨_, rfl⟩
        rw [hk] at hmd hk1 hk2
        rw [hdk] at hmd
        have wk : w (c.tdiv d) = k := by rw [hdiv, hk]; exact wid (by omega) (by omega)
        have wk1 : w (k - 1) = k - 1 := wid (by omega) (by omega)
        have wdk : w (d * k) = dk := by rw [hdk]; exact wid (by omega) (by omega)
        have hdk1 : d * (k - 1) = dk - d := by rw [Int.mul_sub, hdk]; omega
        have wdk1 : w (d * (k - 1)) = dk - d := by rw [hdk1]; exact wid (by omega) (by omega)
        simp only [nextT, if_pos q, wk, wk1]
        have ht := times_int (t := s) (m := m) (d := d) (k := k) (by omega)
        rw [wdk] at ht
        by_cases g : 0 < cmpT (timesT (cons s d m) (pwT nil k)) (cons s c l)
        · rw [if_pos g]
          rw [ht, cmp_sameE] at g
          have hdc : dk = c := by
            rcases Int.lt_or_le dk c with x | x
            · rw [cmp_ltI x] at g; simp at g
            · omega
          subst hdc
          rw [cmpI_refl, if_pos rfl] at g
          have hlm : cmpT l m < 0 := by rw [cmpT_neg m l]; omega
          have hk3 : 2 ≤ k := by
            rcases Int.lt_or_le k 2 with x | x
            · have : k = 1 := by omega
              subst this
              rw [Int.mul_one] at hdk
              subst hdk
              rw [cmpI_refl, if_pos rfl] at h
              omega
            · exact x
          have ht2 := times_int (t := s) (m := m) (d := d) (k := k - 1) (by omega)
          rw [wdk1] at ht2
          have hc2 : cmpI dk (dk - d) = 1 := cmp_gtI (by omega)
          refine key _ (hint (k - 1) (by omega)) ?_ (.inr ?_)
          · rw [ht2, cmp_sameE, hc2]; simp
          · rw [ht2]
            simp only [lessT, cmpT_refl, if_true]
            rw [if_neg (by omega), show w (dk - (dk - d)) = d from by rw [show dk - (dk - d) = d by omega]; exact wid (by omega) (by omega), cmp_sameE, cmpI_refl, if_pos rfl]
            exact hlm
        · rw [if_neg g]
          have hge : 0 ≤ cmpT (cons s c l) (timesT (cons s d m) (pwT nil k)) := by rw [cmpT_neg (timesT (cons s d m) (pwT nil k))]; omega
          refine key _ (hint k (by omega)) hge (.inr ?_)
          rw [ht] at hge ⊢
          rw [cmp_sameE] at hge
          simp only [lessT, cmpT_refl, if_true]
          by_cases x : c = dk
          · rw [if_pos x]
            cases hx : lessT l m with
            | nil => simp [cmpT]
            | cons e y z =>
              have := falls_less fa.2 hx
              have hes : cmpT e s < 0 := by rw [cmpT_neg s e]; omega
              simp only [cmpT]
              rw [if_neg (by omega)]
              exact hes
          · rw [if_neg x, cmp_sameE, show w (c - dk) = c - dk from wid (by omega) (by omega), cmp_ltI (by omega)]
            simp
      · have hst : cmpT s t = 1 := by
          simp only [cmpT] at h
          rw [if_neg q] at h
          have := cmpT_range s t
          omega
        have hps := plus_less ea.1.1 eb.1.1 ea.1.2.1 eb.1.2.1 (sm_mono ea.1.2.2 (by omega)) (sm_mono eb.1.2.2 (by omega)) (by omega : 0 ≤ cmpT s t)
        have hne : lessT s t ≠ nil := by
          intro z
          rw [z] at hps
          have : t = s := hps
          rw [this, cmpT_refl] at hst
          omega
        simp only [nextT, if_neg q]
        have ht := times_pow (t := t) (m := m) (d := d) (k := c) hne (by omega)
        rw [hps] at ht
        refine key _ ?_ ?_ (.inl ?_)
        · unfold pwT
          rw [if_neg (by omega)]
          obtain ⟨g1, g2, g3⟩ := less_parts (B := 1000000) (by omega) ea.1.1 ea.1.2.1 eb.1.2.1 ea.1.2.2 (by omega : 0 ≤ cmpT s t)
          have := lessT_size s t
          exact ⟨⟨⟨fun _ h => (by cases h), trivial⟩, ⟨c1, trivial⟩, ⟨g3, ec, trivial⟩, by simp only [size]; omega⟩, ⟨⟨g1, g2, g3⟩, trivial⟩⟩
        · rw [ht, cmp_sameE, cmpI_refl, if_pos rfl]
          cases l <;> simp [cmpT]
        · rw [ht]
          simp only [lessT, cmpT_refl, if_true, lessT_nil, len]
          omega
end Go.Proofs.Try

namespace Go.Proofs.Try
open Go Go.AX T
theorem both_eq (k : Nat) (a b : T) (ha : a.size < k) (hb : b.size < k) (ca : a.size ≤ cap) (cb : b.size ≤ cap) : impl_both k a.rows b.rows = some (ordP a && ordP b) := by
  unfold impl_both
  rw [IsOrdinal_eq k a ha ca, Option.bind_some]
  cases ordP a with
  | false => rfl
  | true =>
    rw [if_pos rfl, IsOrdinal_eq k b hb cb, Option.bind_some]
    cases ordP b <;> rfl
/-! ### copies -/
def addT (a b : T) : T × Bool := if ordP a && ordP b then toldT (plusT a b) else (nil, false)
theorem AddOrdinals_eq (k : Nat) (a b : T) (ha : a.size + b.size < k) (hc : a.size + b.size + 1 ≤ cap) : impl_AddOrdinals k a.rows b.rows = some ((addT a b).1.rows, (addT a b).2) := by
  unfold impl_AddOrdinals addT
  rw [both_eq k a b (by omega) (by omega) (by omega) (by omega), Option.bind_some]
  cases ordP a && ordP b with
  | false => rfl
  | true =>
    have := plusT_size a b
    simp only [if_true]
    rw [plus_eq k a b (by omega) hc, Option.bind_some, told_eq k _ (by omega) (by omega), Option.bind_some]
    cases (toldT (plusT a b)).2 <;> rfl
def cmpO (a b : T) : Int × Bool := if ordP a && ordP b then (cmpT a b, true) else (0, false)
/-! ### the same -/
theorem same_loop {rec_ : Rw → Rw → Option Bool} {a : T} (hr : ∀ e : T, e.size < a.size → rec_ e.rows e.rows = some true) : ∀ (t : T) (i : Nat), drop a i = t → laws_sameOrdinal_l0 rec_ a.rows a.rows (some true) t.rows i = some true
  | nil, i, _ => rfl
  | cons e c l, i, hd => by
    have hs := drop_cons_size hd
    simp only [rows, laws_sameOrdinal_l0, cell_T]
    rw [row_T rfl hd, if_pos rfl, hr e (by omega), Option.bind_some, if_pos rfl]
    exact same_loop hr l (i + 1) (drop_succ hd)
theorem same_refl : ∀ (k : Nat) (a : T), a.size < k → a.size ≤ cap → laws_sameOrdinal k a.rows a.rows = some true
  | 0, _, h, _ => absurd h (Nat.not_lt_zero _)
  | k + 1, a, h, hc => by
    have := a.len_size
    simp only [laws_sameOrdinal, laws_sameOrdinal_b]
    rw [if_pos trivial, if_pos (by rw [rows_len]; omega)]
    exact same_loop (fun e he => same_refl k e (by omega) (by omega)) a 0 (drop_zero a)
theorem addT_ok {a b : T} (h : (addT a b).2 = true) : ordP a = true ∧ ordP b = true ∧ ordP (plusT a b) = true ∧ (addT a b).1 = plusT a b := by
  unfold addT toldT at *
  cases ha : ordP a <;> cases hb : ordP b <;> simp only [ha, hb, Bool.and_self, Bool.and_true, Bool.and_false, if_true] at h ⊢ <;> try (simp at h)
  cases hs : ordP (plusT a b) <;> simp [hs] at h ⊢
theorem addT_of {a b : T} (ha : ordP a = true) (hb : ordP b = true) (hs : ordP (plusT a b) = true) : addT a b = (plusT a b, true) := by
  unfold addT toldT
  rw [ha, hb, Bool.and_self, if_pos rfl, if_pos hs]
end Go.Proofs.Try

namespace Go.Proofs.Try
open Go Go.AX T
theorem pw_rt {k : Int} (hk : 1 ≤ k ∧ k ≤ 1000000) : rt 1000000 31 (pwT nil k) := by
  unfold pwT
  rw [if_neg (by omega)]
  exact ⟨⟨⟨fun _ h => (by cases h), trivial⟩, ⟨hk.1, trivial⟩, ⟨trivial, by omega, trivial⟩, by simp [size]⟩, ⟨⟨trivial, trivial, trivial⟩, trivial⟩⟩
theorem quot_in {c d : Int} (h : 1 ≤ d ∧ d ≤ c ∧ c ≤ 1000000) : 1 ≤ w (c.tdiv d) ∧ w (c.tdiv d) ≤ 1000000 := by
  have hdiv : c.tdiv d = c / d := Int.tdiv_eq_ediv_of_nonneg (by omega)
  have hk1 : 1 ≤ c / d := Int.le_ediv_of_mul_le (by omega) (by omega)
  have hk2 : c / d ≤ c := Int.ediv_le_self _ (by omega)
  rw [hdiv, show w (c / d) = c / d from wid (by omega) (by omega)]
  omega
/-- Products of right ones, both ways. -/
theorem times_both {k : Nat} {b x : T} (rb : rt 1000000 30 b) (rx : rt 1000000 31 x) (hk : 10000 < k) (hc : k ≤ cap) : impl_product k b.rows x.rows = some (timesT b x).rows ∧ spec_odTimes k b.rows x.rows = some (timesT b x).rows ∧ okT 1000000000000 1100 (timesT b x) := by
  obtain ⟨⟨fb, pb, sb, zb⟩, eb⟩ := rb
  obtain ⟨⟨fx, px, sx, zx⟩, ex⟩ := rx
  have o1 : okT 1000000000000 1100 (timesT b x) := by
    cases b with
    | nil => exact ⟨trivial, trivial, trivial, by simp [timesT, size]⟩
    | cons t d m =>
      have ed := sb.2.1
      have d1 := pb.1
      refine ⟨?_, ?_, ?_, ?_⟩
      · exact tmG_falls (c1 := d) eb.1.1 (sm_mono eb.1.2.2 (by omega)) fb.2 x none (fun r h => by cases h) fx (exOk_mono ex (by omega))
      · exact tmG_pos (B := 1000000) (C := 1000000) ⟨d1, ed.2⟩ pb.2 (by omega) x sx px
      · exact tmG_sm (B := 1000000) (C := 1000000) (sm_mono eb.1.2.2 (by omega)) ⟨by omega, ed.2⟩ sb.2.2 (by omega) x sx px
      · have := tmG_size t d m x
        simp only [size] at zb
        have h2 : x.size * (t.size + m.size + 2) ≤ 31 * 31 := Nat.mul_le_mul zx (by omega)
        show (tmG t d m x).size ≤ 1100
        omega
  have := (timesT b x).len_size
  have oz := o1.2.2.2
  refine ⟨product_eq k b x (by omega) (by omega) (by omega), ?_, o1⟩
  exact odTimes_eq (B := 1000000) (C := 1000000) (Y := 30) (Z := 31) ⟨fb, pb, sb⟩ (exOk_mono eb (by omega)) ⟨fx, px, sx⟩ (exOk_mono ex (by omega)) (by omega) zb (by omega) zx (by omega) (by omega) hc
theorem div_rel {a b q x : T} {Q : Int} (ra : rt 1000000 30 a) (rb : rt 1000000 30 b) (rx : rt 1000000 31 x) (tx : okT 1000000000000 1000 (timesT b x)) (hge : 0 ≤ cmpT a (timesT b x)) (ra' : rt 1000000 30 (lessT a (timesT b x))) (fq : falls none q) (pq : posT q) (sq : sm Q q) (eq : exOk 1000000 q) (hQ : 0 ≤ Q ∧ Q ≤ 900000000) :
    plusT (timesT b (plusT q x)) (lessT a (timesT b x)) = plusT (timesT b q) a := by
  obtain ⟨⟨fb, pb, sb, zb⟩, eb⟩ := rb
  have hd := times_dist fb pb (sm_mono sb (by omega)) (exOk_mono eb (by omega)) fq (sm_mono sq (by omega)) (exOk_mono eq (by omega)) pq rx.1.1 (sm_mono rx.1.2.2.1 (by omega)) (exOk_mono rx.2 (by omega)) rx.1.2.1
  have hq : falls none (timesT b q) ∧ sm 1000000000000000 (timesT b q) := by
    cases b with
    | nil => exact ⟨trivial, trivial⟩
    | cons t d m =>
      have ed := sb.2.1
      have d1 := pb.1
      have hm : 1000000 * Q ≤ 1000000 * 900000000 := Int.mul_le_mul_of_nonneg_left hQ.2 (by omega)
      exact ⟨tmG_falls (c1 := d) eb.1.1 (sm_mono eb.1.2.2 (by omega)) fb.2 q none (fun r h => by cases h) fq (exOk_mono eq (by omega)), tmG_sm (B := 1000000) (C := Q) (sm_mono eb.1.2.2 (by omega)) ⟨by omega, ed.2⟩ sb.2.2 (by omega) q sq pq⟩
  rw [hd, ← plusT_assocX hq.2 (sm_mono tx.2.2.1 (by omega)) (sm_mono ra'.1.2.2.1 (by omega)) hq.1 tx.1]
  congr 1
  exact plus_lessX ra.1.1 tx.1 ra.1.2.1 tx.2.1 (sm_mono ra.1.2.2.1 (by omega)) (sm_mono tx.2.2.1 (by omega)) hge
end Go.Proofs.Try

namespace Go.Proofs.Try
open Go Go.AX T
theorem tmG_app {a1 a' : T} {c1 : Int} : ∀ b c : T, tmG a1 c1 a' (app b c) = app (tmG a1 c1 a' b) (tmG a1 c1 a' c)
  | nil, c => rfl
  | cons nil d m, c => by
    have ih := tmG_app (a1 := a1) (a' := a') (c1 := c1) m c
    rw [show app (cons nil d m) c = cons nil d (app m c) from rfl]
    simp only [tmG]
    rw [ih, app_assoc]
  | cons (cons x y z) d m, c => by
    have ih := tmG_app (a1 := a1) (a' := a') (c1 := c1) m c
    rw [show app (cons (cons x y z) d m) c = cons (cons x y z) d (app m c) from rfl]
    simp only [tmG]
    rw [ih]; rfl
theorem goP_ne (a f : T) (d : Int) (m : T) : ∃ x y z, goP a f d m = cons x y z := by
  induction a with
  | nil => exact ⟨f, d, m, rfl⟩
  | cons e c l ih1 ih =>
    simp only [goP]
    split
    · exact ⟨_, _, _, rfl⟩
    · split
      · exact ⟨_, _, _, rfl⟩
      · exact ih
theorem mul3 {a b c : Int} (ha : 0 ≤ a ∧ a ≤ 1000000) (hb : 0 ≤ b ∧ b ≤ 1000000) (hc : 0 ≤ c ∧ c ≤ 1000000) : w (w (a * b) * c) = w (a * w (b * c)) := by
  have h1 := mul_in ha hb
  have h2 := mul_in hb hc
  rw [show w (a * b) = a * b from wid (by omega) (by omega), show w (b * c) = b * c from wid (by omega) (by omega), Int.mul_assoc]
theorem tm_assoc0 {x1 x' : T} {c1 d1 : Int} (hc : 0 ≤ c1 ∧ c1 ≤ 1000000) (hd : 0 ≤ d1 ∧ d1 ≤ 1000000) : ∀ z : T, sm 1000000 z → posT z → tmG x1 (w (c1 * d1)) x' z = tmG x1 c1 x' (tmG nil d1 nil z)
  | nil, _, _ => rfl
  | cons nil d m, hs, hp => by
    have ih := tm_assoc0 (x1 := x1) (x' := x') hc hd m hs.2.2 hp.2
    have := hp.1
    have := hs.2.1
    simp only [tmG]
    rw [ih, mul3 hc hd (by omega)]
    rw [show app (cons nil (w (d1 * d)) nil) (tmG nil d1 nil m) = cons nil (w (d1 * d)) (tmG nil d1 nil m) from rfl]
    simp only [tmG]
  | cons (cons x y z) d m, hs, hp => by
    have ih := tm_assoc0 (x1 := x1) (x' := x') hc hd m hs.2.2 hp.2
    simp only [tmG]
    rw [ih, plusT_nilL]
    simp only [tmG]
theorem tm_assoc1 {x1 x' y1 y' : T} {c1 d1 : Int} (fx : falls none x1) (sx : sm 1000000000 x1) (fy : falls none y1) (sy : sm 1000000000 y1) (hy : y1 ≠ nil) : ∀ z : T, exOk 1000000000 z → tmG (plusT x1 y1) d1 (tmG x1 c1 x' y') z = tmG x1 c1 x' (tmG y1 d1 y' z)
  | nil, _ => rfl
  | cons nil d m, he => by
    have ih := tm_assoc1 (x' := x') (y' := y') (c1 := c1) (d1 := d1) fx sx fy sy hy m he.2
    simp only [tmG]
    rw [ih, tmG_app]
    cases y1 with
    | nil => exact absurd rfl hy
    | cons p q r => simp only [tmG]
  | cons (cons x y z) d m, he => by
    have ih := tm_assoc1 (x' := x') (y' := y') (c1 := c1) (d1 := d1) fx sx fy sy hy m he.2
    simp only [tmG]
    rw [ih, ← plusT_assocB sx sy he.1.2.2 fx fy]
    obtain ⟨p, q, r, e⟩ := goP_ne y1 x y z
    have e : plusT y1 (cons x y z) = cons p q r := e
    rw [e]
    simp only [tmG]
/-- Products are associative. -/
theorem tm_assoc {x1 x' y1 y' : T} {c1 d1 : Int} (fx : falls none x1) (sx : sm 1000000000 x1) (fy : falls none y1) (sy : sm 1000000000 y1) (hy : falls (some y1) y') (hc : 0 ≤ c1 ∧ c1 ≤ 1000000) (hd : 0 ≤ d1 ∧ d1 ≤ 1000000) {z : T} (ez : exOk 1000000000 z) (sz : sm 1000000 z) (pz : posT z) :
    timesT (tmG x1 c1 x' (cons y1 d1 y')) z = tmG x1 c1 x' (tmG y1 d1 y' z) := by
  cases y1 with
  | nil =>
    obtain rfl := falls_low hy
    simp only [tmG, T.app_nil, timesT]
    exact tm_assoc0 hc hd z sz pz
  | cons p q r =>
    have := tm_assoc1 (x' := x') (y' := y') (c1 := c1) (d1 := d1) fx sx fy sy (by simp) z ez
    simp only [tmG, timesT]
    exact this
/-! ### right, but for the nodes -/
def deepF : T → Prop
  | nil => True
  | cons e _ l => (falls none e ∧ posT e ∧ deepF e) ∧ deepF l
theorem form_deep {p : Option T} {t : T} (h : formA p t = true) : deepF t := by
  induction t generalizing p with
  | nil => trivial
  | cons e c l ih1 ih =>
    simp only [formA, Bool.and_eq_true, decide_eq_true_eq] at h
    exact ⟨⟨form_falls h.1.1.2, form_posT h.1.1.2, ih1 h.1.1.2⟩, ih h.2⟩
theorem form_of {t : T} : ∀ {p : Option T}, falls p t → posT t → deepF t → sm 1000000 t → formA p t = true := by
  induction t with
  | nil => intros; rfl
  | cons e c l ih1 ih =>
    intro p f q d s
    simp only [formA, Bool.and_eq_true, decide_eq_true_eq]
    refine ⟨⟨⟨⟨q.1, s.2.1.2⟩, ih1 d.1.1 d.1.2.1 d.1.2.2 s.1⟩, ?_⟩, ih f.2 q.2 d.2 s.2.2⟩
    cases p with
    | none => rfl
    | some r => exact decide_eq_true (f.1 r rfl)
theorem ordP_of {t : T} (f : falls none t) (q : posT t) (d : deepF t) (s : sm 1000000 t) (h : dp t ≤ 6) (z : t.size ≤ 29) : ordP t = true := by
  have := nodes_size t
  simp only [ordP, Bool.and_eq_true, decide_eq_true_eq]
  exact ⟨⟨by omega, h⟩, form_of f q d s⟩
theorem ordP_parts {t : T} (h : ordP t = true) : (falls none t ∧ posT t ∧ deepF t) ∧ sm 1000000 t ∧ dp t ≤ 6 ∧ t.size ≤ 29 := by
  have h1 := h
  have := nodes_size t
  simp only [ordP, Bool.and_eq_true, decide_eq_true_eq] at h1
  exact ⟨⟨form_falls h1.2, form_posT h1.2, form_deep h1.2⟩, form_sm h1.2, h1.1.2, by omega⟩
theorem deepF_app {a b : T} : deepF (app a b) ↔ deepF a ∧ deepF b := by
  induction a with
  | nil => simp [app, deepF]
  | cons e c l _ ih => simp only [app, deepF, ih, and_assoc]
theorem deepF_goP {a f m : T} {d : Int} (ha : deepF a) (hf : falls none f ∧ posT f ∧ deepF f) (hm : deepF m) : deepF (goP a f d m) := by
  induction a with
  | nil => exact ⟨hf, hm⟩
  | cons e c l _ ih =>
    simp only [goP]
    split
    · exact ⟨ha.1, ih ha.2⟩
    · split
      · exact ⟨ha.1, hm⟩
      · exact ih ha.2
theorem deepF_plus {a b : T} (ha : deepF a) (hb : deepF b) : deepF (plusT a b) := by
  cases b with
  | nil => exact ha
  | cons f d m => exact deepF_goP ha hb.1 hb.2
theorem exOk_deep {B : Int} {t : T} (d : deepF t) (s : sm B t) : exOk B t := by
  induction t with
  | nil => trivial
  | cons e c l _ ih => exact ⟨⟨d.1.1, d.1.2.1, s.1⟩, ih d.2 s.2.2⟩
theorem tmG_deep {a1 a' : T} {c1 : Int} (f1 : falls none a1 ∧ posT a1 ∧ deepF a1) (s1 : sm 1000000000 a1) (d' : deepF a') : ∀ b : T, deepF b → sm 1000000000 b → deepF (tmG a1 c1 a' b)
  | nil, _, _ => trivial
  | cons nil d m, hd, hs => by
    have ih := tmG_deep (c1 := c1) f1 s1 d' m hd.2 hs.2.2
    simp only [tmG, deepF_app]
    exact ⟨⟨f1, d'⟩, ih⟩
  | cons (cons x y z) d m, hd, hs => by
    have ih := tmG_deep (c1 := c1) f1 s1 d' m hd.2 hs.2.2
    exact ⟨⟨falls_plusT f1.1 hd.1.1, posT_plus s1 hs.1 f1.2.1 hd.1.2.1, deepF_plus f1.2.2 hd.1.2.2⟩, ih⟩
/-! ### what is multiplied grows -/
theorem goP_grow {a f m : T} {d : Int} (pa : posT a) (sa : sm 1000000000 a) (hd : 0 ≤ d ∧ d ≤ 1000000000) : f.size + m.size + 1 ≤ (goP a f d m).size ∧ dp (cons f d m) ≤ dp (goP a f d m) ∧ (sm 1000000 (goP a f d m) → sm 1000000 (cons f d m)) := by
  induction a with
  | nil => exact ⟨by simp [goP, size], Nat.le_refl _, fun h => h⟩
  | cons e c l _ ih =>
    have ih := ih pa.2 sa.2.2
    have b1 := sa.2.1
    have p1 := pa.1
    simp only [goP]
    split
    · refine ⟨by simp only [size]; omega, ?_, fun h => ih.2.2 h.2.2⟩
      have := ih.2.1
      simp only [dp] at this ⊢; omega
    · split
      · rename_i q
        obtain rfl := cmpT_eq.1 q
        refine ⟨by simp only [size]; omega, by simp only [dp]; omega, fun h => ⟨h.1, ?_, h.2.2⟩⟩
        have := h.2.1
        rw [show w (c + d) = c + d from wid (by omega) (by omega)] at this
        omega
      · exact ih
theorem dp_app (a b : T) : dp (app a b) = max (dp a) (dp b) := by
  induction a with
  | nil => simp [app, dp]
  | cons e c l _ ih => simp only [app, dp, ih]; omega
theorem tm_grow {a1 a' : T} {c1 : Int} (hc : 1 ≤ c1 ∧ c1 ≤ 1000000) (pa : posT a1) (sa : sm 1000000000 a1) : ∀ b : T, posT b → sm 1000000000000 b → exOk 1000000000 b →
    b.size ≤ (tmG a1 c1 a' b).size ∧ dp b ≤ dp (tmG a1 c1 a' b) ∧ (sm 1000000 (tmG a1 c1 a' b) → sm 1000000 b)
  | nil, _, _, _ => ⟨Nat.zero_le _, Nat.zero_le _, fun _ => trivial⟩
  | cons nil d m, hp, hs, he => by
    have ih := tm_grow (a' := a') hc pa sa m hp.2 hs.2.2 he.2
    have p1 := hp.1
    have b1 := hs.2.1
    have hm := mul_in (B := 1000000) (C := 1000000000000) ⟨by omega, hc.2⟩ ⟨by omega, b1.2⟩
    have h1 : 1 * d ≤ c1 * d := Int.mul_le_mul_of_nonneg_right hc.1 (by omega)
    have e1 : w (c1 * d) = c1 * d := wid (by omega) (by omega)
    simp only [tmG]
    refine ⟨by simp only [size_app, size]; omega, ?_, fun h => ?_⟩
    · simp only [dp_app, dp]; have := ih.2.1; omega
    · have h := sm_app.1 h
      refine ⟨trivial, ?_, ih.2.2 h.2⟩
      have := h.1.2.1
      omega
  | cons (cons x y z) d m, hp, hs, he => by
    have ih := tm_grow (a' := a') hc pa sa m hp.2 hs.2.2 he.2
    have hg := goP_grow (a := a1) (f := x) (m := z) (d := y) pa sa ⟨by have := he.1.2.1.1; omega, he.1.2.2.2.1.2⟩
    simp only [tmG]
    refine ⟨?_, ?_, fun h => ⟨hg.2.2 h.1, h.2.1, ih.2.2 h.2.2⟩⟩
    · rw [show (cons (cons x y z) d m).size = (cons x y z).size + m.size + 1 from rfl, show (cons (plusT a1 (cons x y z)) d (tmG a1 c1 a' m)).size = (plusT a1 (cons x y z)).size + (tmG a1 c1 a' m).size + 1 from rfl, show (cons x y z).size = x.size + z.size + 1 from rfl, show plusT a1 (cons x y z) = goP a1 x y z from rfl]
      omega
    · rw [show dp (cons (cons x y z) d m) = max (1 + dp (cons x y z)) (dp m) from rfl, show dp (cons (plusT a1 (cons x y z)) d (tmG a1 c1 a' m)) = max (1 + dp (plusT a1 (cons x y z))) (dp (tmG a1 c1 a' m)) from rfl, show plusT a1 (cons x y z) = goP a1 x y z from rfl]
      omega
/-- A product that is right has a right second factor. -/
theorem ord_of_times {a1 a' b : T} {c1 : Int} (hc : 1 ≤ c1 ∧ c1 ≤ 1000000) (pa : posT a1) (sa : sm 1000000000 a1) (fb : falls none b) (pb : posT b) (db : deepF b) (sb : sm 1000000000000 b) (eb : exOk 1000000000 b) (h : ordP (tmG a1 c1 a' b) = true) : ordP b = true := by
  obtain ⟨_, h2, h3, h4⟩ := ordP_parts h
  obtain ⟨g1, g2, g3⟩ := tm_grow (a' := a') hc pa sa b pb sb eb
  exact ordP_of fb pb db (g3 h2) (by omega) (by omega)
/-! ### how large a product is -/
theorem tm_size2 {a1 a' : T} {c1 : Int} : ∀ (b : T) (p : Option T), falls p b → (tmG a1 c1 a' b).size ≤ b.size * (a1.size + 1) + a'.size
  | nil, _, _ => by simp [tmG, size]
  | cons nil d m, p, h => by
    obtain rfl := falls_low h.2
    simp only [tmG, T.app_nil, size]; omega
  | cons (cons x y z) d m, p, h => by
    have ih := tm_size2 (a1 := a1) (a' := a') (c1 := c1) m _ h.2
    have h1 := plusT_size a1 (cons x y z)
    simp only [tmG]
    rw [show (cons (plusT a1 (cons x y z)) d (tmG a1 c1 a' m)).size = (plusT a1 (cons x y z)).size + (tmG a1 c1 a' m).size + 1 from rfl, show (cons (cons x y z) d m).size = (cons x y z).size + m.size + 1 from rfl, Nat.add_mul, Nat.add_mul, Nat.one_mul]
    have : (cons x y z).size ≤ (cons x y z).size * (a1.size + 1) := Nat.le_mul_of_pos_right _ (by omega)
    omega
theorem tm_sm2 {B D : Int} {a1 a' : T} {c1 : Int} (s1 : sm B a1) (hc : 0 ≤ c1 ∧ c1 ≤ 1000000) (s' : sm D a') (hB : 0 ≤ B ∧ B + 1000000 ≤ D ∧ 1000000000000 ≤ D ∧ D ≤ 1000000000000000) : ∀ b : T, sm 1000000 b → posT b → sm D (tmG a1 c1 a' b)
  | nil, _, _ => trivial
  | cons nil d m, hs, hp => by
    have ih := tm_sm2 s1 hc s' hB m hs.2.2 hp.2
    have hm := mul_in hc ⟨by have := hp.1; omega, hs.2.1.2⟩
    simp only [tmG, sm_app]
    refine ⟨⟨sm_mono s1 (by omega), ?_, s'⟩, ih⟩
    rw [show w (c1 * d) = c1 * d from wid (by omega) (by omega)]; omega
  | cons (cons x y z) d m, hs, hp => by
    have ih := tm_sm2 s1 hc s' hB m hs.2.2 hp.2
    have h1 := hs.2.1
    exact ⟨sm_mono (plusT_sm s1 hs.1 ⟨by omega, by omega, by omega⟩) (by omega), ⟨by omega, by omega⟩, ih⟩
/-! ### the power: x, multiplied by a again and again -/
def qT (a x : T) : Nat → T
  | 0 => x
  | n + 1 => timesT (qT a x n) a
/-- How the products look after i steps. -/
def qInv (i : Nat) (t : T) : Prop := ∃ x1 c x', t = cons x1 c x' ∧ (falls none x1 ∧ posT x1 ∧ deepF x1) ∧ sm (3000000 + i * 1000000) x1 ∧ x1.size ≤ 1000 + 30 * i ∧ (1 ≤ c ∧ c ≤ 1000000) ∧ (falls (some x1) x' ∧ posT x' ∧ deepF x') ∧ (sm 1000000000000 x' ∧ exOk (3000000 + i * 1000000) x') ∧ x'.size ≤ i * 70000
theorem qInv_step {a1 a' t : T} {d1 : Int} {i : Nat} (ha : ordP (cons a1 d1 a') = true) (hz : a1 ≠ nil) (hi : i ≤ 40) (h : qInv i t) : qInv (i + 1) (timesT t (cons a1 d1 a')) := by
  obtain ⟨x1, c, x', rfl, ⟨f1, p1, e1⟩, s1, z1, hc, ⟨f', p', e'⟩, ⟨s', x9⟩, z'⟩ := h
  obtain ⟨⟨fa, pa, da⟩, sa, _, za⟩ := ordP_parts ha
  simp only [size] at za
  have s9 : sm 1000000000 x1 := sm_mono s1 (by omega)
  have hd : tmG x1 c x' (cons a1 d1 a') = cons (plusT x1 a1) d1 (tmG x1 c x' a') := by
    cases a1 with
    | nil => exact absurd rfl hz
    | cons p q r => rfl
  refine ⟨plusT x1 a1, d1, tmG x1 c x' a', hd, ⟨falls_plusT f1 da.1.1, posT_plus s9 (sm_mono sa.1 (by omega)) p1 da.1.2.1, deepF_plus e1 da.1.2.2⟩, ?_, ?_, ⟨pa.1, sa.2.1.2⟩, ⟨?_, ?_, ?_⟩, ⟨?_, ?_⟩, ?_⟩
  · exact sm_mono (plusT_sm s1 sa.1 ⟨by omega, by omega, by omega⟩) (by omega)
  · have := plusT_size x1 a1; omega
  · exact tmG_falls (c1 := c) f1 s9 f' a' (some a1) (fun r hr => by cases hr; exact ⟨da.1.2.1, sm_mono sa.1 (by omega)⟩) fa.2 (exOk_mono (exOk_deep da.2 sa.2.2) (by omega))
  · exact tmG_pos (B := 1000000) (C := 1000000) hc p' (by omega) a' sa.2.2 pa.2
  · exact tmG_deep ⟨f1, p1, e1⟩ s9 e' a' da.2 (sm_mono sa.2.2 (by omega))
  · exact tm_sm2 s1 ⟨by omega, hc.2⟩ s' ⟨by omega, by omega, by omega, by omega⟩ a' sa.2.2 pa.2
  · exact tmG_exOk (B := 3000000 + i * 1000000) (C := 1000000) ⟨f1, p1, s1⟩ (exOk_mono x9 (by omega)) ⟨by omega, by omega, by omega, by omega, by omega⟩ a' (exOk_deep da.2 sa.2.2)
  · have h1 := tm_size2 (a1 := x1) (a' := x') (c1 := c) a' _ fa.2
    have h2 : a'.size * (x1.size + 1) ≤ 29 * 2300 := Nat.mul_le_mul (by omega) (by omega)
    omega
theorem qInv_all {a1 a' x : T} {d1 : Int} (ha : ordP (cons a1 d1 a') = true) (hz : a1 ≠ nil) (hx : qInv 0 x) : ∀ n : Nat, n ≤ 41 → qInv n (qT (cons a1 d1 a') x n)
  | 0, _ => hx
  | n + 1, h => qInv_step ha hz (by omega) (qInv_all ha hz hx n (by omega))
theorem qInv_start {e : T} (f : falls none e) (p : posT e) (d : deepF e) (s : sm 3000000 e) (z : e.size ≤ 1000) : qInv 0 (cons e 1 nil) :=
  ⟨e, 1, nil, rfl, ⟨f, p, d⟩, sm_mono s (by omega), by omega, ⟨by omega, by omega⟩, ⟨trivial, trivial, trivial⟩, ⟨trivial, trivial⟩, by simp [size]⟩
theorem qInv_one : qInv 0 (cons nil 1 nil) := qInv_start trivial trivial trivial trivial (by simp [size])
theorem qInv_parts {t : T} {i : Nat} (h : qInv i t) (hi : i ≤ 41) : falls none t ∧ posT t ∧ deepF t ∧ sm 1000000000000 t ∧ exOk 1000000000 t ∧ t.size ≤ i * 70000 + 2300 := by
  obtain ⟨x1, c, x', rfl, ⟨f1, p1, e1⟩, s1, z1, hc, ⟨f', p', e'⟩, ⟨s', x9⟩, z'⟩ := h
  exact ⟨⟨fun _ h => (by cases h), f'⟩, ⟨hc.1, p'⟩, ⟨⟨f1, p1, e1⟩, e'⟩, ⟨sm_mono s1 (by omega), by omega, s'⟩, ⟨⟨f1, p1, sm_mono s1 (by omega)⟩, exOk_mono x9 (by omega)⟩, by simp only [size]; omega⟩
/-- Multiplying from the left comes to the same. -/
theorem qT_pre {a x1 x' : T} {c1 : Int} (fx : falls none x1) (sx : sm 1000000000 x1) (hc : 0 ≤ c1 ∧ c1 ≤ 1000000) (ha : ordP a = true) (hi : ∀ n : Nat, n ≤ 41 → qInv n (qT a (cons nil 1 nil) n)) : ∀ n : Nat, n ≤ 41 → tmG x1 c1 x' (qT a (cons nil 1 nil) n) = qT a (cons x1 c1 x') n
  | 0, _ => by simp only [qT, tmG, T.app_nil]; rw [Int.mul_one, show w c1 = c1 from wid (by omega) (by omega)]
  | n + 1, h => by
    have ih := qT_pre (x' := x') fx sx hc ha hi n (by omega)
    obtain ⟨⟨fa, pa, da⟩, sa, _, za⟩ := ordP_parts ha
    simp only [qT]
    rw [← ih]
    obtain ⟨y1, c, y', e, ⟨f1, p1, e1⟩, s1, z1, hc2, ⟨f', p', e'⟩, _, _⟩ := hi n (by omega)
    rw [e]
    exact (tm_assoc fx sx f1 (sm_mono s1 (by omega)) f' hc ⟨by omega, hc2.2⟩ (exOk_mono (exOk_deep da sa) (by omega)) sa pa).symm
theorem qT_shift {a x : T} : ∀ n : Nat, qT a (timesT x a) n = qT a x (n + 1)
  | 0 => rfl
  | n + 1 => by simp only [qT]; rw [qT_shift n]; rfl
theorem times_oneL {a : T} (s : sm 1000000 a) : timesT (cons nil 1 nil) a = a := by
  show tmG nil 1 nil a = a
  induction a with
  | nil => rfl
  | cons e d m _ ih =>
    have := s.2.1
    cases e with
    | nil => simp only [tmG, ih s.2.2]; rw [Int.one_mul, show w d = d from wid (by omega) (by omega)]; rfl
    | cons x y z => simp only [tmG, ih s.2.2, plusT_nilL]
theorem qT_right {a1 a' : T} {d1 : Int} (ha : ordP (cons a1 d1 a') = true) (hz : a1 ≠ nil) {n : Nat} (hn : n ≤ 40) (h : ordP (qT (cons a1 d1 a') (cons nil 1 nil) (n + 1)) = true) : ordP (qT (cons a1 d1 a') (cons nil 1 nil) n) = true := by
  obtain ⟨⟨fa, pa, da⟩, sa, _, za⟩ := ordP_parts ha
  have hi := qInv_all ha hz qInv_one
  rw [← qT_shift, times_oneL sa, ← qT_pre da.1.1 (sm_mono sa.1 (by omega)) ⟨by have := pa.1; omega, sa.2.1.2⟩ ha hi n (by omega)] at h
  obtain ⟨g1, g2, g3, g4, g5, _⟩ := qInv_parts (hi n (by omega)) (by omega)
  exact ord_of_times ⟨pa.1, sa.2.1.2⟩ da.1.2.1 (sm_mono sa.1 (by omega)) g1 g2 g3 g4 g5 h
theorem qT_rightE {a1 a' e : T} {d1 : Int} (ha : ordP (cons a1 d1 a') = true) (hz : a1 ≠ nil) (fe : falls none e) (pe : posT e) (se : sm 3000000 e) {n : Nat} (hn : n ≤ 40) (h : ordP (qT (cons a1 d1 a') (cons e 1 nil) n) = true) : ordP (qT (cons a1 d1 a') (cons nil 1 nil) n) = true := by
  have hi := qInv_all ha hz qInv_one
  rw [← qT_pre fe (sm_mono se (by omega)) ⟨by omega, by omega⟩ ha hi n (by omega)] at h
  obtain ⟨g1, g2, g3, g4, g5, _⟩ := qInv_parts (hi n (by omega)) (by omega)
  exact ord_of_times ⟨by omega, by omega⟩ pe (sm_mono se (by omega)) g1 g2 g3 g4 g5 h
end Go.Proofs.Try

namespace Go.Proofs.Try
open Go Go.AX T
def lastE : T → T
  | nil => nil
  | cons e _ nil => e
  | cons _ _ (cons f d m) => lastE (cons f d m)
def befT : T → T
  | nil => nil
  | cons e c nil => if 1 < c then cons e (w (c - 1)) nil else nil
  | cons e c (cons f d m) => cons e c (befT (cons f d m))
def limT (t : T) : Bool := match lastE t with
  | nil => false
  | cons _ _ _ => true
def powT (e : T) (n : Int) : T := if n = 0 then nil else cons e n nil
def fund : Nat → Int → T → T
  | 0, _, _ => nil
  | k + 1, n, a => plusT (befT a) (cond (limT (lastE a)) (powT (fund k n (lastE a)) 1) (powT (befT (lastE a)) n))
theorem lastE_snoc (l e : T) (c : Int) : lastE (app l (cons e c nil)) = e := by
  induction l with
  | nil => rfl
  | cons x d m _ ih =>
    cases m with
    | nil => rfl
    | cons y g r => simp only [app, lastE] at ih ⊢; exact ih
theorem befT_snoc (l e : T) (c : Int) : befT (app l (cons e c nil)) = app l (if 1 < c then cons e (w (c - 1)) nil else nil) := by
  induction l with
  | nil => simp only [app, befT]
  | cons x d m _ ih =>
    cases m with
    | nil => simp only [app, befT]
    | cons y g r => simp only [app, befT] at ih ⊢; rw [ih]
theorem form_snoc {p : Option T} {l e : T} {c : Int} (h : formA p (app l (cons e c nil)) = true) : 1 ≤ c ∧ c ≤ 1000000 ∧ formA none e = true := by
  induction l generalizing p with
  | nil =>
    simp only [app, formA, Bool.and_eq_true, decide_eq_true_eq] at h
    exact ⟨h.1.1.1.1, h.1.1.1.2, h.1.1.2⟩
  | cons x d m _ ih =>
    simp only [app, formA, Bool.and_eq_true] at h
    exact ih h.2
theorem falls_app {p : Option T} {l x : T} (h : falls p (app l x)) : falls p l := by
  induction l generalizing p with
  | nil => cases p <;> trivial
  | cons y d m _ ih => exact ⟨h.1, ih h.2⟩
theorem falls_gt {x l e : T} {c : Int} (h : falls (some x) (app l (cons e c nil))) : 0 < cmpT x e := by
  induction l generalizing x with
  | nil => exact h.1 x rfl
  | cons y d m _ ih => exact cmp_lt_of (h.1 x rfl) (by have := ih h.2; rcases cmpT_range y e with q | q | q <;> omega)
theorem goP_end {l e m : T} {c d : Int} {p : Option T} (h : falls p (app l (cons e c nil))) : goP l e d m = app l (cons e d m) := by
  induction l generalizing p with
  | nil => rfl
  | cons y g r _ ih =>
    have := falls_gt h.2
    have r1 := cmpT_range y e
    simp only [goP, app]
    rw [if_pos (by omega), ih h.2]
theorem falls_bef {p : Option T} {l e : T} {c d : Int} (h : falls p (app l (cons e c nil))) : falls p (app l (cons e d nil)) := by
  induction l generalizing p with
  | nil => exact ⟨h.1, trivial⟩
  | cons y g r _ ih => exact ⟨h.1, ih h.2⟩
theorem app_nil (a : T) : app a nil = a := by
  induction a with
  | nil => rfl
  | cons e c l _ ih => simp only [app, ih]
theorem befT_falls {p : Option T} {a : T} (h : falls p a) : falls p (befT a) := by
  rcases T.snoc a with rfl | ⟨l, e, c, rfl⟩
  · exact h
  · rw [befT_snoc]
    split
    · exact falls_bef h
    · rw [app_nil]; exact falls_app h
theorem befT_size (a : T) : (befT a).size ≤ a.size := by
  rcases T.snoc a with rfl | ⟨l, e, c, rfl⟩
  · simp [befT]
  · rw [befT_snoc]
    split <;> simp [size_app, size]
theorem befT_sm {B : Int} {a : T} (h : sm B a) (hB : B ≤ 1000000000000) : sm B (befT a) := by
  rcases T.snoc a with rfl | ⟨l, e, c, rfl⟩
  · exact h
  · rw [befT_snoc]
    obtain ⟨h1, h2, h3, _⟩ := sm_app.1 h
    split
    · refine sm_app.2 ⟨h1, h2, ?_, trivial⟩
      rw [show w (c - 1) = c - 1 from wid (by omega) (by omega)]; omega
    · exact sm_app.2 ⟨h1, trivial⟩
theorem lastE_size {a : T} (h : a ≠ nil) : (lastE a).size + 1 ≤ a.size := by
  rcases T.snoc a with rfl | ⟨l, e, c, rfl⟩
  · exact absurd rfl h
  · rw [lastE_snoc, size_app]; simp only [size]; omega
/-! ### the program's own -/
def zer (t : T) : Bool := match t with
  | nil => true
  | cons _ _ _ => false
theorem isZ (t : T) : impl_isZero t.rows = some (zer t) := by rw [impl_isZero_eq]; cases t <;> rfl
theorem odZ (t : T) : spec_odZero t.rows = some (zer t) := by
  unfold spec_odZero
  cases t with
  | nil => rfl
  | cons e c l =>
    rw [if_neg (by rw [lenI]; simp only [len]; omega)]; rfl
theorem snocLen (l e : T) (c : Int) : (app l (cons e c nil)).len = l.len + 1 := by rw [len_app]; rfl
theorem lastI {l e : T} {c : Int} (h : l.len ≤ cap) : IntKind.i64.wrap (((app l (cons e c nil)).rows.length : Int) - 1) = (l.len : Int) := by
  have h3 : cap = 1099511627776 := rfl
  rw [lenI, snocLen, wid (by omega) (by omega)]; omega
theorem takeS (l e : T) (c : Int) : (app l (cons e c nil)).rows.take (l.len : Int).toNat = l.rows := by
  rw [Int.toNat_natCast, rows_app, ← rows_len l]; exact List.take_left
theorem nilI : IntKind.i64.wrap (((nil : T).rows.length : Int) - 1) = -1 := by rw [lenI]; simp only [len]; exact wid (by omega) (by omega)
theorem parted_snoc {l e : T} {c : Int} (h : l.len ≤ cap) : impl_parted (app l (cons e c nil)).rows = some (cond (zer e) (l.rows, c) ((app l (cons e c nil)).rows, 0)) := by
  unfold impl_parted
  rw [lastI h, if_pos (by omega), row_T rfl (snoc_last l e c), isZ, Option.bind_some]
  cases zer e with
  | false => rfl
  | true => rw [if_pos rfl, if_pos ⟨by omega, by rw [lenI, snocLen]; omega, rowsWide _⟩, takeS]; rfl
theorem finite_snoc {l e : T} {c : Int} (h : l.len ≤ cap) : spec_odFinite (app l (cons e c nil)).rows = some (cond (zer e) (c, l.rows) (0, (app l (cons e c nil)).rows)) := by
  unfold spec_odFinite
  rw [lastI h, if_pos (by omega), row_T rfl (snoc_last l e c), odZ, Option.bind_some]
  cases zer e with
  | false => rfl
  | true => rw [if_pos rfl, if_pos ⟨by omega, by rw [lenI, snocLen]; omega, rowsWide _⟩, takeS]; rfl
theorem zer_snoc (l e : T) (c : Int) : zer (app l (cons e c nil)) = false := by cases l <;> rfl
theorem power_eq (e : T) (n : Int) : impl_power e.rows n = some (powT e n).rows := by
  unfold impl_power powT
  by_cases h : n = 0
  · rw [if_pos h, if_pos h]; rfl
  · rw [if_neg h, if_neg h]; rfl
theorem odTerm_eq (e : T) (n : Int) : spec_odTerm e.rows n = some (powT e n).rows := by
  unfold spec_odTerm powT
  by_cases h : n = 0
  · rw [if_pos h, if_pos h]; rfl
  · rw [if_neg h, if_neg h]; rfl
theorem powT_size (e : T) (n : Int) : (powT e n).size ≤ e.size + 1 := by unfold powT; split <;> simp [size]
theorem powT_falls (e : T) (n : Int) : falls none (powT e n) := by
  unfold powT; split
  · trivial
  · exact ⟨fun q hq => (by cases hq), trivial⟩
theorem powT_sm {B : Int} {e : T} {n : Int} (h : sm B e) (hn : -B ≤ n ∧ n ≤ B) : sm B (powT e n) := by
  unfold powT; split
  · trivial
  · exact ⟨h, hn, trivial⟩

/-! ### elements of fundamental sequences -/
theorem fund_size : ∀ (k : Nat) (n : Int) (a : T), (fund k n a).size ≤ (a.size + 1) * (a.size + 1)
  | 0, _, _ => Nat.zero_le _
  | k + 1, n, a => by
    have h1 := befT_size a
    by_cases hz : a = nil
    · subst hz
      have : (fund (k + 1) n nil).size ≤ 1 := by
        simp only [fund, limT, lastE, cond, befT]
        have := plusT_size nil (powT nil n)
        have := powT_size nil n
        simp only [size] at *; omega
      simpa [size] using this
    · have h2 := lastE_size hz
      have e : (a.size + 1) * (a.size + 1) = a.size * a.size + 2 * a.size + 1 := by rw [Nat.add_mul, Nat.mul_add]; omega
      rw [e]
      simp only [fund]
      generalize lastE a = x at *
      have m : (x.size + 1) * (x.size + 1) ≤ a.size * a.size := Nat.mul_le_mul h2 h2
      have ih := fund_size k n x
      have b := befT_size x
      cases limT x with
      | true =>
        simp only [cond]
        have := plusT_size (befT a) (powT (fund k n x) 1)
        have := powT_size (fund k n x) 1
        omega
      | false =>
        simp only [cond]
        have := plusT_size (befT a) (powT (befT x) n)
        have := powT_size (befT x) n
        omega
theorem fund_sm (n : Int) (hn : 0 ≤ n ∧ n ≤ 1000) : ∀ (k : Nat) (a : T), sm 1000000 a → a.size ≤ 100 → sm (1000000 * ((a.size : Int) + 1)) (fund k n a)
  | 0, _, _, _ => trivial
  | k + 1, a, ha, hs => by
    have hb := befT_sm ha (by omega)
    by_cases hz : a = nil
    · subst hz
      simp only [fund, limT, lastE, cond, befT]
      have : sm 1000000 (powT (nil : T) n) := powT_sm trivial (by omega)
      have := plusT_sm (a := nil) (B := 0) trivial this (by omega)
      exact sm_mono this (by simp [size])
    · have h2 := lastE_size hz
      have hx : sm 1000000 (lastE a) := by
        rcases T.snoc a with rfl | ⟨l, e, c, rfl⟩
        · exact absurd rfl hz
        · rw [lastE_snoc]; exact (sm_app.1 ha).2.1
      simp only [fund]
      generalize lastE a = x at *
      have ih := fund_sm n hn k x hx (by omega)
      have b := befT_sm hx (by omega)
      cases limT x with
      | true =>
        simp only [cond]
        exact sm_mono (plusT_sm hb (powT_sm (n := 1) ih (by omega)) (by omega)) (by omega)
      | false =>
        simp only [cond]
        exact sm_mono (plusT_sm hb (powT_sm (B := 1000000) (n := n) b (by omega)) (by omega)) (by omega)
theorem lim_ne {a : T} (h : limT a = true) : a ≠ nil ∧ lastE a ≠ nil := by
  unfold limT at h
  refine ⟨?_, ?_⟩
  · rintro rfl; cases h
  · intro e; rw [e] at h; cases h
theorem form_lastE {a : T} (h : formA none a = true) : formA none (lastE a) = true := by
  rcases T.snoc a with rfl | ⟨l, e, c, rfl⟩
  · rfl
  · rw [lastE_snoc]; exact (form_snoc h).2.2
end Go.Proofs.Try

namespace Go.Proofs.Try
open Go Go.AX T
/-! ### the part that is a limit, and what is left -/
def limB : T → T
  | nil => nil
  | cons nil _ _ => nil
  | cons (cons x y z) c l => cons (cons x y z) c (limB l)
def finB : T → Int
  | nil => 0
  | cons nil c _ => c
  | cons (cons _ _ _) _ l => finB l
def nzE : T → Prop
  | nil => True
  | cons e _ l => e ≠ nil ∧ nzE l
theorem lim_nz : ∀ b : T, nzE (limB b)
  | nil => trivial
  | cons nil _ _ => trivial
  | cons (cons x y z) c l => ⟨by simp, lim_nz l⟩
theorem lim_parts : ∀ (b : T) (p : Option T), falls p b → posT b → deepF b → sm 1000000 b → falls p (limB b) ∧ posT (limB b) ∧ deepF (limB b) ∧ sm 1000000 (limB b) ∧ dp (limB b) ≤ dp b ∧ (limB b).size ≤ b.size ∧ 0 ≤ finB b ∧ finB b ≤ 1000000
  | nil, _, _, _, _, _ => ⟨trivial, trivial, trivial, trivial, Nat.le_refl _, Nat.le_refl _, by simp [finB], by simp [finB]⟩
  | cons nil c l, p, _, hp, _, hs => ⟨trivial, trivial, trivial, trivial, Nat.zero_le _, Nat.zero_le _, by have := hp.1; simp only [finB]; omega, hs.2.1.2⟩
  | cons (cons x y z) c l, p, hf, hp, hd, hs => by
    obtain ⟨h1, h2, h3, h4, h5, h6, h7, h8⟩ := lim_parts l _ hf.2 hp.2 hd.2 hs.2.2
    exact ⟨⟨hf.1, h1⟩, ⟨hp.1, h2⟩, ⟨hd.1, h3⟩, ⟨hs.1, hs.2.1, h4⟩, by simp only [limB, dp]; omega, by simp only [limB, size]; omega, h7, h8⟩
theorem lim_ord {b : T} (h : ordP b = true) : ordP (limB b) = true ∧ 0 ≤ finB b ∧ finB b ≤ 1000000 := by
  obtain ⟨⟨fb, pb, db⟩, sb, h3, h4⟩ := ordP_parts h
  obtain ⟨h1, h2, h5, h6, h7, h8, h9⟩ := lim_parts b none fb pb db sb
  exact ⟨ordP_of h1 h2 h5 h6 (by omega) (by omega), h9⟩
theorem lim_app {e : T} {c : Int} : ∀ (l : T) (p : Option T), falls p (app l (cons e c nil)) → (e = nil → limB (app l (cons e c nil)) = l ∧ finB (app l (cons e c nil)) = c) ∧ (e ≠ nil → limB (app l (cons e c nil)) = app l (cons e c nil) ∧ finB (app l (cons e c nil)) = 0)
  | nil, p, _ => by
    refine ⟨fun h => by subst h; exact ⟨rfl, rfl⟩, fun h => ?_⟩
    cases e with
    | nil => exact absurd rfl h
    | cons x y z => exact ⟨rfl, rfl⟩
  | cons f d m, p, h => by
    obtain ⟨h1, h2⟩ := lim_app m _ h.2
    have h3 := falls_gt h.2
    cases f with
    | nil => exfalso; cases e <;> simp [cmpT] at h3
    | cons x y z =>
      exact ⟨fun q => ⟨by simp only [app, limB]; rw [(h1 q).1], (h1 q).2⟩, fun q => ⟨by simp only [app, limB]; rw [(h2 q).1], (h2 q).2⟩⟩
theorem iparted_eq {b : T} (h : ordP b = true) : impl_parted b.rows = some ((limB b).rows, finB b) := by
  have hz := ordP_size h
  have h3 : cap = 1099511627776 := rfl
  rcases T.snoc b with rfl | ⟨l, e, c, rfl⟩
  · rfl
  · have hl := l.len_size
    rw [size_app] at hz
    rw [parted_snoc (by omega)]
    obtain ⟨h1, h2⟩ := lim_app l none (form_falls (ordP_form h))
    cases e with
    | nil => rw [(h1 rfl).1, (h1 rfl).2]; rfl
    | cons x y z => rw [(h2 (by simp)).1, (h2 (by simp)).2]; rfl
theorem sfinite_eq {b : T} (h : ordP b = true) : spec_odFinite b.rows = some (finB b, (limB b).rows) := by
  have hz := ordP_size h
  have h3 : cap = 1099511627776 := rfl
  rcases T.snoc b with rfl | ⟨l, e, c, rfl⟩
  · rfl
  · have hl := l.len_size
    rw [size_app] at hz
    rw [finite_snoc (by omega)]
    obtain ⟨h1, h2⟩ := lim_app l none (form_falls (ordP_form h))
    cases e with
    | nil => rw [(h1 rfl).1, (h1 rfl).2]; rfl
    | cons x y z => rw [(h2 (by simp)).1, (h2 (by simp)).2]; rfl
/-! ### a limit divided by w -/
def oneT : T := cons nil 1 nil
def wT : T := cons oneT 1 nil
def decT : T → T
  | nil => nil
  | cons e c l => cons (lessT e oneT) c (decT l)
theorem ge_one {s : T} (hs : s ≠ nil) (ps : posT s) : 0 ≤ cmpT s oneT := by
  cases s with
  | nil => exact absurd rfl hs
  | cons e c l =>
    have := ps.1
    simp only [oneT, cmpT]
    cases e with
    | cons x y z => simp [cmpT]
    | nil =>
      simp only [cmpT, if_true]
      split
      · cases l <;> simp [cmpT]
      · unfold cmpI; split <;> (try split) <;> omega
theorem one_rt : okT 1000000 1 oneT := ⟨⟨fun _ h => (by cases h), trivial⟩, ⟨by omega, trivial⟩, ⟨trivial, by omega, trivial⟩, by simp [oneT, size]⟩
theorem one_less {s : T} (hs : s ≠ nil) (fs : falls none s) (ps : posT s) (ss : sm 1000000 s) : plusT oneT (lessT s oneT) = s :=
  plus_less fs one_rt.1 ps one_rt.2.1 (sm_mono ss (by omega)) (sm_mono one_rt.2.2.1 (by omega)) (ge_one hs ps)
theorem less_cmp {s t : T} (hs : s ≠ nil) (fs : falls none s) (ps : posT s) (ss : sm 1000000 s) (ht : t ≠ nil) (ft : falls none t) (pt : posT t) (st : sm 1000000 t) : cmpT (lessT s oneT) (lessT t oneT) = cmpT s t := by
  obtain ⟨_, g2, g3⟩ := less_parts (B := 1000000) (by omega) fs ps one_rt.2.1 ss (ge_one hs ps)
  obtain ⟨_, k2, k3⟩ := less_parts (B := 1000000) (by omega) ft pt one_rt.2.1 st (ge_one ht pt)
  have := plusT_cmp (a := oneT) one_rt.1 (sm_mono one_rt.2.2.1 (by omega)) g2 k2 (sm_mono g3 (by omega)) (sm_mono k3 (by omega))
  rw [one_less hs fs ps ss, one_less ht ft pt st] at this
  exact this.symm
/-- What right exponents above nothing make. -/
theorem dec_parts : ∀ (b : T) (p : Option T), (∀ q, p = some q → q ≠ nil ∧ falls none q ∧ posT q ∧ sm 1000000 q) → nzE b → falls p b → posT b → deepF b → sm 1000000 b → falls (p.map fun q => lessT q oneT) (decT b) ∧ posT (decT b) ∧ exOk 1000000 (decT b) ∧ sm 1000000 (decT b) ∧ (decT b).size ≤ b.size
  | nil, _, _, _, _, _, _, _ => ⟨trivial, trivial, trivial, trivial, Nat.le_refl _⟩
  | cons e c l, p, hp, hn, hf, hb, hd, hs => by
    obtain ⟨h1, h2, h3, h4, h5⟩ := dec_parts l (some e) (fun q hq => by cases hq; exact ⟨hn.1, hd.1.1, hd.1.2.1, hs.1⟩) hn.2 hf.2 hb.2 hd.2 hs.2.2
    have g := less_parts (B := 1000000) (by omega) hd.1.1 hd.1.2.1 one_rt.2.1 hs.1 (ge_one hn.1 hd.1.2.1)
    have z := lessT_size e oneT
    refine ⟨⟨fun r hr => ?_, h1⟩, ⟨hb.1, h2⟩, ⟨g, h3⟩, ⟨g.2.2, hs.2.1, h4⟩, by simp only [decT, size]; omega⟩
    cases p with
    | none => cases hr
    | some q =>
      obtain ⟨q1, q2, q3, q4⟩ := hp q rfl
      obtain rfl : lessT q oneT = r := Option.some.inj hr
      rw [less_cmp q1 q2 q3 q4 hn.1 hd.1.1 hd.1.2.1 hs.1]
      exact hf.1 q rfl
theorem falls_mid {x r : T} {c : Int} : ∀ {q y : T}, falls (some y) (app q (cons x c r)) → 0 < cmpT y x
  | nil, y, h => h.1 y rfl
  | cons f d m, y, h => cmp_lt_of (h.1 y rfl) (by have := falls_mid h.2; rcases cmpT_range f x with q | q | q <;> omega)
theorem goP_mid {x r m : T} {c : Int} : ∀ {q : T} {p : Option T}, falls p (app q (cons x c r)) → goP q x c m = app q (cons x c m)
  | nil, _, _ => rfl
  | cons f d l, p, h => by
    have h1 := falls_mid h.2
    have h2 := cmpT_range f x
    simp only [goP, app]
    rw [if_pos (by omega), goP_mid h.2]
theorem one_size : oneT.size = 1 := rfl
theorem w_size : wT.size = 2 := rfl
theorem w_ord : ordP wT = true := by decide
theorem one_ord : ordP oneT = true := by decide
theorem over_step {k n : Nat} {s l q : T} {c : Int} {K : Rw → Rw → Option (Rw × Rw)} (ha : rt 1000000 30 (cons s c l)) (hn : nzE (cons s c l)) (fq : falls none q) (sq : sm 1000000 q) (zq : q.size ≤ 4000) (hk : 10000 < k) (hc : k ≤ cap) :
    spec_odOver_l0 k wT.rows K (n + 1) (cons s c l).rows q.rows = spec_odOver_l0 k wT.rows K n l.rows (plusT q (cons (lessT s oneT) c nil)).rows := by
  have h3 : cap = 1099511627776 := rfl
  obtain ⟨⟨fa, pa, sa, za⟩, ea⟩ := ha
  have c1 := pa.1
  have c2 := sa.2.1
  have hs := hn.1
  have ps := ea.1.2.1
  have fs := ea.1.1
  have ss := ea.1.2.2
  have zs : s.size ≤ 30 := by simp only [size] at za; omega
  have calmA : calm (cons s c l) := sm_calm sa (by omega)
  have calmW : calm wT := sm_calm (form_sm (ordP_form w_ord)) (by omega)
  have hge := ge_one hs ps
  have g := less_parts (B := 1000000) (by omega) fs ps one_rt.2.1 ss hge
  have zl := lessT_size s oneT
  have hw : 0 ≤ cmpT (cons s c l) wT := by
    simp only [wT, cmpT]
    split
    · split
      · cases l <;> simp [cmpT]
      · unfold cmpI; split <;> (try split) <;> omega
    · exact hge
  have j1 := odCmp_eq k (cons s c l) wT calmA calmW (by omega) (by omega)
  have rA := row_T (α := Rw × Rw) (t := cons s c l) (i := 0) (n := 0) rfl rfl
  have rB := row_T (α := Rw × Rw) (t := wT) (i := 0) (n := 0) rfl rfl
  have m2 := odLess_eq k s oneT (by omega) (by omega) calmA.1 (sm_calm one_rt.2.2.1 (by omega)) hge
  have j2 := odCmp_eq k s oneT calmA.1 (sm_calm one_rt.2.2.1 (by omega)) (by omega) (by omega)
  have nx : rt 1000000 31 (cons (lessT s oneT) c nil) := ⟨⟨⟨fun _ h => (by cases h), trivial⟩, ⟨c1, trivial⟩, ⟨g.2.2, c2, trivial⟩, by simp only [size]; omega⟩, ⟨g, trivial⟩⟩
  obtain ⟨_, t2, t3⟩ := times_both (k := k) (b := wT) (x := cons (lessT s oneT) c nil) (ordP_rt w_ord) nx hk hc
  have ht : timesT wT (cons (lessT s oneT) c nil) = cons s c nil := by
    have hp := one_less hs fs ps ss
    show tmG oneT 1 nil (cons (lessT s oneT) c nil) = _
    cases hx : lessT s oneT with
    | nil =>
      rw [hx] at hp
      simp only [tmG, T.app_nil]
      rw [Int.one_mul, show w c = c from wid (by omega) (by omega), ← hp]; rfl
    | cons x y z => rw [hx] at hp; simp only [tmG]; rw [hp]
  rw [ht] at t2
  have p2 := odPlus_eq (B := 1000000) (C := 1000000) k q (cons (lessT s oneT) c nil) (by simp only [size]; omega) (by simp only [size]; omega) sq nx.1.2.2.1 (by omega) (by omega) (by simp only [len]; omega)
  rw [splus_plus fq nx.1.1] at p2
  have hlt : lessT (cons s c l) (cons s c nil) = l := by simp only [lessT, cmpT_refl, if_true, lessT_nil]
  have hge2 : 0 ≤ cmpT (cons s c l) (cons s c nil) := by rw [cmp_sameE, cmpI_refl, if_pos rfl]; cases l <;> simp [cmpT]
  have l2 := odLess_eq k (cons s c l) (cons s c nil) (by omega) (by omega) calmA ⟨calmA.1, calmA.2.1, trivial⟩ hge2
  rw [hlt] at l2
  rw [spec_odOver_l0, j1, Option.bind_some, if_pos hw]
  simp only [rA, rB]
  rw [m2, Option.bind_some, sTerm_eq, Option.bind_some, j2, Option.bind_some]
  have pw : pwT (lessT s oneT) c = cons (lessT s oneT) c nil := by unfold pwT; rw [if_neg (by omega)]
  by_cases q0 : cmpT s oneT = 0
  · obtain rfl := cmpT_eq.1 q0
    have hl : l = nil := by
      cases l with
      | nil => rfl
      | cons e d m =>
        exfalso
        have h1 := fa.2.1 oneT rfl
        have h2 := ge_one hn.2.1 ea.2.1.2.1
        have := cmpT_neg oneT e
        omega
    subst hl
    have e0 : lessT oneT oneT = nil := lessT_same oneT
    have e1 : IntKind.i64.wrap (c.tdiv 1) = c := by rw [Int.tdiv_one]; exact wid (by omega) (by omega)
    have e2 : (pwT nil c) = cons nil c nil := by unfold pwT; rw [if_neg (by omega)]
    rw [e0] at t2 p2
    have j3 := odCmp_eq k (cons oneT c nil) (cons oneT c nil) ⟨calmA.1, calmA.2.1, trivial⟩ ⟨calmA.1, calmA.2.1, trivial⟩ (by simp only [size, one_size]; omega) (by simp only [size, one_size]; omega)
    rw [if_pos q0, if_pos (by omega), e1, sInt_eq, Option.bind_some, e2, t2, Option.bind_some, j3, Option.bind_some, cmpT_refl, if_neg (by omega)]
    rw [Option.bind_some, p2, Option.bind_some, t2, Option.bind_some, l2, Option.bind_some, e0]
  · rw [if_neg q0, pw, p2, Option.bind_some, t2, Option.bind_some, l2, Option.bind_some]
theorem over_loop {k : Nat} {K : Rw → Rw → Option (Rw × Rw)} (hk : 10000 < k) (hc : k ≤ cap) : ∀ (l q : T) (n : Nat), l.len < n → rt 1000000 30 l → nzE l → falls none (app q (decT l)) → sm 1000000 q → q.size + l.size ≤ 100 →
    spec_odOver_l0 k wT.rows K n l.rows q.rows = K nil.rows (app q (decT l)).rows
  | _, _, 0, h, _, _, _, _, _ => absurd h (Nat.not_lt_zero _)
  | nil, q, n + 1, h, _, _, _, _, _ => by
    have h3 : cap = 1099511627776 := rfl
    have j1 := odCmp_eq k nil wT trivial (sm_calm (form_sm (ordP_form w_ord)) (by omega)) (by simp only [size]; omega) (by simp only [size]; omega)
    rw [spec_odOver_l0, j1, Option.bind_some, if_neg (by simp [wT, cmpT])]
    simp only [decT, T.app_nil]
  | cons s c l, q, n + 1, h, ra, hn, fq, sq, hz => by
    have fq0 := falls_app1 fq
    have z := lessT_size s oneT
    simp only [len] at h
    simp only [size] at hz
    rw [over_step ra hn fq0 sq (by omega) hk hc]
    have e1 : plusT q (cons (lessT s oneT) c nil) = app q (cons (lessT s oneT) c nil) := goP_mid fq
    have ss := less_parts (B := 1000000) (by omega) ra.2.1.1 ra.2.1.2.1 one_rt.2.1 ra.2.1.2.2 (ge_one hn.1 ra.2.1.2.1)
    have fl : falls none l := falls_none ra.1.1.2
    rw [e1, over_loop hk hc l (app q (cons (lessT s oneT) c nil)) n (by omega) ⟨⟨fl, ra.1.2.1.2, ra.1.2.2.1.2.2, by have := ra.1.2.2.2; simp only [size] at this; omega⟩, ra.2.2⟩ hn.2 (by rw [app_assoc]; exact fq) (sm_app.2 ⟨sq, ss.2.2, ra.1.2.2.1.2.1, trivial⟩) (by rw [size_app]; simp only [size]; omega), app_assoc]
    rfl
theorem over_eq {k : Nat} {l : T} (hl : ordP l = true) (hn : nzE l) (hk : 10000 < k) (hc : k ≤ cap) : spec_odOver k l.rows wT.rows = some ((decT l).rows, nil.rows) := by
  obtain ⟨⟨fb, pb, db⟩, sb, h3, h4⟩ := ordP_parts hl
  have := l.len_size
  obtain ⟨d1, _⟩ := dec_parts l none (fun q h => by cases h) hn fb pb db sb
  have := over_loop (K := fun v251 v252 => spec_odOver_p3 v251 v252) hk hc l nil k (by omega) (ordP_rt hl) hn d1 trivial (by simp only [size]; omega)
  exact this
/-! ### powers of finite ones -/
theorem finite_both {k : Nat} {d : Int} (hd : 2 ≤ d ∧ d ≤ 1000000) (hk : 10000 < k) (hc : k ≤ cap) : ∀ (m f f' : Nat) (v : Int), 1 ≤ v ∧ v ≤ 1000000 → m < f → m < f' → m ≤ 1000000 →
    ∃ u : Int, 1 ≤ u ∧ u ≤ 1000000000000 ∧ impl_finitePower_l0 d (fun v8 => some v8) f m v = some u ∧ spec_odRepeat_l0 k (cons nil d nil).rows (fun v19 => some (v19, true)) f' m (cons nil v nil).rows = (if u ≤ 1000000 then some ((cons nil u nil).rows, true) else some ([], false)) ∧ (u ≤ 1000000 → u = v * d ^ m) ∧ (1000000 < u → 1000000 < v * d ^ m)
  | _, 0, _, _, _, h, _, _ => absurd h (Nat.not_lt_zero _)
  | _, _, 0, _, _, _, h, _ => absurd h (Nat.not_lt_zero _)
  | 0, f + 1, f' + 1, v, hv, _, _, _ => by
    refine ⟨v, hv.1, by omega, ?_, ?_, fun _ => by simp, fun h => by omega⟩
    · rw [impl_finitePower_l0, if_neg (by omega)]
    · rw [spec_odRepeat_l0, if_neg (by omega), if_pos hv.2]
  | m + 1, f + 1, f' + 1, v, hv, hf, hf', hm => by
    have h3 : cap = 1099511627776 := rfl
    have hmul := mul_in (B := 1000000) (C := 1000000) (show 0 ≤ v ∧ v ≤ 1000000 by omega) (show 0 ≤ d ∧ d ≤ 1000000 by omega)
    have hge : v * 1 ≤ v * d := Int.mul_le_mul_of_nonneg_left (by omega) (by omega)
    have wv : IntKind.i64.wrap (v * d) = v * d := wid (by omega) (by omega)
    have wm : IntKind.i64.wrap (((m + 1 : Nat) : Int) - 1) = (m : Int) := by rw [wid (by omega) (by omega)]; omega
    have r1 : ∀ x : Int, 1 ≤ x ∧ x ≤ 1000000 → rt 1000000 30 (cons nil x nil) := fun x hx => ⟨⟨⟨fun _ h => (by cases h), trivial⟩, ⟨hx.1, trivial⟩, ⟨trivial, by omega, trivial⟩, by simp [size]⟩, ⟨⟨trivial, trivial, trivial⟩, trivial⟩⟩
    obtain ⟨_, t2, _⟩ := times_both (k := k) (r1 v hv) (x := cons nil d nil) ⟨okT_mono (r1 d (by omega)).1 (by omega) (by omega), (r1 d (by omega)).2⟩ hk hc
    have ht : timesT (cons nil v nil) (cons nil d nil) = cons nil (v * d) nil := by
      show tmG nil v nil (cons nil d nil) = _
      simp only [tmG, T.app_nil]
      rw [show w (v * d) = v * d from wv]
    have e1 : v * d ^ (m + 1) = v * d * d ^ m := by rw [Int.pow_succ, Int.mul_comm (d ^ m) d, Int.mul_assoc]
    rw [ht] at t2
    rw [impl_finitePower_l0, if_pos (by omega), if_pos hv.2, wm, wv, spec_odRepeat_l0, if_pos (by omega), t2, Option.bind_some, odGood_all k _ (by simp only [size]; omega) (by simp only [size]; omega), Option.bind_some, wm, e1]
    by_cases g : v * d ≤ 1000000
    · have og : ordP (cons nil (v * d) nil) = true := by
        refine ordP_of ⟨fun _ h => (by cases h), trivial⟩ ⟨by omega, trivial⟩ ⟨⟨trivial, trivial, trivial⟩, trivial⟩ ⟨trivial, by omega, trivial⟩ (by simp [dp]) (by simp [size])
      rw [if_pos og]
      exact finite_both hd hk hc m f f' (v * d) (by omega) (by omega) (by omega) (by omega)
    · have og : ordP (cons nil (v * d) nil) = false := by
        cases h : ordP (cons nil (v * d) nil) with
        | false => rfl
        | true => have := (ordP_parts h).2.1.2.1; omega
      have hp : (1 : Int) ≤ d ^ m := Int.pow_pos (by omega)
      have hpm : v * d * 1 ≤ v * d * d ^ m := Int.mul_le_mul_of_nonneg_left hp (by omega)
      refine ⟨v * d, by omega, by omega, ?_, ?_, fun h => by omega, fun _ => by omega⟩
      · cases f with
        | zero => omega
        | succ f =>
          simp only [impl_finitePower_l0, if_neg g]
          split <;> rfl
      · rw [og, if_neg (by simp), if_neg g]
end Go.Proofs.Try

namespace Go.Proofs.Try
open Go Go.AX T
theorem told_lift {t : T} (h : ordP t = true) : toldT t = (t, true) := by unfold toldT; rw [if_pos h]
theorem told_none {t : T} (h : ¬ ordP t = true) : toldT t = (nil, false) := by unfold toldT; rw [if_neg h]
theorem qT_down {a1 a' : T} {d1 : Int} (ha : ordP (cons a1 d1 a') = true) (hz : a1 ≠ nil) {N : Nat} (hN : N ≤ 41) (h : ordP (qT (cons a1 d1 a') oneT N) = true) : ∀ (m j : Nat), j + m = N → ordP (qT (cons a1 d1 a') oneT j) = true
  | 0, j, e => by have : j = N := by omega
                  rw [this]; exact h
  | m + 1, j, e => qT_right ha hz (by omega) (qT_down ha hz hN h m (j + 1) (by omega))
theorem repeat_eq {k : Nat} {a1 a' : T} {d1 : Int} (ha : ordP (cons a1 d1 a') = true) (hz : a1 ≠ nil) {N : Nat} (hN : N ≤ 40) (hk : 10000 < k) (hc : k ≤ cap) : ∀ (m j f : Nat), j + m = N → m < f → ordP (qT (cons a1 d1 a') oneT j) = true →
    spec_odRepeat_l0 k (cons a1 d1 a').rows (fun v19 => some (v19, true)) f m (qT (cons a1 d1 a') oneT j).rows = some ((toldT (qT (cons a1 d1 a') oneT N)).1.rows, (toldT (qT (cons a1 d1 a') oneT N)).2)
  | _, _, 0, _, h, _ => absurd h (Nat.not_lt_zero _)
  | 0, j, f + 1, e, _, oj => by
    have : j = N := by omega
    subst this
    rw [told_lift oj, spec_odRepeat_l0, if_neg (by omega)]
  | m + 1, j, f + 1, e, hf, oj => by
    have h3 : cap = 1099511627776 := rfl
    have ra := ordP_rt ha
    obtain ⟨_, t2, t3⟩ := times_both (k := k) (ordP_rt oj) ⟨okT_mono ra.1 (by omega) (by omega), ra.2⟩ hk hc
    have wm : IntKind.i64.wrap (((m + 1 : Nat) : Int) - 1) = (m : Int) := by rw [wid (by omega) (by omega)]; omega
    have z := t3.2.2.2
    rw [spec_odRepeat_l0, if_pos (by omega), t2, Option.bind_some, odGood_all k _ (by omega) (by omega), Option.bind_some, wm]
    have e1 : timesT (qT (cons a1 d1 a') oneT j) (cons a1 d1 a') = qT (cons a1 d1 a') oneT (j + 1) := rfl
    rw [e1]
    by_cases g : ordP (qT (cons a1 d1 a') oneT (j + 1)) = true
    · rw [if_pos g]
      exact repeat_eq ha hz hN hk hc m (j + 1) f (by omega) (by omega) g
    · rw [if_neg g, told_none fun h => g (qT_down ha hz (by omega) h m (j + 1) (by omega))]; rfl
theorem powloop_eq {k : Nat} {a1 a' e : T} {d1 : Int} (ha : ordP (cons a1 d1 a') = true) (hz : a1 ≠ nil) (he : qInv 0 (cons e 1 nil)) {N : Nat} (hN : N ≤ 40) (hk : 5000000 < k) {K : Rw → Option (Rw × Bool)} : ∀ (m j f : Nat), j + m = N → m < f →
    impl_PowerOfOrdinals_l0 k (cons a1 d1 a').rows N K f j (qT (cons a1 d1 a') (cons e 1 nil) j).rows = K (qT (cons a1 d1 a') (cons e 1 nil) N).rows
  | _, _, 0, _, h => absurd h (Nat.not_lt_zero _)
  | 0, j, f + 1, hj, _ => by
    have : j = N := by omega
    subst this
    rw [impl_PowerOfOrdinals_l0, if_neg (by omega)]
  | m + 1, j, f + 1, hj, hf => by
    have h3 : cap = 1099511627776 := rfl
    have za := ordP_size ha
    obtain ⟨_, _, _, _, _, z1⟩ := qInv_parts (qInv_all ha hz he j (by omega)) (by omega)
    obtain ⟨_, _, _, _, _, z2⟩ := qInv_parts (qInv_all ha hz he (j + 1) (by omega)) (by omega)
    have wj : IntKind.i64.wrap ((j : Int) + 1) = ((j + 1 : Nat) : Int) := by rw [wid (by omega) (by omega)]; omega
    have l2 := (qT (cons a1 d1 a') (cons e 1 nil) (j + 1)).len_size
    rw [impl_PowerOfOrdinals_l0, if_pos (by omega), product_eq k _ _ (by omega) (by omega) (by show (qT (cons a1 d1 a') (cons e 1 nil) (j + 1)).len ≤ cap; omega), Option.bind_some, wj]
    exact powloop_eq ha hz he hN hk m (j + 1) f (by omega) (by omega)
/-- The exponent of w: the degree times a limit. -/
theorem exp_ok {p r l : T} {q : Int} (ha : ordP (cons p q r) = true) (hl : ordP l = true) (hn : nzE l) : falls none (tmG p q r l) ∧ posT (tmG p q r l) ∧ deepF (tmG p q r l) ∧ sm 3000000 (tmG p q r l) ∧ (tmG p q r l).size ≤ 1000 := by
  obtain ⟨⟨fa, pa, da⟩, sa, _, za⟩ := ordP_parts ha
  obtain ⟨⟨fl, pl, dl⟩, sl, _, zl⟩ := ordP_parts hl
  simp only [size] at za
  have s9 : sm 1000000000 p := sm_mono sa.1 (by omega)
  refine ⟨?_, ?_, ?_, ?_, ?_⟩
  · exact tmG_falls (c1 := q) da.1.1 s9 fa.2 l none (fun r h => by cases h) fl (exOk_mono (exOk_deep dl sl) (by omega))
  · exact tmG_pos (B := 1000000) (C := 1000000) ⟨pa.1, sa.2.1.2⟩ pa.2 (by omega) l sl pl
  · exact tmG_deep da.1 s9 da.2 l dl (sm_mono sl (by omega))
  · have key : ∀ b : T, nzE b → sm 1000000 b → sm 3000000 (tmG p q r b) := by
      intro b
      induction b with
      | nil => intros; trivial
      | cons e c m _ ih =>
        intro hn hs
        cases e with
        | nil => exact absurd rfl hn.1
        | cons x y z =>
          exact ⟨sm_mono (plusT_sm sa.1 hs.1 ⟨by omega, by omega, by omega⟩) (by omega), by have := hs.2.1; omega, ih hn.2 hs.2.2⟩
    exact key l hn sl
  · have h1 := tm_size2 (a1 := p) (a' := r) (c1 := q) l none fl
    have h2 : l.size * (p.size + 1) ≤ 29 * 30 := Nat.mul_le_mul zl (by omega)
    omega
/-- The reference's last product. -/
theorem odTimes_pw {k : Nat} {e b : T} (fe : falls none e) (se : sm 3000000 e) (ze : e.size ≤ 1000) (hb : ordP b = true) (hk : 5000000 < k) (hc : k ≤ cap) : spec_odTimes k (cons e 1 nil).rows b.rows = some (tmG e 1 nil b).rows := by
  obtain ⟨⟨fb, pb, db⟩, sb, _, zb⟩ := ordP_parts hb
  have h3 : cap = 1099511627776 := rfl
  have hl := b.len_size
  unfold spec_odTimes
  have hz : spec_odZero (cons e 1 nil).rows = some false := by unfold spec_odZero; rw [if_neg (by rw [lenI]; simp only [len]; omega)]
  rw [hz, Option.bind_some, if_neg (by simp)]
  unfold spec_odTimes_p3
  rw [if_pos (by rw [rows_len]; omega)]
  have h2 : b.size * (e.size + nil.size + 2) ≤ 30 * 1002 := Nat.mul_le_mul (by omega) (by simp only [size]; omega)
  exact odTimes_loop (k := k) (b := b.rows) (a1 := e) (a' := nil) (c1 := 1) (C := 1000000) (E := 2000000000) (Z := 40000) (K := fun v => spec_odTimes_p4 v) (sm_mono se (by omega)) fe trivial trivial ⟨by omega, by omega⟩ ⟨by omega, by omega⟩ (by omega) (by simp only [size]; omega) (by simp only [size]; omega) (by simp [size]) (by simp only [size]; omega) b nil (by simp only [size] at h2 ⊢; omega) trivial (exOk_mono (exOk_deep db sb) (by omega)) sb pb fb (by omega) (.inl rfl)
/-- What the power is. -/
def PW (a b r : T) : Prop :=
  (b = nil → r = oneT) ∧ (b ≠ nil → (a = nil → r = nil) ∧ (∀ d a', a = cons nil d a' → (d = 1 → r = oneT) ∧ (d ≠ 1 → d ^ (finB b).toNat ≤ 1000000 ∧ r = cons (decT (limB b)) (d ^ (finB b).toNat) nil)) ∧
    ∀ a1 d a', a1 ≠ nil → a = cons a1 d a' → finB b ≤ 40 ∧ r = qT a (cons (timesT a1 (limB b)) 1 nil) (finB b).toNat)
theorem ofFinite_loop {k : Nat} {d n : Int} {l : Rw} {K : Rw → Option (Rw × Bool)} (hk : 10000 < k) : ∀ (t acc : T), nzE t → exOk 1000000 t → t.size ≤ 30 → acc.len + t.len ≤ 100 →
    impl_ofFinite_l0 k d n l K t.rows acc.rows = K (app acc (decT t)).rows
  | nil, acc, _, _, _, _ => by simp only [decT, T.app_nil]; rfl
  | cons e c m, acc, hn, he, hz, hl => by
    have h3 : cap = 1099511627776 := rfl
    simp only [size] at hz
    simp only [len] at hl
    have hle := less_eq k e oneT (by omega) (by omega) (by rw [one_size]; omega) (ge_one hn.1 he.1.2.1)
    rw [show (cons e c m).rows = [D.sl e.rows, D.int .i64 c] :: m.rows from rfl]
    simp only [impl_ofFinite_l0, cell_T]
    rw [ifinite_eq, Option.bind_some, show (pwT nil 1).rows = oneT.rows from rfl, hle, Option.bind_some, if_pos (by rw [rows_len]; omega)]
    rw [show acc.rows ++ [[D.sl (lessT e oneT).rows, D.int .i64 c]] = (app acc (cons (lessT e oneT) c nil)).rows by rw [rows_app]; rfl]
    rw [ofFinite_loop hk m _ hn.2 he.2 (by omega) (by rw [len_app]; simp only [len]; omega), app_assoc]
    rfl
theorem ofFinite_eq {k : Nat} {d u : Int} {b : T} (hb : ordP b = true) (hu : 1 ≤ u) (hf : impl_finitePower_l0 d (fun v8 => some v8) k (finB b) 1 = some u) (hk : 10000 < k) : impl_ofFinite k d b.rows = some ((cons (decT (limB b)) u nil).rows, decide (u ≤ 1000000)) := by
  have h3 : cap = 1099511627776 := rfl
  obtain ⟨ol, _⟩ := lim_ord hb
  have zl := ordP_size ol
  have ll := (limB b).len_size
  unfold impl_ofFinite
  rw [iparted_eq hb, Option.bind_some]
  unfold impl_ofFinite_p2
  simp only
  rw [if_pos (by rw [rows_len]; omega)]
  have := ofFinite_loop (k := k) (d := d) (n := finB b) (l := (limB b).rows) (K := fun v76 => impl_ofFinite_p4 k d (finB b) v76) hk (limB b) nil (lim_nz b) (ordP_rt ol).2 (by omega) (by simp only [len]; omega)
  refine Eq.trans this ?_
  show impl_ofFinite_p4 k d (finB b) (decT (limB b)).rows = _
  unfold impl_ofFinite_p4 impl_finitePower
  rw [hf, Option.bind_some]
  unfold impl_ofFinite_p5
  rw [ipower_eq, Option.bind_some, show pwT (decT (limB b)) u = cons (decT (limB b)) u nil by unfold pwT; rw [if_neg (by omega)]]
  unfold impl_ofFinite_p6
  by_cases g : u ≤ 1000000
  · rw [if_pos g, decide_eq_true g]; rfl
  · rw [if_neg g, decide_eq_false g]; rfl
theorem cmp_one {a : T} (h : a ≠ oneT) : cmpT a oneT ≠ 0 := fun q => h (cmpT_eq.1 q)
theorem ge_w {a1 a' : T} {d : Int} (h : ordP (cons a1 d a') = true) : (0 ≤ cmpT (cons a1 d a') wT) ↔ a1 ≠ nil := by
  obtain ⟨⟨fa, pa, da⟩, sa, _, za⟩ := ordP_parts h
  have p1 := pa.1
  constructor
  · rintro h1 rfl
    simp [wT, oneT, cmpT] at h1
  · intro hz
    have := ge_one hz da.1.2.1
    simp only [wT, cmpT]
    split
    · split
      · cases a' <;> simp [cmpT]
      · unfold cmpI; split <;> (try split) <;> omega
    · exact this
end Go.Proofs.Try

namespace Go.Proofs.Try
open Go Go.AX T
theorem zerF {e l : T} {c : Int} : zer (cons e c l) = false := rfl
theorem wrapK {n : Int} (h : 0 ≤ n) : n = ((n.toNat : Nat) : Int) := by omega
/-- An infinite base. -/
theorem ipow_inf {k : Nat} {a1 a' b : T} {d : Int} (ha : ordP (cons a1 d a') = true) (hz : a1 ≠ nil) (hb : ordP b = true) (hf : finB b ≤ 40) (hk : 5000000 < k) (hc : k ≤ cap) :
    impl_PowerOfOrdinals_p4 k (cons a1 d a').rows (finB b) (limB b).rows = some ((toldT (qT (cons a1 d a') (cons (timesT a1 (limB b)) 1 nil) (finB b).toNat)).1.rows, (toldT (qT (cons a1 d a') (cons (timesT a1 (limB b)) 1 nil) (finB b).toNat)).2) := by
  have h3 : cap = 1099511627776 := rfl
  obtain ⟨ol, f0, _⟩ := lim_ord hb
  cases a1 with
  | nil => exact absurd rfl hz
  | cons p q r =>
    obtain ⟨⟨fa, pa, da⟩, sa, dpa, za⟩ := ordP_parts ha
    have o1 : ordP (cons p q r) = true := ordP_of da.1.1 da.1.2.1 da.1.2.2 sa.1 (by simp only [dp] at dpa ⊢; omega) (by simp only [size] at za ⊢; omega)
    obtain ⟨e1, e2, e3, e4, e5⟩ := exp_ok o1 ol (lim_nz b)
    have zl := ordP_size ol
    have z1 := ordP_size o1
    have le5 := (tmG p q r (limB b)).len_size
    unfold impl_PowerOfOrdinals_p4
    rw [show impl_degree (cons (cons p q r) d a').rows = some (cons p q r).rows from rfl, Option.bind_some, product_eq k _ _ (by omega) (by omega) (by show (tmG p q r (limB b)).len ≤ cap; omega), Option.bind_some, ipower_eq, Option.bind_some]
    rw [show pwT (timesT (cons p q r) (limB b)) 1 = cons (timesT (cons p q r) (limB b)) 1 nil from rfl]
    unfold impl_PowerOfOrdinals_p5
    have hq := qInv_start e1 e2 e3 e4 e5
    have hN : (finB b).toNat ≤ 40 := by omega
    have := powloop_eq (k := k) (K := fun v97 => impl_PowerOfOrdinals_p6 k v97) ha hz hq hN hk (finB b).toNat 0 k (by omega) (by omega)
    rw [← wrapK f0] at this
    refine Eq.trans this ?_
    show impl_PowerOfOrdinals_p6 k (qT (cons (cons p q r) d a') (cons (timesT (cons p q r) (limB b)) 1 nil) (finB b).toNat).rows = _
    obtain ⟨_, _, _, _, _, zq⟩ := qInv_parts (qInv_all ha hz hq (finB b).toNat (by omega)) (by omega)
    unfold impl_PowerOfOrdinals_p6
    have zq : (qT (cons (cons p q r) d a') (cons (timesT (cons p q r) (limB b)) 1 nil) (finB b).toNat).size ≤ (finB b).toNat * 70000 + 2300 := zq
    rw [told_eq k _ (by omega) (by omega), Option.bind_some]
    unfold impl_PowerOfOrdinals_p7
    simp only
    cases (toldT (qT (cons (cons p q r) d a') (cons (timesT (cons p q r) (limB b)) 1 nil) (finB b).toNat)).2 <;> rfl
theorem spow_inf {k : Nat} {a1 a' b : T} {d : Int} (ha : ordP (cons a1 d a') = true) (hz : a1 ≠ nil) (hb : ordP b = true) (hf : finB b ≤ 40) (hk : 5000000 < k) (hc : k ≤ cap) :
    ∃ (t : T) (ok : Bool), spec_odPower_p5 k (cons a1 d a').rows (finB b) (limB b).rows oneT.rows true = some (t.rows, ok) ∧ t.size ≤ 3000000 ∧ (if ok then toldT t else (nil, false)) = toldT (qT (cons a1 d a') (cons (timesT a1 (limB b)) 1 nil) (finB b).toNat) := by
  have h3 : cap = 1099511627776 := rfl
  obtain ⟨ol, f0, _⟩ := lim_ord hb
  cases a1 with
  | nil => exact absurd rfl hz
  | cons p q r =>
    obtain ⟨⟨fa, pa, da⟩, sa, dpa, za⟩ := ordP_parts ha
    have o1 : ordP (cons p q r) = true := ordP_of da.1.1 da.1.2.1 da.1.2.2 sa.1 (by simp only [dp] at dpa ⊢; omega) (by simp only [size] at za ⊢; omega)
    obtain ⟨e1, e2, e3, e4, e5⟩ := exp_ok o1 ol (lim_nz b)
    obtain ⟨N, hN⟩ : ∃ N : Nat, (finB b).toNat = N := ⟨_, rfl⟩
    have hNb : finB b = (N : Int) := by omega
    have N4 : N ≤ 40 := by omega
    have hr := repeat_eq (k := k) ha hz N4 (by omega) hc N 0 k (by omega) (by omega) one_ord
    have hi := qInv_all ha hz qInv_one
    have hpre := qT_pre (a := cons (cons p q r) d a') (x' := nil) (c1 := 1) e1 (sm_mono e4 (by omega)) ⟨by omega, by omega⟩ ha hi N (by omega)
    unfold spec_odPower_p5
    simp only [cond]
    rw [if_neg (by omega)]
    unfold spec_odRepeat
    rw [sInt_eq, Option.bind_some, show (pwT nil 1).rows = oneT.rows from rfl, hNb]
    rw [show qT (cons (cons p q r) d a') oneT 0 = oneT from rfl] at hr
    rw [hr, Option.bind_some]
    simp only [Int.toNat_natCast]
    by_cases g : ordP (qT (cons (cons p q r) d a') oneT N) = true
    · rw [told_lift g]
      simp only [if_true]
      unfold spec_odPower_p7
      simp only [cond]
      cases hl : limB b with
      | nil =>
        have zR := ordP_size g
        refine ⟨qT (cons (cons p q r) d a') oneT N, true, rfl, by omega, ?_⟩
        simp only [if_true]; rfl
      | cons e c l =>
        rw [← hl]
        have hzb : spec_odZero (limB b).rows = some false := by rw [odZ, hl]; rfl
        rw [hzb, Option.bind_some]
        simp only [Bool.false_eq_true, if_false]
        unfold spec_odPower_p8
        simp only [cond]
        rw [sTerm_eq, Option.bind_some, show (pwT oneT 1).rows = wT.rows from rfl, over_eq ol (lim_nz b) (by omega) hc, Option.bind_some]
        unfold spec_odPower_p9
        simp only [cond]
        have rA := row_T (α := Rw × Bool) (t := cons (cons p q r) d a') (i := 0) (n := 0) rfl rfl
        have tb := times_both (k := k) (b := cons p q r) (x := limB b) (ordP_rt o1) ⟨okT_mono (ordP_rt ol).1 (by omega) (by omega), (ordP_rt ol).2⟩ (by omega) hc
        rw [rA, tb.2.1, Option.bind_some]
        unfold spec_odPower_p10
        have ot := odTimes_pw (e := timesT (cons p q r) (limB b)) e1 e4 e5 g hk hc
        rw [sTerm_eq, Option.bind_some, show pwT (timesT (cons p q r) (limB b)) 1 = cons (timesT (cons p q r) (limB b)) 1 nil from rfl, ot, Option.bind_some]
        obtain ⟨_, _, _, _, _, zq⟩ := qInv_parts (qInv_all ha hz (qInv_start e1 e2 e3 e4 e5) N (by omega)) (by omega)
        refine ⟨tmG (timesT (cons p q r) (limB b)) 1 nil (qT (cons (cons p q r) d a') oneT N), true, rfl, ?_, ?_⟩
        · rw [show tmG (timesT (cons p q r) (limB b)) 1 nil (qT (cons (cons p q r) d a') oneT N) = qT (cons (cons p q r) d a') (cons (tmG p q r (limB b)) 1 nil) N from hpre]; omega
        · simp only [if_true]
          exact congrArg toldT hpre
    · rw [told_none g]
      refine ⟨nil, false, rfl, by simp [size], ?_⟩
      simp only [Bool.false_eq_true, if_false]
      refine (told_none fun h => g ?_).symm
      exact qT_rightE ha hz e1 e2 e4 N4 h
theorem told_size (t : T) : (toldT t).1.size ≤ 30 := by
  unfold toldT
  split
  · rename_i h; exact ordP_size h
  · exact Nat.zero_le _
theorem told_fst {t : T} (h : (toldT t).2 = true) : (toldT t).1 = t ∧ ordP t = true := by
  unfold toldT at h ⊢
  split
  · rename_i g; exact ⟨rfl, g⟩
  · rename_i g; rw [if_neg g] at h; cases h
theorem odEnd {k : Nat} {t : T} (hz : t.size ≤ 3000000) (hk : 5000000 < k) (hc : k ≤ cap) : ((spec_odIf k t.rows).bind fun y12 => (if y12.2 = true then some (y12.1, true) else some (y12.1, false))) = some ((toldT t).1.rows, (toldT t).2) := by
  have h3 : cap = 1099511627776 := rfl
  rw [odIf_all k t (by omega) (by omega), Option.bind_some]
  simp only
  cases (toldT t).2 <;> rfl
theorem pow_both {k : Nat} {a b : T} (ka : a.size < k) (kb : b.size < k) (hk : 5000000 < k) (hc : k ≤ cap) :
    ∃ (r : T) (ok : Bool), impl_PowerOfOrdinals k a.rows b.rows = some (r.rows, ok) ∧ spec_PowerOfOrdinals k a.rows b.rows = some (r.rows, ok) ∧ r.size ≤ 30 ∧ (ok = true → ordP a = true ∧ ordP b = true ∧ ordP r = true ∧ PW a b r) := by
  have h3 : cap = 1099511627776 := rfl
  unfold impl_PowerOfOrdinals spec_PowerOfOrdinals
  rw [both_eq k a b ka kb (by omega) (by omega), odGood_all k a ka (by omega), odGood_all k b kb (by omega)]
  simp only [Option.bind_some]
  cases ha : ordP a with
  | false => rw [if_neg (by simp), if_neg (by simp)]; exact ⟨nil, false, rfl, rfl, by simp [size], fun h => (by cases h)⟩
  | true =>
    cases hb : ordP b with
    | false => rw [if_neg (by simp), if_pos rfl, if_neg (by simp)]; exact ⟨nil, false, rfl, rfl, by simp [size], fun h => (by cases h)⟩
    | true =>
      simp only [Bool.and_self, if_true]
      unfold impl_PowerOfOrdinals_p2 spec_odPower
      rw [iparted_eq hb, sfinite_eq hb]
      simp only [Option.bind_some]
      unfold impl_PowerOfOrdinals_p3 spec_odPower_p2 spec_odPower_p3
      rw [isZ, sInt_eq, show (pwT nil 1).rows = oneT.rows from rfl]
      simp only [Option.bind_some]
      rw [odZ]
      simp only [Option.bind_some]
      have za := ordP_size ha
      have zb := ordP_size hb
      have fin1 : impl_finite 1 = some oneT.rows := by rw [ifinite_eq]; rfl
      by_cases bz : b = nil
      · subst bz
        rw [show zer nil = true from rfl]
        simp only [if_true, fin1, Option.bind_some]
        refine ⟨oneT, true, rfl, ?_, by simp [one_size], fun _ => ⟨trivial, trivial, one_ord, fun _ => rfl, fun h => absurd rfl h⟩⟩
        rw [odEnd (by rw [one_size]; omega) hk hc, told_lift one_ord]
      · have zb0 : zer b = false := by cases b with | nil => exact absurd rfl bz | cons _ _ _ => rfl
        rw [zb0]
        simp only [Bool.false_eq_true, if_false]
        rw [isZ]
        have cA : calm a := sm_calm (form_sm (ordP_form ha)) (by omega)
        rw [odCmp_eq k a oneT cA (sm_calm one_rt.2.2.1 (by omega)) (by omega) (by omega)]
        simp only [Option.bind_some]
        cases a with
        | nil =>
          rw [show zer nil = true from rfl]
          simp only [if_true]
          rw [if_neg (show ¬ cmpT nil oneT = 0 by simp [oneT, cmpT]), odZ, show zer nil = true from rfl]
          simp only [if_true, Option.bind_some]
          refine ⟨nil, true, rfl, ?_, by simp [size], fun _ => ⟨trivial, trivial, rfl, fun h => absurd h bz, fun _ => ⟨fun _ => rfl, fun _ _ h => (by cases h), fun _ _ _ _ h => (by cases h)⟩⟩⟩
          rw [show (nil : T).rows = ([] : Rw) from rfl]
          have := odEnd (t := nil) (by simp [size]) hk hc
          rw [show (nil : T).rows = ([] : Rw) from rfl] at this
          rw [this]; rfl
        | cons a1 d a' =>
          obtain ⟨⟨fa, pa, da⟩, sa, dpa, _⟩ := ordP_parts ha
          have dg : impl_degree (cons a1 d a').rows = some a1.rows := rfl
          have rA := row_T (α := Rw × Bool) (t := cons a1 d a') (i := 0) (n := 0) rfl rfl
          rw [zerF, odZ, zerF]
          simp only [Bool.false_eq_true, if_false]
          rw [dg]
          simp only [Option.bind_some]
          rw [isZ]
          simp only [Option.bind_some]
          by_cases az : a1 = nil
          · subst az
            obtain rfl := falls_low fa.2
            rw [show zer nil = true from rfl]
            simp only [if_true, rA]
            by_cases d1 : d = 1
            · subst d1
              rw [if_pos rfl, show cmpT (cons nil 1 nil) oneT = 0 from cmpT_refl oneT, if_pos rfl, fin1]
              simp only [Option.bind_some, if_true]
              refine ⟨oneT, true, rfl, ?_, by simp [one_size], fun _ => ⟨trivial, trivial, one_ord, fun h => absurd h bz, fun _ => ⟨fun h => (by cases h), fun _ _ h => (by injection h with _ h2 _; exact ⟨fun _ => rfl, fun h => absurd h2.symm h⟩), fun a1 _ _ h1 h => (by injection h with h2; exact absurd h2.symm h1)⟩⟩⟩
              rw [odEnd (by rw [one_size]; omega) hk hc, told_lift one_ord]
            · have d2 : 2 ≤ d ∧ d ≤ 1000000 := ⟨by have := pa.1; omega, sa.2.1.2⟩
              rw [if_neg d1, if_neg (cmp_one (by unfold oneT; intro h; injection h with _ h2; exact d1 h2))]
              obtain ⟨ol, f0, f1⟩ := lim_ord hb
              obtain ⟨N, hN⟩ : ∃ N : Nat, (finB b).toNat = N := ⟨_, rfl⟩
              have hNb : finB b = (N : Int) := by omega
              obtain ⟨u, u1, u2, g1, g2, g3, g4⟩ := finite_both (k := k) d2 (by omega) hc N k k 1 ⟨by omega, by omega⟩ (by omega) (by omega) (by omega)
              rw [Int.one_mul] at g3 g4
              rw [← hNb] at g1 g2
              rw [ofFinite_eq hb u1 g1 (by omega)]
              unfold spec_odPower_p4
              rw [sTerm_eq, show (pwT oneT 1).rows = wT.rows from rfl]
              simp only [Option.bind_some, Bool.false_eq_true, if_false]
              rw [odCmp_eq k _ wT cA (sm_calm (form_sm (ordP_form w_ord)) (by omega)) (by omega) (by omega)]
              simp only [Option.bind_some]
              rw [if_neg (fun h => (ge_w ha).1 h rfl)]
              unfold spec_odPower_p5
              simp only [cond]
              unfold spec_odRepeat
              rw [sInt_eq, Option.bind_some, show (pwT nil 1) = cons nil 1 nil from rfl, g2]
              by_cases gu : u ≤ 1000000
              · have hu := g3 gu
                rw [decide_eq_true gu, if_pos gu]
                simp only [if_true, Option.bind_some]
                obtain ⟨⟨fl, pl, dl⟩, sl, dl6, zl⟩ := ordP_parts ol
                obtain ⟨x1, x2, x3, x4, x5⟩ := dec_parts (limB b) none (fun q h => by cases h) (lim_nz b) fl pl dl sl
                have zt : (cons (decT (limB b)) u nil).size ≤ 40 := by simp only [size]; omega
                have fine : ∀ ok, (toldT (cons (decT (limB b)) u nil)).2 = ok → (ok = true → ordP (toldT (cons (decT (limB b)) u nil)).1 = true ∧ PW (cons nil d nil) b (toldT (cons (decT (limB b)) u nil)).1) := by
                  intro ok e h
                  rw [h] at e
                  obtain ⟨t1, t2⟩ := told_fst e
                  rw [t1]
                  refine ⟨t2, fun h => absurd h bz, fun _ => ⟨fun h => (by cases h), fun _ _ h => ?_, fun a1 _ _ h1 h => (by injection h with h2; exact absurd h2.symm h1)⟩⟩
                  injection h with _ h2 _
                  subst h2
                  refine ⟨fun h => absurd h d1, fun _ => ?_⟩
                  rw [hN, ← hu]
                  exact ⟨gu, rfl⟩
                refine ⟨(toldT (cons (decT (limB b)) u nil)).1, (toldT (cons (decT (limB b)) u nil)).2, ?_, ?_, told_size _, fun h => ⟨trivial, trivial, fine _ rfl h⟩⟩
                · rw [told_eq k _ (by omega) (by omega), Option.bind_some]
                  simp only
                  cases (toldT (cons (decT (limB b)) u nil)).2 <;> rfl
                · unfold spec_odPower_p7
                  simp only [cond]
                  cases hl : limB b with
                  | nil =>
                    rw [show spec_odZero (nil : T).rows = some true from rfl, Option.bind_some, if_pos rfl, Option.bind_some]
                    simp only [if_true]
                    exact odEnd (t := cons nil u nil) (by simp [size]) hk hc
                  | cons e c l =>
                    rw [← hl, odZ, hl, zerF, ← hl, Option.bind_some]
                    simp only [Bool.false_eq_true, if_false]
                    unfold spec_odPower_p8
                    simp only [cond]
                    rw [sTerm_eq, Option.bind_some, show (pwT oneT 1).rows = wT.rows from rfl, over_eq ol (lim_nz b) (by omega) hc, Option.bind_some]
                    unfold spec_odPower_p9
                    simp only [cond]
                    unfold spec_odPower_p10
                    have ou : ordP (cons nil u nil) = true := ordP_of ⟨fun _ h => (by cases h), trivial⟩ ⟨by omega, trivial⟩ ⟨⟨trivial, trivial, trivial⟩, trivial⟩ ⟨trivial, by omega, trivial⟩ (by simp [dp]) (by simp [size])
                    rw [sTerm_eq, Option.bind_some, show pwT (decT (limB b)) 1 = cons (decT (limB b)) 1 nil from rfl, odTimes_pw x1 (sm_mono x4 (by omega)) (by omega) ou hk hc, Option.bind_some]
                    unfold spec_odPower_p11
                    rw [Option.bind_some]
                    simp only [if_true]
                    rw [show tmG (decT (limB b)) 1 nil (cons nil u nil) = cons (decT (limB b)) u nil by simp only [tmG, T.app_nil]; rw [Int.one_mul, show w u = u from wid (by omega) (by omega)]]
                    exact odEnd (by omega) hk hc
              · rw [decide_eq_false gu, if_neg gu]
                simp only [Bool.false_eq_true, if_false, Option.bind_some]
                unfold spec_odPower_p7
                exact ⟨nil, false, rfl, rfl, by simp [size], fun h => (by cases h)⟩
          · have hz1 : zer a1 = false := by cases a1 with | nil => exact absurd rfl az | cons _ _ _ => rfl
            rw [hz1]
            simp only [Bool.false_eq_true, if_false]
            rw [if_neg (cmp_one (by unfold oneT; intro h; injection h with h2; exact az h2))]
            unfold spec_odPower_p4
            rw [sTerm_eq, Option.bind_some, show (pwT oneT 1).rows = wT.rows from rfl, odCmp_eq k _ wT cA (sm_calm (form_sm (ordP_form w_ord)) (by omega)) (by omega) (by omega)]
            simp only [Option.bind_some]
            rw [if_pos ((ge_w ha).2 az)]
            by_cases gf : 40 < finB b
            · rw [if_pos gf]
              unfold spec_odPower_p5
              simp only [cond]
              rw [if_pos gf]
              exact ⟨nil, false, rfl, rfl, by simp [size], fun h => (by cases h)⟩
            · rw [if_neg gf]
              obtain ⟨t, ok, s1, s2, s3⟩ := spow_inf ha az hb (by omega) hk hc
              refine ⟨_, _, ipow_inf ha az hb (by omega) hk hc, ?_, told_size _, fun h => ?_⟩
              · rw [s1, Option.bind_some, ← s3]
                cases ok with
                | true => simp only [if_true]; exact odEnd s2 hk hc
                | false => rfl
              · obtain ⟨t1, t2⟩ := told_fst h
                rw [t1]
                refine ⟨trivial, trivial, t2, fun h => absurd h bz, fun _ => ⟨fun h => (by cases h), fun _ _ h => (by injection h with h2; exact absurd h2 az), fun x1 dd x' _ hx => ?_⟩⟩
                injection hx with h1 h2 h4
                subst h1 h2 h4
                exact ⟨by omega, rfl⟩
end Go.Proofs.Try

namespace Go.Proofs.Try
open Go Go.AX T
theorem lim_plusI {f m : T} {g : Int} (hf : f ≠ nil) : ∀ (b : T) (p : Option T), falls p b → limB (goP b f g m) = goP (limB b) f g (limB m) ∧ finB (goP b f g m) = finB m
  | nil, _, _ => by
    cases f with
    | nil => exact absurd rfl hf
    | cons x y z => exact ⟨rfl, rfl⟩
  | cons e h l, p, hb => by
    obtain ⟨i1, i2⟩ := lim_plusI (m := m) (g := g) hf l _ hb.2
    cases e with
    | nil =>
      obtain rfl := falls_low hb.2
      cases f with
      | nil => exact absurd rfl hf
      | cons x y z => exact ⟨rfl, rfl⟩
    | cons x y z =>
      simp only [limB, goP]
      by_cases q : cmpT (cons x y z) f = 1
      · rw [if_pos q, if_pos q]
        exact ⟨by simp only [limB]; rw [i1], i2⟩
      · rw [if_neg q, if_neg q]
        by_cases q0 : cmpT (cons x y z) f = 0
        · rw [if_pos q0, if_pos q0]; exact ⟨rfl, rfl⟩
        · rw [if_neg q0, if_neg q0]; exact ⟨i1, i2⟩
theorem lim_plusF {g : Int} (hg : 0 ≤ g ∧ g ≤ 1000000) : ∀ (b : T) (p : Option T), falls p b → sm 1000000 b → limB (goP b nil g nil) = limB b ∧ finB (goP b nil g nil) = finB b + g
  | nil, _, _, _ => ⟨rfl, by simp [goP, finB]⟩
  | cons e h l, p, hb, hs => by
    obtain ⟨i1, i2⟩ := lim_plusF hg l _ hb.2 hs.2.2
    have h1 := hs.2.1
    cases e with
    | nil =>
      obtain rfl := falls_low hb.2
      simp only [goP, cmpT]
      rw [if_neg (by omega), if_pos trivial]
      exact ⟨rfl, wid (by omega) (by omega)⟩
    | cons x y z =>
      simp only [goP, cmpT, if_true]
      exact ⟨by simp only [limB]; rw [i1], i2⟩
/-- The limit and the finite part of a sum. -/
theorem lim_plus {b c : T} (hb : ordP b = true) (hc : ordP c = true) (hz : c ≠ nil) : (limB c = nil → limB (plusT b c) = limB b ∧ finB (plusT b c) = finB b + finB c) ∧ (limB c ≠ nil → limB (plusT b c) = plusT (limB b) (limB c) ∧ finB (plusT b c) = finB c) := by
  obtain ⟨⟨fb, pb, db⟩, sb, _, zb⟩ := ordP_parts hb
  obtain ⟨⟨fc, pc, dc⟩, sc, _, zc⟩ := ordP_parts hc
  cases c with
  | nil => exact absurd rfl hz
  | cons f g m =>
    cases f with
    | nil =>
      obtain rfl := falls_low fc.2
      exact ⟨fun _ => lim_plusF ⟨by have := pc.1; omega, sc.2.1.2⟩ b none fb sb, fun h => absurd rfl h⟩
    | cons x y z => exact ⟨fun h => (by simp [limB] at h), fun _ => lim_plusI (by simp) b none fb⟩
theorem dec_plus {f m : T} {g : Int} (hf : f ≠ nil ∧ falls none f ∧ posT f ∧ sm 1000000 f) : ∀ b : T, nzE b → exOk 1000000 b → decT (goP b f g m) = goP (decT b) (lessT f oneT) g (decT m)
  | nil, _, _ => rfl
  | cons e h l, hn, he => by
    have ih := dec_plus (g := g) (m := m) hf l hn.2 he.2
    have hc := less_cmp hn.1 he.1.1 he.1.2.1 he.1.2.2 hf.1 hf.2.1 hf.2.2.1 hf.2.2.2
    simp only [goP, decT]
    rw [hc]
    split
    · simp only [decT]; rw [ih]
    · split
      · rfl
      · exact ih
theorem PW_one {a b x z : T} (h1 : PW a b x) (h2 : PW a b z) : x = z := by
  by_cases hb : b = nil
  · rw [h1.1 hb, h2.1 hb]
  · obtain ⟨x1, x2, x3⟩ := h1.2 hb
    obtain ⟨z1, z2, z3⟩ := h2.2 hb
    cases a with
    | nil => rw [x1 rfl, z1 rfl]
    | cons e d l =>
      by_cases he : e = nil
      · subst he
        obtain ⟨p1, p2⟩ := x2 d l rfl
        obtain ⟨q1, q2⟩ := z2 d l rfl
        by_cases hd : d = 1
        · rw [p1 hd, q1 hd]
        · rw [(p2 hd).2, (q2 hd).2]
      · rw [(x3 e d l he rfl).2, (z3 e d l he rfl).2]
theorem times_oneR {x : T} (s : sm 1000000 x) : timesT x oneT = x := by
  cases x with
  | nil => rfl
  | cons x1 c x' =>
    have := s.2.1
    simp only [timesT, oneT, tmG, T.app_nil]
    rw [Int.mul_one, show w c = c from wid (by omega) (by omega)]
theorem qT_pre2 {a x1 x' F : T} {c1 : Int} (fx : falls none x1) (sx : sm 1000000000 x1) (hc : 0 ≤ c1 ∧ c1 ≤ 1000000) (ha : ordP a = true) (hi : ∀ n : Nat, n ≤ 41 → qInv n (qT a F n)) : ∀ n : Nat, n ≤ 41 → tmG x1 c1 x' (qT a F n) = qT a (tmG x1 c1 x' F) n
  | 0, _ => rfl
  | n + 1, h => by
    have ih := qT_pre2 (x' := x') fx sx hc ha hi n (by omega)
    obtain ⟨⟨fa, pa, da⟩, sa, _, za⟩ := ordP_parts ha
    simp only [qT]
    rw [← ih]
    obtain ⟨y1, c, y', e, ⟨f1, p1, e1⟩, s1, z1, hc2, ⟨f', p', e'⟩, _, _⟩ := hi n (by omega)
    rw [e]
    exact (tm_assoc fx sx f1 (sm_mono s1 (by omega)) f' hc ⟨by omega, hc2.2⟩ (exOk_mono (exOk_deep da sa) (by omega)) sa pa).symm
theorem qT_add {a x : T} (n : Nat) : ∀ m : Nat, qT a (qT a x n) m = qT a x (n + m)
  | 0 => rfl
  | m + 1 => by
    show timesT (qT a (qT a x n) m) a = timesT (qT a x (n + m)) a
    rw [qT_add n m]
/-- How the first exponent grows. -/
theorem qT_lead {a1 a' e f : T} {d : Int} (ha : ordP (cons a1 d a') = true) (hz : a1 ≠ nil) (he : qInv 0 (cons e 1 nil)) (hf : falls none f ∧ sm 3000000 f) (hab : plusT a1 f = f) : ∀ n : Nat, n ≤ 41 → ∃ x1 c x', qT (cons a1 d a') (cons e 1 nil) n = cons x1 c x' ∧ plusT x1 f = plusT e f
  | 0, _ => ⟨e, 1, nil, rfl, rfl⟩
  | n + 1, h => by
    obtain ⟨x1, c, x', e1, e2⟩ := qT_lead ha hz he hf hab n (by omega)
    obtain ⟨y1, c2, y', e3, ⟨f1, p1, _⟩, s1, z1, hc2, _, _, _⟩ := qInv_all ha hz he n (by omega)
    rw [e1] at e3
    injection e3 with q1 q2 q3
    subst q1 q2 q3
    obtain ⟨⟨fa, pa, da⟩, sa, _, za⟩ := ordP_parts ha
    cases a1 with
    | nil => exact absurd rfl hz
    | cons p q r =>
      refine ⟨plusT x1 (cons p q r), d, tmG x1 c x' a', ?_, ?_⟩
      · show timesT (qT (cons (cons p q r) d a') (cons e 1 nil) n) (cons (cons p q r) d a') = _
        rw [e1]; rfl
      · rw [← plusT_assocB (sm_mono s1 (by omega)) (sm_mono sa.1 (by omega)) (sm_mono hf.2 (by omega)) f1 da.1.1, hab, e2]
theorem pow_sum {a b c x y z : T} (oa : ordP a = true) (ob : ordP b = true) (oc : ordP c = true) (os : ordP (plusT b c) = true) (ox : ordP x = true) (oy : ordP y = true) (hx : PW a b x) (hy : PW a c y) (hz : PW a (plusT b c) z) : timesT x y = z := by
  obtain ⟨⟨fx, px, dx⟩, sx, _, _⟩ := ordP_parts ox
  obtain ⟨⟨fy, py, dy⟩, sy, _, _⟩ := ordP_parts oy
  by_cases cz : c = nil
  · subst cz
    rw [hy.1 rfl, times_oneR sx]
    exact PW_one hx hz
  · by_cases bz : b = nil
    · subst bz
      rw [hx.1 rfl, show timesT oneT y = y from times_oneL sy]
      rw [plusT_nilL] at hz
      exact PW_one hy hz
    · have sz : plusT b c ≠ nil := by
        cases c with
        | nil => exact absurd rfl cz
        | cons f g m =>
          obtain ⟨p, q, r, e⟩ := goP_ne b f g m
          show goP b f g m ≠ nil
          rw [e]; simp
      obtain ⟨x1, x2, x3⟩ := hx.2 bz
      obtain ⟨y1, y2, y3⟩ := hy.2 cz
      obtain ⟨z1, z2, z3⟩ := hz.2 sz
      obtain ⟨lF, lI⟩ := lim_plus ob oc cz
      obtain ⟨olb, fb0, fb1⟩ := lim_ord ob
      obtain ⟨olc, fc0, fc1⟩ := lim_ord oc
      obtain ⟨⟨flb, plb, dlb⟩, slb, _, zlb⟩ := ordP_parts olb
      obtain ⟨⟨flc, plc, dlc⟩, slc, _, zlc⟩ := ordP_parts olc
      have nlc := lim_nz c
      cases a with
      | nil => rw [x1 rfl, y1 rfl, z1 rfl]; rfl
      | cons a1 d a' =>
        by_cases az : a1 = nil
        · subst az
          obtain ⟨u1, u2⟩ := x2 d a' rfl
          obtain ⟨v1, v2⟩ := y2 d a' rfl
          obtain ⟨w1, w2⟩ := z2 d a' rfl
          by_cases hd : d = 1
          · rw [u1 hd, v1 hd, w1 hd]
            exact times_oneR (ordP_parts one_ord).2.1
          · obtain ⟨g1, rfl⟩ := u2 hd
            obtain ⟨g2, rfl⟩ := v2 hd
            obtain ⟨g3, rfl⟩ := w2 hd
            cases hl : limB c with
            | nil =>
              obtain ⟨l1, l2⟩ := lF hl
              have e1 : (finB (plusT b c)).toNat = (finB b).toNat + (finB c).toNat := by rw [l2]; omega
              rw [e1] at g3
              rw [l1, e1, Int.pow_add] at *
              have hx1 := px.1
              have hy1 := py.1
              have : (1 : Int) * 1 ≤ d ^ (finB b).toNat * d ^ (finB c).toNat := Int.mul_le_mul hx1 hy1 (by omega) (by omega)
              simp only [decT, timesT, tmG, T.app_nil]
              rw [show w (d ^ (finB b).toNat * d ^ (finB c).toNat) = d ^ (finB b).toNat * d ^ (finB c).toNat from wid (by omega) (by omega)]
            | cons f g m =>
              obtain ⟨l1, l2⟩ := lI (by rw [hl]; simp)
              rw [l1, l2, hl]
              rw [hl] at nlc flc plc dlc slc
              have e2 : decT (plusT (limB b) (cons f g m)) = plusT (decT (limB b)) (decT (cons f g m)) := dec_plus ⟨nlc.1, dlc.1.1, dlc.1.2.1, slc.1⟩ (limB b) (lim_nz b) (exOk_deep dlb slb)
              rw [e2]
              simp only [decT, timesT, tmG]
        · obtain ⟨u1, rfl⟩ := x3 a1 d a' az rfl
          obtain ⟨v1, rfl⟩ := y3 a1 d a' az rfl
          obtain ⟨w1, rfl⟩ := z3 a1 d a' az rfl
          obtain ⟨⟨fa, pa, da⟩, sa, dpa, za⟩ := ordP_parts oa
          have o1 : ordP a1 = true := ordP_of da.1.1 da.1.2.1 da.1.2.2 sa.1 (by simp only [dp] at dpa; omega) (by simp only [size] at za; omega)
          cases a1 with
          | nil => exact absurd rfl az
          | cons p q r =>
            obtain ⟨eb1, eb2, eb3, eb4, eb5⟩ := exp_ok o1 olb (lim_nz b)
            obtain ⟨ec1, ec2, ec3, ec4, ec5⟩ := exp_ok o1 olc (lim_nz c)
            have qb := qInv_start eb1 eb2 eb3 eb4 eb5
            have qc := qInv_start ec1 ec2 ec3 ec4 ec5
            have nb : (finB b).toNat ≤ 41 := by omega
            have nc : (finB c).toNat ≤ 41 := by omega
            obtain ⟨X1, cx, X', e1, ⟨f1, p1, _⟩, s1, _, hcx, _, _, _⟩ := qInv_all oa az qb _ nb
            have hmul : ∀ F : T, timesT (qT (cons (cons p q r) d a') (cons (timesT (cons p q r) (limB b)) 1 nil) (finB b).toNat) F = tmG X1 cx X' F := fun F => by
              rw [show qT (cons (cons p q r) d a') (cons (timesT (cons p q r) (limB b)) 1 nil) (finB b).toNat = cons X1 cx X' from e1]; rfl
            have key := qT_pre2 (x' := X') (c1 := cx) f1 (sm_mono s1 (by omega)) ⟨by omega, hcx.2⟩ oa (fun n hn => qInv_all oa az qc n hn) _ nc
            rw [hmul]
            refine Eq.trans key ?_
            cases hl : limB c with
            | nil =>
              obtain ⟨l1, l2⟩ := lF hl
              have en : (finB (plusT b c)).toNat = (finB b).toNat + (finB c).toNat := by rw [l2]; omega
              rw [l1, en, ← qT_add]
              congr 1
              rw [show qT (cons (cons p q r) d a') (cons (timesT (cons p q r) (limB b)) 1 nil) (finB b).toNat = cons X1 cx X' from e1]
              simp only [tmG, T.app_nil]
              rw [Int.mul_one, show w cx = cx from wid (by omega) (by omega)]
            | cons f g m =>
              obtain ⟨l1, l2⟩ := lI (by rw [hl]; simp)
              rw [l1, l2]
              congr 1
              have rP := ordP_rt o1
              have one_cal : plusT oneT (limB c) = limB c := by
                rw [hl]
                have : f ≠ nil := by rw [hl] at nlc; exact nlc.1
                cases f with
                | nil => exact absurd rfl this
                | cons _ _ _ => simp only [plusT, oneT, goP, cmpT]; simp
              have one_ex : exOk 1000000000 oneT := ⟨⟨trivial, trivial, trivial⟩, trivial⟩
              have hab : plusT (cons p q r) (timesT (cons p q r) (limB c)) = timesT (cons p q r) (limB c) := by
                have := times_dist (a := cons p q r) (b := oneT) (c := limB c) rP.1.1 rP.1.2.1 (sm_mono rP.1.2.2.1 (by omega)) (exOk_mono rP.2 (by omega)) one_rt.1 (sm_mono one_rt.2.2.1 (by omega)) one_ex one_rt.2.1 flc (sm_mono slc (by omega)) (exOk_mono (exOk_deep dlc slc) (by omega)) plc
                rw [one_cal, times_oneR rP.1.2.2.1] at this
                exact this.symm
              obtain ⟨Y1, c2, Y', e3, e4⟩ := qT_lead (e := timesT (cons p q r) (limB b)) oa az qb ⟨ec1, ec4⟩ hab _ nb
              have e3 : cons X1 cx X' = cons Y1 c2 Y' := e1.symm.trans e3
              injection e3 with q1
              subst q1
              have hd := times_dist (a := cons p q r) (b := limB b) (c := limB c) rP.1.1 rP.1.2.1 (sm_mono rP.1.2.2.1 (by omega)) (exOk_mono rP.2 (by omega)) flb (sm_mono slb (by omega)) (exOk_mono (exOk_deep dlb slb) (by omega)) plb flc (sm_mono slc (by omega)) (exOk_mono (exOk_deep dlc slc) (by omega)) plc
              have hne : ∃ t u v, timesT (cons p q r) (limB c) = cons t u v := by
                rw [hl] at nlc ⊢
                cases f with
                | nil => exact absurd rfl nlc.1
                | cons t u v => exact ⟨_, _, _, rfl⟩
              obtain ⟨t, u, v, e5⟩ := hne
              have e6 : tmG p q r (cons f g m) = cons t u v := by rw [← hl]; exact e5
              rw [e6]
              simp only [tmG]
              have e7 : tmG p q r (limB c) = cons t u v := e5
              rw [e7] at e4
              rw [hd, e5, e4]
end Go.Proofs.Try

namespace Go.Proofs.Try
open Go Go.AX T
def subT (a b : T) : T × Bool := if ordP a && ordP b then (if cmpT a b < 0 then (nil, false) else toldT (lessT a b)) else (nil, false)
end Go.Proofs.Try

namespace Go.Proofs.Try
open Go Go.AX T
def bytes (x : Rw) : Prop := ∀ r ∈ x, ∃ b : Int, r = [.int .u8 b] ∧ 0 ≤ b ∧ b < 256
/-- A drawn value: its place moves on by at most n. -/
def Drew {α : Type} (x : Rw) (a n : Int) (r : Option (α × Rw × Int × Int)) (Q : α → Prop) : Prop :=
  ∃ v a' c', r = some (v, x, a', c') ∧ 0 ≤ a' ∧ a' ≤ a + n ∧ Q v
theorem Drew.mono {α : Type} {x : Rw} {a n m : Int} {r : Option (α × Rw × Int × Int)} {Q : α → Prop} (h : Drew x a n r Q) (hn : n ≤ m) : Drew x a m r Q := by
  obtain ⟨v, a', c', e, h1, h2, h3⟩ := h
  exact ⟨v, a', c', e, h1, by omega, h3⟩
theorem Drew.bind {α β : Type} {x : Rw} {a n m : Int} {r : Option (α × Rw × Int × Int)} {Q : α → Prop} {S : β → Prop} {F : α × Rw × Int × Int → Option (β × Rw × Int × Int)} (h : Drew x a n r Q)
    (hF : ∀ v a' c', 0 ≤ a' → a' ≤ a + n → Q v → Drew x a' m (F (v, x, a', c')) S) : Drew x a (n + m) (r.bind F) S := by
  obtain ⟨v, a', c', e, h1, h2, h3⟩ := h
  obtain ⟨u, a2, c2, e2, q1, q2, q3⟩ := hF v a' c' h1 h2 h3
  exact ⟨u, a2, c2, by rw [e, Option.bind_some, e2], q1, by omega, q3⟩
theorem and255 (n : Nat) (b : BitVec n) : (b &&& BitVec.ofInt n 255).toNat ≤ 255 := by
  rw [BitVec.toNat_and]
  refine Nat.le_trans Nat.and_le_right ?_
  rw [BitVec.toNat_ofInt]
  show (((255 : Nat) : Int) % ((2 ^ n : Nat) : Int)).toNat ≤ 255
  rw [← Int.natCast_emod, Int.toNat_natCast]
  exact Nat.mod_le _ _
theorem next_ok {x : Rw} {a c : Int} (hx : bytes x) (h0 : 0 ≤ a) (h1 : a ≤ 1000000000) : Drew x a 1 (spec_l1Cur_next x a c) (fun v => 0 ≤ v ∧ v < 256) := by
  have e1 : IntKind.i64.wrap (a + 1) = a + 1 := wid (by omega) (by omega)
  have big : ∀ b : BitVec (IntKind.u64).bits, 0 ≤ IntKind.i64.wrap (IntKind.u64.wrap (b &&& BitVec.ofInt (IntKind.u64).bits 255).toNat) ∧ IntKind.i64.wrap (IntKind.u64.wrap (b &&& BitVec.ofInt (IntKind.u64).bits 255).toNat) < 256 := by
    intro b
    have := and255 _ b
    generalize (b &&& BitVec.ofInt (IntKind.u64).bits 255).toNat = n at *
    have e2 : IntKind.u64.wrap (n : Int) = n := by
      show ((n : Int)) % 18446744073709551616 = n
      omega
    rw [e2, wid (by omega) (by omega)]; omega
  unfold spec_l1Cur_next
  rw [e1]
  by_cases g : a < (x.length : Int)
  · rw [if_pos g]
    obtain ⟨n, rfl⟩ : ∃ n : Nat, a = n := ⟨a.toNat, by omega⟩
    have hn : n < x.length := by omega
    obtain ⟨b, hb, hb0, hb1⟩ := hx x[n] (List.getElem_mem hn)
    have e3 : ∀ {α : Type} (K : Int → Option α), row_iu8 x (n : Int) K = K b := by
      intro α K
      unfold row_iu8
      rw [if_pos (by omega), Int.toNat_natCast, List.getElem?_eq_getElem hn, hb]
      rfl
    rw [e3, if_pos (by omega)]
    exact ⟨_, _, _, rfl, by omega, by omega, by rw [wid (by omega) (by omega)]; omega⟩
  · rw [if_neg g]
    split
    · exact ⟨_, _, _, rfl, by omega, by omega, by omega⟩
    · exact ⟨_, _, _, rfl, by omega, by omega, big _⟩
theorem pick_ok {x : Rw} {a c m : Int} (hx : bytes x) (h0 : 0 ≤ a) (h1 : a ≤ 100000000) (hm : 1 ≤ m) : Drew x a 2 (spec_l1Cur_pick x a c m) (fun v => 0 ≤ v ∧ v < m) := by
  unfold spec_l1Cur_pick
  by_cases g : m ≤ 1
  · rw [if_pos g]; exact ⟨_, _, _, rfl, h0, by omega, by omega⟩
  · rw [if_neg g]
    refine Drew.bind (n := 1) (m := 1) (next_ok hx h0 (by omega)) fun v a' c' q1 q2 q3 => ?_
    have tm : ∀ u : Int, 0 ≤ u → 0 ≤ u.tmod m ∧ u.tmod m < m := fun u hu => ⟨Int.tmod_nonneg _ hu, Int.tmod_lt_of_pos _ (by omega)⟩
    by_cases g2 : 200 < m
    · rw [if_pos g2]
      refine Drew.mono (Drew.bind (n := 1) (m := 0) (next_ok hx q1 (by omega)) fun v2 a2 c2 p1 p2 p3 => ?_) (by omega)
      rw [if_pos (by omega)]
      refine ⟨_, a2, _, rfl, p1, by omega, tm _ ?_⟩
      have e1 : IntKind.i64.wrap (v * 256) = v * 256 := wid (by omega) (by omega)
      show 0 ≤ IntKind.i64.wrap (IntKind.i64.wrap (v * 256) + v2)
      rw [e1, wid (by omega) (by omega)]; omega
    · rw [if_neg g2, if_pos (by omega)]
      exact ⟨_, a', _, rfl, q1, by omega, tm _ q3.1⟩
theorem among_ok {x : Rw} {a c : Int} {es : Rw} {Q : Int → Prop} (hx : bytes x) (h0 : 0 ≤ a) (h1 : a ≤ 100000000) (he : 1 ≤ es.length) (hQ : ∀ r ∈ es, ∃ i, r = [.int .i64 i] ∧ Q i) : Drew x a 2 (spec_l1Cur_among x a c es) Q := by
  unfold spec_l1Cur_among
  refine Drew.mono (Drew.bind (n := 2) (m := 0) (pick_ok hx h0 h1 (by omega)) fun v a' c' q1 q2 q3 => ?_) (by omega)
  obtain ⟨n, rfl⟩ : ∃ n : Nat, v = n := ⟨v.toNat, by omega⟩
  have hn : n < es.length := by omega
  obtain ⟨i, hi, hq⟩ := hQ es[n] (List.getElem_mem hn)
  have e3 : ∀ {α : Type} (K : Int → Option α), row_i es (n : Int) K = K i := by
    intro α K
    unfold row_i
    rw [if_pos (by omega), Int.toNat_natCast, List.getElem?_eq_getElem hn, hi]
    rfl
  show Drew x a' 0 (row_i es (n : Int) _) Q
  rw [e3]
  exact ⟨_, a', _, rfl, q1, by omega, hq⟩
theorem one_ok {x : Rw} {a c m : Int} (hx : bytes x) (h0 : 0 ≤ a) (h1 : a ≤ 100000000) (hm : 1 ≤ m) : Drew x a 2 (spec_l1Cur_one x a c m) (fun _ => True) := by
  unfold spec_l1Cur_one
  refine Drew.mono (Drew.bind (n := 2) (m := 0) (pick_ok hx h0 h1 hm) fun v a' c' q1 q2 q3 => ?_) (by omega)
  split <;> exact ⟨_, a', _, rfl, q1, by omega, trivial⟩
theorem odInt_eq (n : Int) : spec_odInt n = some (intT n).rows := by
  unfold spec_odInt spec_odTerm intT
  by_cases h : n = 0
  · rw [if_pos h, if_pos h]; rfl
  · rw [if_neg h, if_neg h]; rfl
theorem odTerm_ok (e : T) {n : Int} (hn : n ≠ 0) : spec_odTerm e.rows n = some (cons e n nil).rows := by
  unfold spec_odTerm; rw [if_neg hn]; rfl
/-- What meet has yet to add. -/
def due (f : Bool) (e : T) : Nat := cond f 0 (e.size + 1)
theorem meet_loop {k : Nat} {a e : T} {c C D : Int} {K : Rw → Bool → Option Rw} (he : sm D e) (hc : -D ≤ c ∧ c ≤ D) (hC : 0 ≤ C ∧ 0 ≤ D ∧ C + D ≤ 1000000000000) :
    ∀ (t acc : T) (f : Bool), acc.size + t.size + due f e < k → acc.size + t.size + due f e ≤ cap → sm C t → sm (C + D) acc →
      ∃ r f', spec_odMeet_l0 k a.rows e.rows c K t.rows f acc.rows = K r.rows f' ∧ r.size + due f' e ≤ acc.size + t.size + due f e ∧ sm (C + D) r
  | nil, acc, f, hk, hcap, st, sa => by
    refine ⟨acc, f, ?_, by simp [size], sa⟩
    simp only [rows, spec_odMeet_l0]
    cases f <;> rfl
  | cons x d t, acc, f, hk, hcap, st, sa => by
    have h3 : cap = 1099511627776 := rfl
    obtain ⟨s1, s2, s3⟩ := st
    have hl := acc.len_size
    simp only [size] at hk hcap ⊢
    have hz : ∀ (l y : T) (b : Int), (app l (cons y b nil)).size = l.size + y.size + 1 := fun l y b => by rw [size_app]; simp [size]; omega
    have hs : ∀ (l y : T) (b : Int), sm (C + D) l → sm (C + D) y → (-(C + D) ≤ b ∧ b ≤ C + D) → sm (C + D) (app l (cons y b nil)) := fun l y b h1 h2 h3 => sm_app.2 ⟨h1, h2, h3, trivial⟩
    have hx := sm_mono s1 (show C ≤ C + D by omega)
    have hE := sm_mono he (show D ≤ C + D by omega)
    have qx := sm_calm s1 (by omega)
    have qe := sm_calm he (by omega)
    cases f with
    | true =>
      simp only [due, cond] at hk hcap ⊢
      obtain ⟨r, f', q1, q2, q3⟩ := meet_loop (k := k) (a := a) (K := K) he hc hC t (app acc (cons x d nil)) true (by rw [hz]; simp only [due, cond]; omega) (by rw [hz]; simp only [due, cond]; omega) s3 (hs _ _ _ sa hx (by omega))
      rw [hz] at q2
      simp only [due, cond] at q2
      refine ⟨r, f', ?_, by simp only at *; omega, q3⟩
      rw [← q1]
      simp only [rows, spec_odMeet_l0, cond, cell_T]
      rw [odCmp_eq k x e qx qe (by omega) (by omega), Option.bind_some, if_pos (by rw [rows_len]; omega), snocRows]
    | false =>
      simp only [due, cond] at hk hcap ⊢
      by_cases g : cmpT x e ≤ 0
      · by_cases g0 : cmpT x e = 0
        · obtain rfl := cmpT_eq.1 g0
          have e2 : IntKind.i64.wrap (c + d) = c + d := wid (by omega) (by omega)
          obtain ⟨r, f', q1, q2, q3⟩ := meet_loop (k := k) (a := a) (K := K) he hc hC t (app acc (cons x (IntKind.i64.wrap (c + d)) nil)) true (by rw [hz]; simp only [due, cond]; omega) (by rw [hz]; simp only [due, cond]; omega) s3 (hs _ _ _ sa hx (by rw [e2]; omega))
          rw [hz] at q2
          simp only [due, cond] at q2
          refine ⟨r, f', ?_, by simp only at *; omega, q3⟩
          rw [← q1]
          simp only [rows, spec_odMeet_l0, cond, cell_T]
          rw [odCmp_eq k x x qx qe (by omega) (by omega), Option.bind_some, if_pos g, if_pos g0, if_pos (by rw [rows_len]; omega), snocRows]
        · obtain ⟨r, f', q1, q2, q3⟩ := meet_loop (k := k) (a := a) (K := K) he hc hC t (app (app acc (cons e c nil)) (cons x d nil)) true (by rw [hz, hz]; simp only [due, cond]; omega) (by rw [hz, hz]; simp only [due, cond]; omega) s3 (hs _ _ _ (hs _ _ _ sa hE (by omega)) hx (by omega))
          rw [hz, hz] at q2
          simp only [due, cond] at q2
          refine ⟨r, f', ?_, by simp only at *; omega, q3⟩
          rw [← q1]
          simp only [rows, spec_odMeet_l0, cond, cell_T]
          have hll : (acc.rows ++ [[Go.AX.D.sl e.rows, Go.AX.D.int .i64 c]]).length + 1 ≤ cap := by rw [List.length_append, rows_len]; simp only [List.length_cons, List.length_nil]; omega
          rw [odCmp_eq k x e qx qe (by omega) (by omega), Option.bind_some, if_pos g, if_neg g0, if_pos (by rw [rows_len]; omega), if_pos hll, snocRows, snocRows]
      · obtain ⟨r, f', q1, q2, q3⟩ := meet_loop (k := k) (a := a) (K := K) he hc hC t (app acc (cons x d nil)) false (by rw [hz]; simp only [due, cond]; omega) (by rw [hz]; simp only [due, cond]; omega) s3 (hs _ _ _ sa hx (by omega))
        rw [hz] at q2
        simp only [due, cond] at q2
        refine ⟨r, f', ?_, by simp only at *; omega, q3⟩
        rw [← q1]
        simp only [rows, spec_odMeet_l0, cond, cell_T]
        rw [odCmp_eq k x e qx qe (by omega) (by omega), Option.bind_some, if_neg g, if_pos (by rw [rows_len]; omega), snocRows]
theorem meet_ok {k : Nat} {t e : T} {c C D : Int} (he : sm D e) (hc : -D ≤ c ∧ c ≤ D) (hC : 0 ≤ C ∧ 0 ≤ D ∧ C + D ≤ 1000000000000) (hk : t.size + e.size + 1 < k) (hcap : t.size + e.size + 1 ≤ cap) (st : sm C t) :
    ∃ r : T, spec_odMeet k t.rows e.rows c = some r.rows ∧ r.size ≤ t.size + e.size + 1 ∧ sm (C + D) r := by
  have hl := t.len_size
  unfold spec_odMeet
  rw [if_pos (by rw [rows_len]; omega)]
  obtain ⟨r, f, q1, q2, q3⟩ := meet_loop (k := k) (a := t) (K := fun (v91 : Rw) (v100 : Bool) => (cond v100 (spec_odMeet_p4 e.rows c v91 true) (spec_odMeet_p4 e.rows c v91 false))) he hc hC t nil false (by simp only [due, cond, size]; omega) (by simp only [due, cond, size]; omega) st trivial
  have q1' : spec_odMeet_l0 k t.rows e.rows c (fun (v91 : Rw) (v100 : Bool) => (cond v100 (spec_odMeet_p4 e.rows c v91 true) (spec_odMeet_p4 e.rows c v91 false))) t.rows false [] = _ := q1
  rw [q1']
  simp only [due, cond, size] at q2
  cases f with
  | true => exact ⟨r, rfl, by simp only at q2; omega, q3⟩
  | false =>
    simp only at q2
    have hr := r.len_size
    refine ⟨app r (cons e c nil), ?_, by rw [size_app]; simp only [size]; omega, sm_app.2 ⟨q3, sm_mono he (by omega), by omega, trivial⟩⟩
    show (if r.rows.length + 1 ≤ cap then _ else _) = _
    rw [if_pos (by rw [rows_len]; omega), snocRows]
end Go.Proofs.Try

namespace Go.Proofs.Try
open Go Go.AX T
def IsT (S : Nat) (B : Int) (r : Rw) : Prop := ∃ t : T, r = t.rows ∧ t.size ≤ S ∧ sm B t
theorem ord_loop {k : Nat} {x : Rw} {rec_ : Rw → Int → Int → Int → Option (Rw × Rw × Int × Int)} {d B N BM L : Int} {S M : Nat} (hL : L ≤ 1000000) (hx : bytes x) (hB : 3 ≤ B) (hN : 0 ≤ N)
    (hr : ∀ a c, 0 ≤ a → a ≤ L → Drew x a N (rec_ x a c (IntKind.i64.wrap (d - 1))) (IsT S B)) (hM : M + 1 < k) (hcap : M + 1 ≤ cap) (hBM : BM ≤ 1000000000000) :
    ∀ (n v : Nat) (acc : T) (a c C : Int), v < n → v ≤ 1000 → 0 ≤ a → a + (v : Int) * (8 + N) ≤ L → acc.size + v * (S + 2) ≤ M → sm C acc → 0 ≤ C → C + (v : Int) * (B + 1000) ≤ BM →
      Drew x a ((v : Int) * (8 + N)) (spec_l1Cur_ordinal_l0 k rec_ d (fun (v53 : Rw) (v54 : Int) (v55 : Int) (v56 : Rw) => some (v56, v53, v54, v55)) n (v : Int) x a c acc.rows) (IsT M BM)
  | 0, v, _, _, _, _, h, _, _, _, _, _, _, _ => absurd h (Nat.not_lt_zero _)
  | n + 1, 0, acc, a, c, C, _, _, h0, _, hs, sa, hC, hb => by
    simp only [spec_l1Cur_ordinal_l0]
    rw [if_neg (by omega)]
    exact ⟨_, a, _, rfl, h0, by simp, acc, rfl, by simpa using hs, sm_mono sa (by simpa using hb)⟩
  | n + 1, v + 1, acc, a, c, C, hv, hv2, h0, h1, hs, sa, hC, hb => by
    have h3 : cap = 1099511627776 := rfl
    have e1 : ((v + 1 : Nat) : Int) * (8 + N) = (v : Int) * (8 + N) + (8 + N) := by rw [Int.natCast_succ, Int.add_mul, Int.one_mul]
    have e2 : ((v + 1 : Nat) : Int) * (B + 1000) = (v : Int) * (B + 1000) + (B + 1000) := by rw [Int.natCast_succ, Int.add_mul, Int.one_mul]
    have p1 : 0 ≤ (v : Int) * (8 + N) := Int.mul_nonneg (by omega) (by omega)
    have p2 : 0 ≤ (v : Int) * (B + 1000) := Int.mul_nonneg (by omega) (by omega)
    have ew : IntKind.i64.wrap (((v + 1 : Nat) : Int) - 1) = (v : Int) := by rw [wid (by omega) (by omega)]; omega
    rw [Nat.succ_mul] at hs
    rw [e1] at h1 ⊢
    rw [e2] at hb
    have go : ∀ (e : T) (cc a' c' : Int), e.size ≤ S + 1 → sm B e → (-(B + 1000) ≤ cc ∧ cc ≤ B + 1000) → 0 ≤ a' → a' + (v : Int) * (8 + N) ≤ L →
        Drew x a' ((v : Int) * (8 + N)) ((spec_odMeet k acc.rows e.rows cc).bind fun y => spec_l1Cur_ordinal_l0 k rec_ d (fun (v53 : Rw) (v54 : Int) (v55 : Int) (v56 : Rw) => some (v56, v53, v54, v55)) n (v : Int) x a' c' y) (IsT M BM) := by
      intro e cc a' c' z1 z2 z3 z4 z5
      obtain ⟨r, q1, q2, q3⟩ := meet_ok (k := k) (C := C) (D := B + 1000) (t := acc) (sm_mono z2 (by omega)) z3 (by omega) (by omega) (by omega) sa
      rw [q1, Option.bind_some]
      exact ord_loop hL hx hB hN hr hM hcap hBM n v r a' c' (C + (B + 1000)) (by omega) (by omega) z4 z5 (by omega) q3 (by omega) (by omega)
    simp only [spec_l1Cur_ordinal_l0]
    rw [if_pos (by omega), ew]
    refine Drew.mono (Drew.bind (n := 2) (m := 6 + N + (v : Int) * (8 + N)) (pick_ok hx h0 (by omega) (by omega)) fun v1 a1 c1 i1 i2 i3 => ?_) (by omega)
    simp only [odInt_eq, Option.bind_some]
    refine Drew.mono (Drew.bind (n := 2) (m := 4 + N + (v : Int) * (8 + N)) (pick_ok hx i1 (by omega) (by omega)) fun v2 a2 c2 i4 i5 i6 => ?_) (by omega)
    refine Drew.mono (Drew.bind (n := 2) (m := 2 + N + (v : Int) * (8 + N)) (among_ok (Q := fun i => 0 ≤ i ∧ i ≤ 1000) hx i4 (by omega) (by simp) ?_) fun v3 a3 c3 i7 i8 i9 => ?_) (by omega)
    · have e4 : IntKind.i64.wrap (1 + v2) = 1 + v2 := wid (by omega) (by omega)
      intro r hr
      simp only [List.mem_cons, List.not_mem_nil, or_false] at hr
      rcases hr with rfl | rfl | rfl | rfl | rfl <;> refine ⟨_, rfl, ?_⟩ <;> (try rw [e4]) <;> omega
    refine Drew.mono (Drew.bind (n := 2) (m := N + (v : Int) * (8 + N)) (one_ok hx i7 (by omega) (by omega)) fun v4 a4 c4 i10 i11 _ => ?_) (by omega)
    split
    · refine Drew.bind (n := N) (m := (v : Int) * (8 + N)) (hr a4 c4 i10 (by omega)) fun v5 a5 c5 i12 i13 i14 => ?_
      obtain ⟨e, rfl, z1, z2⟩ := i14
      exact go e v3 a5 c5 (by omega) z2 (by omega) i12 (by omega)
    · have z := intT_size v1
      exact Drew.mono (go (intT v1) v3 a4 c4 (by omega) (intT_sm (by omega)) (by omega) i10 (by omega)) (by omega)
def zS : Nat → Nat
  | 0 => 1
  | d + 1 => 3 * (zS d + 2)
def zB : Nat → Int
  | 0 => 3
  | d + 1 => 3 * (zB d + 1000)
def zN : Nat → Int
  | 0 => 2
  | d + 1 => 2 + 3 * (8 + zN d)
theorem ordinal_ok {x : Rw} (hx : bytes x) : ∀ (d k : Nat) (a c : Int), d ≤ 3 → d + 200 < k → 0 ≤ a → a + 1000 * (d : Int) ≤ 1000000 → Drew x a (zN d) (spec_l1Cur_ordinal k x a c d) (IsT (zS d) (zB d))
  | d, 0, _, _, _, h, _, _ => absurd h (by omega)
  | 0, k + 1, a, c, _, hk, h0, h1 => by
    simp only [spec_l1Cur_ordinal, spec_l1Cur_ordinal_b]
    rw [if_pos (by simp)]
    refine Drew.mono (Drew.bind (n := 2) (m := 0) (pick_ok hx h0 (by omega) (by omega)) fun v a' c' q1 q2 q3 => ?_) (by simp [zN])
    simp only [odInt_eq, Option.bind_some]
    exact ⟨_, a', _, rfl, q1, by omega, intT v, rfl, intT_size v, intT_sm (by simp only [zB]; omega)⟩
  | d + 1, k + 1, a, c, hd, hk, h0, h1 => by
    have h3 : cap = 1099511627776 := rfl
    have b1 : zS d ≤ 33 ∧ 3 ≤ zB d ∧ zB d ≤ 100000 ∧ 0 ≤ zN d ∧ zN d ≤ 122 := by
      have : d = 0 ∨ d = 1 ∨ d = 2 := by omega
      rcases this with rfl | rfl | rfl <;> simp [zS, zB, zN]
    simp only [spec_l1Cur_ordinal, spec_l1Cur_ordinal_b]
    rw [if_neg (by omega)]
    refine Drew.mono (Drew.bind (n := 2) (m := 3 * (8 + zN d)) (among_ok (Q := fun i => ∃ m : Nat, i = m ∧ m ≤ 3) hx h0 (by omega) (by simp) ?_) fun v a' c' q1 q2 q3 => ?_) (by simp [zN])
    · intro r hr
      simp only [List.mem_cons, List.not_mem_nil, or_false] at hr
      rcases hr with rfl | rfl | rfl | rfl | rfl | rfl
      · exact ⟨_, rfl, 0, rfl, by omega⟩
      · exact ⟨_, rfl, 1, rfl, by omega⟩
      · exact ⟨_, rfl, 1, rfl, by omega⟩
      · exact ⟨_, rfl, 2, rfl, by omega⟩
      · exact ⟨_, rfl, 2, rfl, by omega⟩
      · exact ⟨_, rfl, 3, rfl, by omega⟩
    · obtain ⟨m, rfl, hm⟩ := q3
      have f1 : (m : Int) * (8 + zN d) ≤ 3 * (8 + zN d) := Int.mul_le_mul_of_nonneg_right (by omega) (by omega)
      have f2 : (m : Int) * (zB d + 1000) ≤ 3 * (zB d + 1000) := Int.mul_le_mul_of_nonneg_right (by omega) (by omega)
      have f3 : m * (zS d + 2) ≤ 3 * (zS d + 2) := Nat.mul_le_mul_right _ hm
      have ew : IntKind.i64.wrap (((d + 1 : Nat) : Int) - 1) = (d : Int) := by rw [wid (by omega) (by omega)]; omega
      refine Drew.mono (ord_loop (S := zS d) (M := zS (d + 1)) (B := zB d) (BM := zB (d + 1)) (N := zN d) (d := ((d + 1 : Nat) : Int)) (L := 1000000 - 1000 * (d : Int)) (by omega) hx b1.2.1 b1.2.2.2.1 ?_ (by simp only [zS]; omega) (by simp only [zS]; omega) (by simp only [zB]; omega) k m nil a' c' 0 (by omega) (by omega) q1 (by omega) (by simp only [zS, size]; omega) trivial (by omega) (by simp only [zB]; omega)) f1
      intro a c z1 z2
      rw [ew]
      exact ordinal_ok hx d k a c (by omega) (by omega) z1 (by omega)

theorem any_l0 {x : Rw} {y : Int × Rw × Int × Int} {K : Rw → Option (Rw × Rw × Int × Int)} {a n : Int} {Q : Rw → Prop} {M : Nat} (hK : ∀ t : T, t.size ≤ M → sm 40000 t → Drew x a n (K t.rows) Q) :
    ∀ (f v : Nat) (t : T), v < f → v ≤ 1000 → t.size + v ≤ M → sm 40000 t → Drew x a n (spec_l1Cur_anyOrdinal_l0 y K f (v : Int) t.rows) Q
  | 0, v, _, h, _, _, _ => absurd h (Nat.not_lt_zero _)
  | f + 1, 0, t, _, _, hs, st => by
    simp only [spec_l1Cur_anyOrdinal_l0]
    rw [if_neg (by omega)]
    exact hK t (by omega) st
  | f + 1, v + 1, t, h, hv, hs, st => by
    have ew : IntKind.i64.wrap (((v + 1 : Nat) : Int) - 1) = (v : Int) := by rw [wid (by omega) (by omega)]; omega
    simp only [spec_l1Cur_anyOrdinal_l0]
    rw [if_pos (by omega), odTerm_ok t (by omega), Option.bind_some, ew]
    exact any_l0 hK f v (cons t 1 nil) (by omega) (by omega) (by simp only [size]; omega) ⟨st, by omega, trivial⟩
theorem any_l1 {k : Nat} {x : Rw} {y : Int × Rw × Int × Int} {K : Rw → Option (Rw × Rw × Int × Int)} {a n BM : Int} {Q : Rw → Prop} {M : Nat} (hM : M + 1 < k) (hcap : M + 1 ≤ cap) (hBM : BM ≤ 1000000000) (hK : ∀ t : T, t.size ≤ M → sm BM t → Drew x a n (K t.rows) Q) :
    ∀ (f v : Nat) (t : T) (C : Int), v < f → v ≤ 1000 → t.size + 2 * v ≤ M → sm C t → 0 ≤ C → C + 1000000 * (v : Int) ≤ BM → Drew x a n (spec_l1Cur_anyOrdinal_l1 k y K f (v : Int) t.rows) Q
  | 0, v, _, _, h, _, _, _, _, _ => absurd h (Nat.not_lt_zero _)
  | f + 1, 0, t, C, _, _, hs, st, hC, hb => by
    simp only [spec_l1Cur_anyOrdinal_l1]
    rw [if_neg (by omega)]
    exact hK t (by omega) (sm_mono st (by omega))
  | f + 1, v + 1, t, C, h, hv, hs, st, hC, hb => by
    have ew : IntKind.i64.wrap (((v + 1 : Nat) : Int) - 1) = (v : Int) := by rw [wid (by omega) (by omega)]; omega
    have z := intT_size ((v + 1 : Nat) : Int)
    simp only [spec_l1Cur_anyOrdinal_l1]
    obtain ⟨r, q1, q2, q3⟩ := meet_ok (k := k) (C := C) (D := 1000000) (c := 1000000) (t := t) (e := intT ((v + 1 : Nat) : Int)) (intT_sm (by omega)) (by omega) (by omega) (by omega) (by omega) st
    rw [if_pos (by omega), odInt_eq, Option.bind_some, q1, Option.bind_some, ew]
    exact any_l1 hM hcap hBM hK f v r (C + 1000000) (by omega) (by omega) (by omega) q3 (by omega) (by omega)
theorem any_ok {k : Nat} {x : Rw} (hx : bytes x) (hk : 500 < k) {a c : Int} (h0 : 0 ≤ a) (h1 : a ≤ 10000) : Drew x a 500 (spec_l1Cur_anyOrdinal k x a c) (IsT 200 100000000) := by
  have h3 : cap = 1099511627776 := rfl
  unfold spec_l1Cur_anyOrdinal
  refine Drew.mono (Drew.bind (n := 2) (m := 450) (among_ok (Q := fun i => ∃ m : Nat, i = m ∧ m ≤ 3) hx h0 (by omega) (by simp) ?_) fun v a1 c1 q1 q2 q3 => ?_) (by omega)
  · intro r hr
    simp only [List.mem_cons, List.not_mem_nil, or_false] at hr
    rcases hr with rfl | rfl | rfl | rfl
    · exact ⟨_, rfl, 0, rfl, by omega⟩
    · exact ⟨_, rfl, 1, rfl, by omega⟩
    · exact ⟨_, rfl, 2, rfl, by omega⟩
    · exact ⟨_, rfl, 3, rfl, by omega⟩
  obtain ⟨d, rfl, hd⟩ := q3
  have b1 : zS d ≤ 105 ∧ 0 ≤ zB d ∧ zB d ≤ 40000 ∧ 0 ≤ zN d ∧ zN d ≤ 392 := by
    have : d = 0 ∨ d = 1 ∨ d = 2 ∨ d = 3 := by omega
    rcases this with rfl | rfl | rfl | rfl <;> simp [zS, zB, zN]
  refine Drew.mono (Drew.bind (n := 392) (m := 50) (Drew.mono (ordinal_ok hx d k a1 c1 hd (by omega) q1 (by omega)) b1.2.2.2.2) fun r a2 c2 q4 q5 q6 => ?_) (by omega)
  obtain ⟨t, rfl, z1, z2⟩ := q6
  have s4 : sm 40000 t := sm_mono z2 b1.2.2.1
  have s8 : sm 100000000 t := sm_mono z2 (by omega)
  have hl := t.len_size
  have fin : ∀ (t : T) (a' c' : Int), 0 ≤ a' → t.size ≤ 200 → sm 100000000 t → Drew x a' 0 (spec_l1Cur_anyOrdinal_p4 x a' c' t.rows) (IsT 200 100000000) := fun t a' c' h z1 z2 => ⟨_, a', _, rfl, h, by omega, t, rfl, z1, z2⟩
  show Drew x a2 50 (spec_l1Cur_anyOrdinal_p2 k x a2 c2 t.rows) _
  unfold spec_l1Cur_anyOrdinal_p2
  refine Drew.mono (Drew.bind (n := 2) (m := 40) (one_ok hx q4 (by omega) (by omega)) fun v a3 c3 q7 q8 _ => ?_) (by omega)
  simp only
  split
  · unfold spec_l1Cur_anyOrdinal_p3
    refine Drew.mono (Drew.bind (n := 2) (m := 30) (pick_ok hx q7 (by omega) (by omega)) fun u a4 c4 q9 q10 q11 => ?_) (by omega)
    simp only
    have app1 : ∀ (e : T) (n : Int), e.size ≤ 1 → sm 100000000 e → (-100000000 ≤ n ∧ n ≤ 100000000) → ∀ a' c' : Int, 0 ≤ a' → Drew x a' 0 (if t.rows.length + 1 ≤ cap then spec_l1Cur_anyOrdinal_p4 x a' c' (t.rows ++ [[Go.AX.D.sl e.rows, Go.AX.D.int .i64 n]]) else none) (IsT 200 100000000) := by
      intro e n y1 y2 y3 a' c' y4
      rw [if_pos (by rw [rows_len]; omega), snocRows]
      exact fin _ _ _ y4 (by rw [size_app]; simp only [size]; omega) (sm_app.2 ⟨s8, y2, y3, trivial⟩)
    split
    · rw [odInt_eq, Option.bind_some]
      exact Drew.mono (app1 _ 1 (intT_size 7) (intT_sm (by omega)) (by omega) a4 c4 q9) (by omega)
    · split
      · refine Drew.mono (Drew.bind (n := 2) (m := 0) (among_ok (Q := fun i => -100000000 ≤ i ∧ i ≤ 100000000) hx q9 (by omega) (by simp) ?_) fun w a5 c5 q12 q13 q14 => ?_) (by omega)
        · intro r hr
          simp only [List.mem_cons, List.not_mem_nil, or_false] at hr
          rcases hr with rfl | rfl | rfl | rfl <;> exact ⟨_, rfl, by omega, by omega⟩
        · exact app1 nil w (by simp [size]) trivial q14 a5 c5 q12
      · split
        · refine Drew.mono (Drew.bind (n := 2) (m := 0) (pick_ok hx q9 (by omega) (by omega)) fun w a5 c5 q12 q13 q14 => ?_) (by omega)
          obtain ⟨m, rfl⟩ : ∃ m : Nat, w = m := ⟨w.toNat, by omega⟩
          simp only
          exact any_l0 (M := 200) (fun t' y1 y2 => fin t' _ _ q12 y1 (sm_mono y2 (by omega))) k m t (by omega) (by omega) (by omega) s4
        · refine Drew.mono (Drew.bind (n := 2) (m := 0) (pick_ok hx q9 (by omega) (by omega)) fun w a5 c5 q12 q13 q14 => ?_) (by omega)
          obtain ⟨m, rfl⟩ : ∃ m : Nat, w = m := ⟨w.toNat, by omega⟩
          simp only
          exact any_l1 (k := k) (M := 200) (BM := 100000000) (by omega) (by omega) (by omega) (fun t' y1 y2 => fin t' _ _ q12 y1 y2) k m t 40000 (by omega) (by omega) (by omega) s4 (by omega) (by omega)
  · exact ⟨_, a3, _, rfl, q7, by omega, t, rfl, by omega, s8⟩
theorem splus_sm {B : Int} : ∀ (b a : T) (C : Int), sm C a → sm B b → 0 ≤ B → 0 ≤ C → C + B * b.len ≤ 1000000000000 → sm (C + B * b.len) (splus a b)
  | nil, a, C, sa, _, _, _, _ => sm_mono sa (by simp [len])
  | cons f d m, a, C, sa, sb, hB, hC, hs => by
    have e : B * ((m.len + 1 : Nat) : Int) = B * m.len + B := by rw [Int.natCast_add, Int.mul_add]; omega
    simp only [len] at hs ⊢
    have hnn : 0 ≤ B * (m.len : Int) := Int.mul_nonneg hB (by omega)
    rw [e] at hs ⊢
    have := splus_sm m (addL (popT a f) f d) (C + B) (sm_addL (sm_pop sa) sb.1 sb.2.1 ⟨hC, hB, by omega⟩) sb.2.2 hB (by omega) (by omega)
    exact sm_mono this (by omega)
end Go.Proofs.Try

namespace Go.Proofs.Try
open Go Go.AX T
theorem zN_two {d : Nat} (h : d ≤ 2) : zN d ≤ 1000 ∧ zS d ≤ 300 := by
  have : d = 0 ∨ d = 1 ∨ d = 2 := by omega
  rcases this with rfl | rfl | rfl <;> decide
/-- What is drawn. -/
theorem drawPow_ok {k : Nat} {x : Rw} (hx : bytes x) (hk : 1000 < k) : ∃ a b : T, spec_DrawPowerOfOrdinals k x = some (a.rows, b.rows) ∧ a.size ≤ 300 ∧ b.size ≤ 300 := by
  unfold spec_DrawPowerOfOrdinals
  obtain ⟨s, a1, c1, e1, p1, p2, q1⟩ := among_ok (x := x) (a := 0) (c := 0) (es := [[D.int .i64 0], [D.int .i64 1], [D.int .i64 1], [D.int .i64 2]]) (Q := fun s => 0 ≤ s ∧ s ≤ 2) hx (by omega) (by omega) (by simp) (fun r hr => by simp at hr; rcases hr with rfl | rfl | rfl <;> exact ⟨_, rfl, by omega, by omega⟩)
  rw [e1, Option.bind_some]
  obtain ⟨d, rfl⟩ : ∃ d : Nat, s = d := ⟨s.toNat, by omega⟩
  have hd : d ≤ 2 := by omega
  obtain ⟨n1, n2⟩ := zN_two hd
  obtain ⟨r, a2, c2, e2, p3, p4, a, rfl, z1, _⟩ := ordinal_ok hx d k a1 c1 (by omega) (by omega) p1 (by omega)
  have e2' : spec_l1Cur_ordinal k x a1 c1 (d : Int) = some (a.rows, x, a2, c2) := e2
  simp only
  rw [e2', Option.bind_some]
  have za : a.size ≤ 300 := by omega
  obtain ⟨v, a3, c3, e3, p5, p6, _⟩ := one_ok (m := 10) (c := c2) hx p3 (by omega) (by omega)
  simp only
  rw [e3, Option.bind_some]
  simp only
  cases v with
  | true =>
    simp only [if_true]
    obtain ⟨r, a4, c4, e4, p7, p8, b, rfl, z2, _⟩ := any_ok (k := k) (c := c3) hx (by omega) p5 (by omega)
    rw [e4, Option.bind_some]
    simp only
    obtain ⟨r, a5, c5, e5, p9, p10, b', rfl, z3, _⟩ := any_ok (k := k) (c := c4) hx (by omega) p7 (by omega)
    rw [e5, Option.bind_some]
    exact ⟨_, _, rfl, by omega, by omega⟩
  | false =>
    simp only [Bool.false_eq_true, if_false]
    obtain ⟨s, a4, c4, e4, p7, p8, q2⟩ := among_ok (x := x) (a := a3) (c := c3) (es := [[D.int .i64 0], [D.int .i64 0], [D.int .i64 1], [D.int .i64 2]]) (Q := fun s => 0 ≤ s ∧ s ≤ 2) hx p5 (by omega) (by simp) (fun r hr => by simp at hr; rcases hr with rfl | rfl | rfl <;> exact ⟨_, rfl, by omega, by omega⟩)
    rw [e4, Option.bind_some]
    obtain ⟨d, rfl⟩ : ∃ d : Nat, s = d := ⟨s.toNat, by omega⟩
    have hd : d ≤ 2 := by omega
    obtain ⟨n3, n4⟩ := zN_two hd
    obtain ⟨r, a5, c5, e5, p9, p10, b, rfl, z2, _⟩ := ordinal_ok hx d k a4 c4 (by omega) (by omega) p7 (by omega)
    have e5' : spec_l1Cur_ordinal k x a4 c4 (d : Int) = some (b.rows, x, a5, c5) := e5
    simp only
    rw [e5', Option.bind_some]
    have zb : b.size ≤ 300 := by omega
    exact ⟨_, _, rfl, za, zb⟩
theorem mulO_eq {k : Nat} {a b : T} (oa : ordP a = true) (ob : ordP b = true) (hk : 5000000 < k) (hc : k ≤ cap) : impl_MultiplyOrdinals k a.rows b.rows = some ((toldT (timesT a b)).1.rows, (toldT (timesT a b)).2) := by
  have h3 : cap = 1099511627776 := rfl
  have za := ordP_size oa
  have zb := ordP_size ob
  have rb := ordP_rt ob
  obtain ⟨t1, _, t3⟩ := times_both (k := k) (ordP_rt oa) ⟨okT_mono rb.1 (by omega) (by omega), rb.2⟩ (by omega) hc
  have zt := t3.2.2.2
  unfold impl_MultiplyOrdinals
  rw [both_eq k a b (by omega) (by omega) (by omega) (by omega), oa, ob]
  simp only [Bool.and_self, Option.bind_some, if_true]
  rw [t1]
  simp only [Option.bind_some]
  rw [told_eq k _ (by omega) (by omega)]
  simp only [Option.bind_some]
  cases (toldT (timesT a b)).2 <;> rfl
theorem pows_p7 {k : Nat} {a b c x : T} (hk : 5000000 < k) (hc : k ≤ cap) (za : a.size ≤ 300) (zb : b.size ≤ 300) (zc : c.size ≤ 300) {ok : Bool} (zx : x.size ≤ 30) (hx : ok = true → ordP a = true ∧ ordP b = true ∧ ordP x = true ∧ PW a b x) : laws_FnOrdinalPowers_p7 k a.rows b.rows x.rows c.rows ok = some true := by
  have h3 : cap = 1099511627776 := rfl
  obtain ⟨y, ok2, ey, _, zy, hy⟩ := pow_both (k := k) (a := a) (b := c) (by omega) (by omega) hk hc
  have zs := plusT_size b c
  have zs2 : (addT b c).1.size ≤ 600 := by
    unfold addT
    split
    · unfold toldT; split
      · show (plusT b c).size ≤ 600; omega
      · exact Nat.zero_le _
    · exact Nat.zero_le _
  obtain ⟨z, ok3, ez, _, zz, hz⟩ := pow_both (k := k) (a := a) (b := (addT b c).1) (by omega) (by omega) hk hc
  have ea := AddOrdinals_eq k b c (by omega) (by omega)
  have p10 : ∀ f1 f2 f3 f4 : Bool, f1 = ok3 → f2 = ok2 → f3 = (addT b c).2 → f4 = ok → laws_FnOrdinalPowers_p10 k x.rows y.rows z.rows f1 f2 f3 f4 = some true := by
    intro f1 f2 f3 f4 h1 h2 h3' h4
    unfold laws_FnOrdinalPowers_p10
    cases f1 with
    | false => cases f2 <;> cases f3 <;> cases f4 <;> rfl
    | true =>
      cases f2 with
      | false => cases f3 <;> cases f4 <;> rfl
      | true =>
        cases f3 with
        | false => cases f4 <;> rfl
        | true =>
          cases f4 with
          | false => rfl
          | true =>
            obtain ⟨oa, ob, ox, px⟩ := hx h4.symm
            obtain ⟨_, oc, oy, py⟩ := hy h2.symm
            obtain ⟨_, os, oz, pz⟩ := hz h1.symm
            obtain ⟨_, _, os2, es⟩ := addT_ok h3'.symm
            rw [es] at pz
            have e := pow_sum oa ob oc os2 ox oy px py pz
            simp only [cond]
            rw [mulO_eq ox oy hk hc, e]
            simp only [Option.bind_some]
            rw [told_lift oz]
            simp only [if_true]
            unfold laws_FnOrdinalPowers_p12
            simp only [cond]
            rw [same_refl k z (by omega) (by omega)]
            rfl
  have p9 : ∀ f1 f2 f3 : Bool, f1 = ok2 → f2 = (addT b c).2 → f3 = ok → laws_FnOrdinalPowers_p9 k a.rows x.rows (addT b c).1.rows y.rows f1 f2 f3 = some true := by
    intro f1 f2 f3 h1 h2 h4
    unfold laws_FnOrdinalPowers_p9
    rw [ez]
    simp only [Option.bind_some]
    have p := p10 ok3 f1 f2 f3 rfl h1 h2 h4
    cases f1 <;> cases f2 <;> cases f3 <;> cases ok3 <;> simp only [cond, if_true, Bool.false_eq_true, if_false] <;> exact p
  have p8 : ∀ f1 f2 : Bool, f1 = (addT b c).2 → f2 = ok → laws_FnOrdinalPowers_p8 k a.rows x.rows c.rows (addT b c).1.rows f1 f2 = some true := by
    intro f1 f2 h1 h2
    unfold laws_FnOrdinalPowers_p8
    rw [ey]
    simp only [Option.bind_some]
    have p := p9 ok2 f1 f2 rfl h1 h2
    cases f1 <;> cases f2 <;> cases ok2 <;> simp only [cond, if_true, Bool.false_eq_true, if_false] <;> exact p
  unfold laws_FnOrdinalPowers_p7
  rw [ea]
  simp only [Option.bind_some]
  have p := p8 (addT b c).2 ok rfl rfl
  cases hs : (addT b c).2 <;> rw [hs] at p <;> cases ok <;> simp only [cond, if_true, Bool.false_eq_true, if_false] <;> exact p
theorem pows_p3 {k : Nat} {a b : T} {y : Rw} (hy : bytes y) (hk : 5000000 < k) (hc : k ≤ cap) (za : a.size ≤ 300) (zb : b.size ≤ 300) : laws_FnOrdinalPowers_p3 k y a.rows b.rows = some true := by
  have h3 : cap = 1099511627776 := rfl
  obtain ⟨x, ok, ex, es, zx, hx⟩ := pow_both (k := k) (a := a) (b := b) (by omega) (by omega) hk hc
  obtain ⟨_, c, ed, _, zc⟩ := drawPow_ok (k := k) hy (by omega)
  have p6 : laws_FnOrdinalPowers_p6 k y a.rows b.rows x.rows ok = some true := by
    unfold laws_FnOrdinalPowers_p6
    rw [ed]
    simp only [Option.bind_some]
    have p := pows_p7 (ok := ok) hk hc za zb zc zx hx
    cases ok <;> exact p
  have p5 : laws_FnOrdinalPowers_p5 k y a.rows b.rows x.rows x.rows ok ok = some true := by
    unfold laws_FnOrdinalPowers_p5
    rw [same_refl k x (by omega) (by omega)]
    simp only [Option.bind_some, if_true]
    cases ok <;> exact p6
  have p4 : laws_FnOrdinalPowers_p4 k y a.rows b.rows x.rows ok = some true := by
    unfold laws_FnOrdinalPowers_p4
    rw [es]
    simp only [Option.bind_some]
    cases ok <;> exact p5
  unfold laws_FnOrdinalPowers_p3
  rw [ex]
  simp only [Option.bind_some]
  cases ok <;> exact p4
theorem FnOrdinalPowers_pure {x y : Rw} (hx : bytes x) (hy : bytes y) : laws_FnOrdinalPowers 5000001 x y = some true := by
  unfold laws_FnOrdinalPowers laws_big
  have h3 : cap = 1099511627776 := rfl
  obtain ⟨a, b, e, za, zb⟩ := drawPow_ok (k := 5000001) hx (by omega)
  have p2 : laws_FnOrdinalPowers_p2 5000001 x y = some true := by
    unfold laws_FnOrdinalPowers_p2
    rw [e, Option.bind_some]
    exact pows_p3 hy (by omega) (by omega) za zb
  split
  · rfl
  · split
    · rfl
    · rw [Option.bind_some, if_neg (by decide)]; exact p2
end Go.Proofs.Try
