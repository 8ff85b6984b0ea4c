/- What the printed functions compute: plain data. -/
import Derived.Test.YtlhdcdnbiodphaaHA1
set_option linter.unusedVariables false
set_option linter.unusedSimpArgs false
namespace Go.Proofs.Try
open Go Go.AX

theorem wid {n : Int} (h1 : -9223372036854775808 ≤ n) (h2 : n < 9223372036854775808) : IntKind.i64.wrap n = n := wrap_in h1 h2
/-- An ordinal: its terms, exponents and coefficients. -/
inductive T where
  | nil
  | cons (e : T) (c : Int) (l : T)
namespace T
def rows : T → Rw
  | nil => []
  | cons e c l => [.sl (rows e), .int .i64 c] :: rows l
def size : T → Nat
  | nil => 0
  | cons e _ l => size e + size l + 1
def len : T → Nat
  | nil => 0
  | cons _ _ l => len l + 1
def drop : T → Nat → T
  | t, 0 => t
  | nil, _ + 1 => nil
  | cons _ _ l, n + 1 => drop l n
def app : T → T → T
  | nil, b => b
  | cons e c l, b => cons e c (app l b)
@[simp] theorem drop_zero (t : T) : drop t 0 = t := by cases t <;> rfl
@[simp] theorem drop_nil (n : Nat) : drop nil n = nil := by cases n <;> rfl
@[simp] theorem rows_len (t : T) : (rows t).length = len t := by
  induction t with
  | nil => rfl
  | cons e c l _ ih => simp [rows, len, ih]
theorem len_size (t : T) : len t ≤ size t := by
  induction t with
  | nil => simp [len]
  | cons e c l _ ih => simp [len, size]; omega
@[simp] theorem rows_app (a b : T) : rows (app a b) = rows a ++ rows b := by
  induction a with
  | nil => rfl
  | cons e c l _ ih => simp [app, rows, ih]
theorem rows_drop (t : T) (i : Nat) : rows (drop t i) = (rows t).drop i := by
  induction t generalizing i with
  | nil => cases i <;> simp [drop, rows]
  | cons e c l _ ih => cases i with
    | zero => simp [drop]
    | succ i => simp [drop, rows, ih]
theorem rowsWide (t : T) : ∀ cs ∈ rows t, cs.length = 2 := by
  induction t with
  | nil => intro cs h; cases h
  | cons e c l _ ih =>
    intro cs h
    simp only [rows, List.mem_cons] at h
    rcases h with rfl | h
    · rfl
    · exact ih cs h
theorem rowsWide_drop (t : T) (i : Nat) : ∀ cs ∈ (rows t).drop i, cs.length = 2 := fun cs h => rowsWide t cs (List.mem_of_mem_drop h)
theorem drop_len (t : T) (i : Nat) : len (drop t i) = len t - i := by rw [← rows_len, rows_drop, List.length_drop, rows_len]
theorem drop_succ {t : T} {i : Nat} {e : T} {c : Int} {l : T} (h : drop t i = cons e c l) : drop t (i + 1) = l := by
  induction t generalizing i with
  | nil => simp at h
  | cons e' c' l' _ ih =>
    cases i with
    | zero => simp only [drop, cons.injEq] at h ⊢; simp [h.2.2]
    | succ i => exact ih h
theorem drop_size {t : T} {i : Nat} : size (drop t i) ≤ size t := by
  induction t generalizing i with
  | nil => simp
  | cons e c l _ ih =>
    cases i with
    | zero => simp
    | succ i => simp only [drop, size]; have := ih (i := i); omega
theorem drop_cons_size {t : T} {i : Nat} {e : T} {c : Int} {l : T} (h : drop t i = cons e c l) : size e + size l + 1 ≤ size t := by
  have := drop_size (t := t) (i := i); rw [h] at this; exact this
theorem drop_lt {t : T} {i : Nat} {e : T} {c : Int} {l : T} (h : drop t i = cons e c l) : i < len t := by
  have := drop_len t i; rw [h] at this; simp only [len] at this; omega
theorem drop_ge {t : T} {i : Nat} (h : drop t i = nil) : len t ≤ i := by
  have := drop_len t i; rw [h] at this; simp only [len] at this; omega
theorem drop_of_ge {t : T} {i : Nat} (h : len t ≤ i) : drop t i = nil := by
  have := drop_len t i
  cases hd : drop t i with
  | nil => rfl
  | cons e c l => rw [hd] at this; simp only [len] at this; omega
theorem rows_get {t : T} {i : Nat} {e : T} {c : Int} {l : T} (h : drop t i = cons e c l) : (rows t)[i]? = some [.sl (rows e), .int .i64 c] := by
  have := rows_drop t i
  rw [h] at this
  have h2 : ((rows t).drop i)[0]? = some [.sl (rows e), .int .i64 c] := by rw [← this]; rfl
  rwa [List.getElem?_drop, Nat.add_zero] at h2
@[simp] theorem app_nil (t : T) : app t nil = t := by
  induction t with
  | nil => rfl
  | cons e c l _ ih => simp [app, ih]
theorem app_assoc (a b c : T) : app (app a b) c = app a (app b c) := by
  induction a with
  | nil => rfl
  | cons e k l _ ih => simp [app, ih]
theorem size_app (a b : T) : (app a b).size = a.size + b.size := by
  induction a with
  | nil => simp [app, size]
  | cons e c l _ ih => simp [app, size, ih]; omega
theorem len_app (a b : T) : (app a b).len = a.len + b.len := by
  induction a with
  | nil => simp [app, len]
  | cons e c l _ ih => simp [app, len, ih]; omega
theorem rows_inj : ∀ {a b : T}, rows a = rows b → a = b
  | nil, nil, _ => rfl
  | nil, cons _ _ _, h => by simp [rows] at h
  | cons _ _ _, nil, h => by simp [rows] at h
  | cons e c l, cons f d m, h => by
    simp only [rows, List.cons.injEq, D.sl.injEq, D.int.injEq, true_and, and_true] at h
    obtain ⟨⟨h1, h2⟩, h3⟩ := h
    rw [rows_inj h1, h2, rows_inj h3]
end T
open T
theorem row_rows {α : Type} {t : T} {i : Int} {n : Nat} (hi : i = n) {e : T} {c : Int} {l : T} (h : drop t n = cons e c l) (F : Rw → List D → Option α) : (if 0 ≤ i then (match (rows t)[i.toNat]? with | some cs => F (rows t) cs | none => none) else none) = F (rows t) [.sl (rows e), .int .i64 c] := by
  subst hi
  rw [if_pos (by omega), Int.toNat_natCast, rows_get h]

/-! ### the order -/
def cmpI (a b : Int) : Int := if a < b then -1 else if b < a then 1 else 0
def cmpT : T → T → Int
  | nil, nil => 0
  | nil, cons _ _ _ => -1
  | cons _ _ _, nil => 1
  | cons e c l, cons f d m => if cmpT e f = 0 then (if cmpI c d = 0 then cmpT l m else cmpI c d) else cmpT e f
theorem cmpI_refl (a : Int) : cmpI a a = 0 := by simp [cmpI]
theorem cmpI_eq {a b : Int} : cmpI a b = 0 ↔ a = b := by unfold cmpI; split <;> (try split) <;> simp <;> omega
theorem cmpI_neg (a b : Int) : cmpI b a = - cmpI a b := by unfold cmpI; split <;> split <;> (try split) <;> omega
theorem cmpT_range (a b : T) : cmpT a b = -1 ∨ cmpT a b = 0 ∨ cmpT a b = 1 := by
  induction a generalizing b with
  | nil => cases b <;> simp [cmpT]
  | cons e c l ihe ihl =>
    cases b with
    | nil => simp [cmpT]
    | cons f d m =>
      simp only [cmpT]
      split
      · split
        · exact ihl m
        · unfold cmpI; split <;> (try split) <;> simp
      · exact ihe f
theorem cmpT_refl (a : T) : cmpT a a = 0 := by
  induction a with
  | nil => rfl
  | cons e c l ihe ihl => simp [cmpT, ihe, ihl, cmpI_refl]
theorem cmpT_eq {a b : T} : cmpT a b = 0 ↔ a = b := by
  induction a generalizing b with
  | nil => cases b <;> simp [cmpT]
  | cons e c l ihe ihl =>
    cases b with
    | nil => simp [cmpT]
    | cons f d m =>
      simp only [cmpT, cons.injEq]
      constructor
      · intro h
        split at h
        · rename_i h1
          split at h
          · rename_i h2; exact ⟨ihe.1 h1, cmpI_eq.1 h2, ihl.1 h⟩
          · rename_i h2; exact absurd h h2
        · rename_i h1; exact absurd h h1
      · rintro ⟨rfl, rfl, rfl⟩
        rw [if_pos (cmpT_refl e), if_pos (cmpI_refl c)]; exact cmpT_refl l
theorem cmpT_neg (a b : T) : cmpT b a = - cmpT a b := by
  induction a generalizing b with
  | nil => cases b <;> simp [cmpT]
  | cons e c l ihe ihl =>
    cases b with
    | nil => simp [cmpT]
    | cons f d m =>
      simp only [cmpT, ihe f, ihl m, cmpI_neg c d]
      split <;> split <;> (try split) <;> (try split) <;> omega
theorem cmpI_trans {a b c : Int} (h1 : cmpI a b < 0) (h2 : cmpI b c < 0) : cmpI a c < 0 := by
  unfold cmpI at *
  split at h1 <;> (try split at h1) <;> split at h2 <;> (try split at h2) <;> split <;> (try split) <;> omega
theorem cmpT_trans {a b c : T} (h1 : cmpT a b < 0) (h2 : cmpT b c < 0) : cmpT a c < 0 := by
  induction a generalizing b c with
  | nil =>
    cases b with
    | nil => simp [cmpT] at h1
    | cons f d m => cases c with
      | nil => simp [cmpT] at h2
      | cons g k n => simp [cmpT]
  | cons e x l ihe ihl =>
    cases b with
    | nil => simp [cmpT] at h1
    | cons f y m =>
      cases c with
      | nil => simp [cmpT] at h2
      | cons g z n =>
        simp only [cmpT] at h1 h2 ⊢
        by_cases q1 : cmpT e f = 0
        · rw [if_pos q1] at h1
          obtain rfl := cmpT_eq.1 q1
          by_cases q2 : cmpT e g = 0
          · rw [if_pos q2] at h2 ⊢
            by_cases q3 : cmpI x y = 0
            · rw [if_pos q3] at h1
              obtain rfl := cmpI_eq.1 q3
              by_cases q4 : cmpI x z = 0
              · rw [if_pos q4] at h2 ⊢; exact ihl h1 h2
              · rw [if_neg q4] at h2 ⊢; exact h2
            · rw [if_neg q3] at h1
              by_cases q4 : cmpI y z = 0
              · rw [if_pos q4] at h2
                obtain rfl := cmpI_eq.1 q4
                rw [if_neg q3]; exact h1
              · rw [if_neg q4] at h2
                have := cmpI_trans h1 h2
                rw [if_neg (by omega)]; exact this
          · rw [if_neg q2] at h2 ⊢; exact h2
        · rw [if_neg q1] at h1
          by_cases q2 : cmpT f g = 0
          · obtain rfl := cmpT_eq.1 q2
            rw [if_neg q1]; exact h1
          · rw [if_neg q2] at h2
            have := ihe h1 h2
            rw [if_neg (by omega)]; exact this

/-! ### what is right -/
def nodesL : T → Nat
  | nil => 0
  | cons e _ l => 2 + nodesL e + nodesL l
def dp : T → Nat
  | nil => 0
  | cons e _ l => max (1 + dp e) (dp l)
/-- Coefficients in their range, exponents that fall; p: the exponent ahead. -/
def formA : Option T → T → Bool
  | _, nil => true
  | p, cons e c l => decide (1 ≤ c) && decide (c ≤ 1000000) && formA none e && (match p with | none => true | some q => decide (0 < cmpT q e)) && formA (some e) l
def ordP (t : T) : Bool := decide (1 + nodesL t ≤ 60) && decide (dp t ≤ 6) && formA none t
theorem nodes_size (t : T) : nodesL t = 2 * size t := by
  induction t with
  | nil => rfl
  | cons e c l ihe ihl => simp only [nodesL, size, ihe, ihl]; omega
theorem ordP_size {t : T} (h : ordP t = true) : size t ≤ 30 := by
  simp only [ordP, Bool.and_eq_true, decide_eq_true_eq] at h
  have := nodes_size t
  omega
end Go.Proofs.Try

namespace Go.Proofs.Try
theorem bind_of {α β : Type} {o : Option α} {y : α} {K : α → Option β} {r : Option β} (h : o = some y) (hk : K y = r) : o.bind K = r := by rw [h]; exact hk
theorem ite_pos {α : Type} {c : Prop} [Decidable c] {a b r : α} (h : c) (hk : a = r) : (if c then a else b) = r := by rw [if_pos h]; exact hk
theorem ite_neg {α : Type} {c : Prop} [Decidable c] {a b r : α} (h : ¬ c) (hk : b = r) : (if c then a else b) = r := by rw [if_neg h]; exact hk
theorem cond_tt {α : Type} {a b r : α} (h : a = r) : cond true a b = r := h
theorem cond_ff {α : Type} {a b r : α} (h : b = r) : cond false a b = r := h
end Go.Proofs.Try

namespace Go.Proofs.Try
open Go Go.AX T
/-! ### rows of terms -/
@[simp] theorem cell_T {α : Type} (x : Rw) (c : Int) (K : Rw → Int → Option α) : cell_si [.sl x, .int .i64 c] K = K x c := rfl
theorem row_T {α : Type} {t : T} {i : Int} {n : Nat} (hi : i = n) {e : T} {c : Int} {l : T} (h : drop t n = cons e c l) (K : Rw → Int → Option α) : row_si t.rows i K = K e.rows c := by
  subst hi
  unfold row_si
  rw [if_pos (by omega), Int.toNat_natCast, rows_get h]; rfl
@[simp] theorem row_T0 {α : Type} (e : T) (c : Int) (l : T) (K : Rw → Int → Option α) : row_si (cons e c l).rows 0 K = K e.rows c := row_T (n := 0) rfl rfl K
theorem lenI (t : T) : ((t.rows.length : Nat) : Int) = (t.len : Int) := by rw [rows_len]
/-! ### impl's order -/
theorem impl_compare_eq (a b : Int) : impl_compare a b = some (cmpI a b) := by unfold impl_compare cmpI; split <;> (try split) <;> rfl
theorem CompareFunc_loop {rec_ : Rw → Rw → Option Int} {a b : T} {K : Option Int} (hr : ∀ e f : T, e.size < a.size → rec_ e.rows f.rows = some (cmpT e f)) (hK : K = (if (a.len : Int) < b.len then some (-1) else some 0)) :
    ∀ (t : T) (i : Nat), drop a i = t → i ≤ a.len → i ≤ b.len → slices_CompareFunc__cmpTerms_l0 rec_ a.rows b.rows K t.rows i = some (cmpT t (drop b i))
  | nil, i, hd, ha', hb => by
    simp only [rows, slices_CompareFunc__cmpTerms_l0, hK]
    have h1 := drop_ge hd
    by_cases h2 : i < b.len
    · cases hq : drop b i with
      | nil => have := drop_ge hq; omega
      | cons f d m =>
        have : a.len = i ∨ a.len < i := by omega
        rw [if_pos (by omega)]; rfl
    · rw [drop_of_ge (t := b) (by omega), if_neg (by
        intro q
        omega)]; rfl
  | cons e c l, i, hd, ha', hb => by
    simp only [rows, slices_CompareFunc__cmpTerms_l0, cell_T]
    have hs := drop_cons_size hd
    by_cases h2 : b.len ≤ i
    · rw [if_pos (by rw [lenI]; omega), drop_of_ge h2]; rfl
    · rw [if_neg (by rw [lenI]; omega)]
      cases hq : drop b i with
      | nil => have := drop_ge hq; omega
      | cons f d m =>
        rw [row_T rfl hq]
        simp only [impl_cmpTerms, hr e f (by omega), Option.bind_some, impl_compare_eq]
        by_cases h3 : cmpT e f = 0
        · simp only [h3, if_true, Option.bind_some]
          by_cases h4 : cmpI c d = 0
          · rw [if_pos h4, CompareFunc_loop hr hK l (i + 1) (drop_succ hd) (drop_lt hd) (by omega), drop_succ hq]
            simp [cmpT, h3, h4]
          · rw [if_neg h4]; simp [cmpT, h3, h4]
        · simp only [if_neg h3, Option.bind_some]; simp [cmpT, h3]
theorem impl_cmp_eq : ∀ (k : Nat) (a b : T), a.size < k → a.size ≤ cap → impl_cmp k a.rows b.rows = some (cmpT a b)
  | 0, _, _, h, _ => absurd h (Nat.not_lt_zero _)
  | k + 1, a, b, h, hc => by
    have hl := a.len_size
    simp only [impl_cmp, impl_cmp_b, slices_CompareFunc__cmpTerms]
    rw [if_pos (by rw [rows_len]; omega)]
    rw [CompareFunc_loop (a := a) (b := b) (fun e f he => impl_cmp_eq k e f (by omega) (by omega)) (by rw [lenI, lenI]) a 0 (drop_zero a) (by omega) (by omega)]
    simp
/-! ### spec's order -/
/-- Coefficients whose differences do not run over. -/
def calm : T → Prop
  | nil => True
  | cons e c l => calm e ∧ (-1000000000000000 ≤ c ∧ c ≤ 1000000000000000) ∧ calm l
theorem calm_drop {t : T} (h : calm t) : ∀ {i : Nat}, calm (drop t i) := by
  induction t with
  | nil => intro i; simpa using h
  | cons e c l _ ih => intro i; cases i with
    | zero => simpa using h
    | succ i => exact ih h.2.2
theorem sign_eq {c d : Int} (hc : -1000000000000000 ≤ c ∧ c ≤ 1000000000000000) (hd : -1000000000000000 ≤ d ∧ d ≤ 1000000000000000) : spec_l1Sign (IntKind.i64.wrap (c - d)) = some (cmpI c d) := by
  rw [wid (by omega) (by omega)]
  unfold spec_l1Sign cmpI
  by_cases h1 : c < d
  · rw [if_neg (by omega), if_pos (by omega), if_pos h1]
  · by_cases h2 : d < c
    · rw [if_pos (by omega), if_neg h1, if_pos h2]
    · rw [if_neg (by omega), if_neg (by omega), if_neg h1, if_neg h2]
theorem odCmp_loop {rec_ : Rw → Rw → Option Int} {a b : T} {K : Option Int} (ha : calm a) (hb : calm b) (hr : ∀ e f : T, e.size < a.size → calm e → calm f → rec_ e.rows f.rows = some (cmpT e f)) (hK : K = (if (a.len : Int) < b.len then some (-1) else some 0)) :
    ∀ (t : T) (i : Nat), drop a i = t → i ≤ a.len → i ≤ b.len → spec_odCmp_l0 rec_ a.rows b.rows K t.rows i = some (cmpT t (drop b i))
  | nil, i, hd, ha', hb' => by
    simp only [rows, spec_odCmp_l0, hK]
    have h1 := drop_ge hd
    by_cases h2 : i < b.len
    · cases hq : drop b i with
      | nil => have := drop_ge hq; omega
      | cons f d m => rw [if_pos (by omega)]; rfl
    · rw [drop_of_ge (t := b) (by omega), if_neg (by
        intro q
        omega)]; rfl
  | cons e c l, i, hd, ha', hb' => by
    simp only [rows, spec_odCmp_l0, cell_T]
    have hs := drop_cons_size hd
    have hca := calm_drop ha (i := i)
    rw [hd] at hca
    by_cases h2 : i = b.len
    · rw [if_pos (by rw [lenI]; omega), drop_of_ge (by omega)]; rfl
    · rw [if_neg (by rw [lenI]; omega)]
      cases hq : drop b i with
      | nil => have := drop_ge hq; omega
      | cons f d m =>
        have hcb := calm_drop hb (i := i)
        rw [hq] at hcb
        rw [row_T rfl hq]
        simp only [hr e f (by omega) hca.1 hcb.1, Option.bind_some]
        by_cases h3 : cmpT e f = 0
        · rw [if_pos h3]
          by_cases h4 : c = d
          · subst h4
            rw [if_pos rfl, odCmp_loop ha hb hr hK l (i + 1) (drop_succ hd) (drop_lt hd) (drop_lt hq), drop_succ hq]
            simp [cmpT, h3, cmpI_refl]
          · rw [if_neg h4, sign_eq hca.2.1 hcb.2.1]
            have : cmpI c d ≠ 0 := fun q => h4 (cmpI_eq.1 q)
            simp [cmpT, h3, this]
        · rw [if_neg h3]; simp [cmpT, h3]
theorem odCmp_eq : ∀ (k : Nat) (a b : T), calm a → calm b → a.size < k → a.size ≤ cap → spec_odCmp k a.rows b.rows = some (cmpT a b)
  | 0, _, _, _, _, h, _ => absurd h (Nat.not_lt_zero _)
  | k + 1, a, b, ha, hb, h, hc => by
    have hl := a.len_size
    simp only [spec_odCmp, spec_odCmp_b]
    rw [if_pos (by rw [rows_len]; omega)]
    have := odCmp_loop (rec_ := spec_odCmp k) (a := a) (b := b) (K := spec_odCmp_p2 a.rows b.rows) ha hb (fun e f he h1 h2 => odCmp_eq k e f h1 h2 (by omega) (by omega)) (by unfold spec_odCmp_p2; rw [lenI, lenI]) a 0 (drop_zero a) (by omega) (by omega)
    rw [this, drop_zero]
end Go.Proofs.Try

namespace Go.Proofs.Try
open Go Go.AX T
theorem impl_in_eq (n a b : Int) : impl_in n a b = some (decide (a ≤ n) && decide (n ≤ b)) := by
  unfold impl_in
  by_cases h1 : a ≤ n <;> by_cases h2 : n ≤ b <;> simp [h1, h2]
theorem l1In_eq (n a b : Int) : spec_l1In n a b = some (decide (a ≤ n) && decide (n ≤ b)) := by
  unfold spec_l1In
  by_cases h1 : a ≤ n <;> by_cases h2 : n ≤ b <;> simp [h1, h2]
/-- The exponent of the term ahead of the i-th. -/
def ahead (t : T) : Nat → Option T
  | 0 => none
  | i + 1 => match drop t i with
    | cons e _ _ => some e
    | nil => none
theorem ahead_succ {t : T} {i : Nat} {e : T} {c : Int} {l : T} (h : drop t i = cons e c l) : ahead t (i + 1) = some e := by simp [ahead, h]
theorem ahead_some {t : T} {i : Nat} (h0 : 0 < i) (h : i ≤ t.len) : ∃ q c l, drop t (i - 1) = cons q c l ∧ ahead t i = some q := by
  obtain ⟨j, rfl⟩ : ∃ j, i = j + 1 := ⟨i - 1, by omega⟩
  cases hq : drop t j with
  | nil => have := drop_ge hq; omega
  | cons q c l => exact ⟨q, c, l, hq, ahead_succ hq⟩
theorem dp_drop {t : T} : ∀ {i : Nat}, dp (drop t i) ≤ dp t := by
  induction t with
  | nil => intro i; simp
  | cons e c l _ ih => intro i; cases i with
    | zero => simp
    | succ i => have := ih (i := i); simp only [drop, dp]; omega
/-- What a check of a tree tells. -/
def Tells (r : Bool × Int) (n : Int) (ok : Prop) (m : Int) : Prop := (r.1 = true ↔ ok) ∧ (r.1 = true → r.2 = m) ∧ 0 ≤ r.2 ∧ r.2 ≤ 61 ∧ n ≤ r.2
theorem at2_loop {k : Nat} {rec_ : Rw → Int → Int → Int → Option (Bool × Int)} {a : T} {d1 deep : Int} (hd : 0 ≤ deep ∧ deep ≤ 6) (hk : a.size ≤ k) (hc : a.size ≤ cap)
    (hr : ∀ (e : T) (x n : Int), e.size < a.size → 0 ≤ n → n ≤ 60 → ∃ r, rec_ e.rows x (deep + 1) n = some r ∧ Tells r n (n + 1 + nodesL e ≤ 60 ∧ deep + 1 + dp e ≤ 6 ∧ formA none e = true) (n + 1 + nodesL e)) :
    ∀ (t : T) (i : Nat) (m : Int), drop a i = t → i ≤ a.len → 0 ≤ m → m ≤ 60 → ∃ r, impl_ordinalAt_2_l0 k rec_ a.rows d1 deep (fun v => impl_ordinalAt_2_p3 v) t.rows i m = some r ∧ Tells r m (m + nodesL t ≤ 60 ∧ deep + dp t ≤ 6 ∧ formA (ahead a i) t = true) (m + nodesL t)
  | nil, i, m, hdr, hi, h0, h60 => by
    refine ⟨(true, m), rfl, ?_⟩
    simp only [Tells, nodesL, dp, formA]
    refine ⟨⟨fun _ => ⟨by omega, by omega, trivial⟩, fun _ => trivial⟩, fun _ => by omega, h0, by omega, by omega⟩
  | cons e c l, i, m, hdr, hi, h0, h60 => by
    have hs := drop_cons_size hdr
    simp only [rows, impl_ordinalAt_2_l0, cell_T]
    rw [wid (n := m + 1) (by omega) (by omega)]
    by_cases h1 : 60 < m + 1
    · rw [if_pos h1]
      refine ⟨_, rfl, ?_⟩
      simp only [Tells, nodesL]
      refine ⟨⟨fun h => (by cases h), fun h => by omega⟩, fun h => (by cases h), by omega, by omega, by omega⟩
    · rw [if_neg h1, impl_in_eq, Option.bind_some]
      by_cases h2 : (decide (1 ≤ c) && decide (c ≤ 1000000)) = true
      · rw [if_pos h2, wid (n := deep + 1) (by omega) (by omega)]
        obtain ⟨r1, e1, t1, t2, t3, t4, t5⟩ := hr e c (m + 1) (by omega) (by omega) (by omega)
        rw [e1, Option.bind_some]
        obtain ⟨b1, m1⟩ := r1
        dsimp only at t1 t2 t3 t4 t5 ⊢
        cases b1 with
        | false =>
          rw [if_neg (by simp)]
          refine ⟨_, rfl, ?_⟩
          simp only [Tells]
          refine ⟨⟨fun h => (by cases h), fun h => ?_⟩, fun h => (by cases h), t3, t4, by omega⟩
          obtain ⟨q1, q2, q3⟩ := h
          simp only [nodesL, dp, formA, Bool.and_eq_true] at q1 q2 q3
          exact t1.2 ⟨by omega, by omega, q3.1.1.2⟩
        | true =>
          obtain ⟨u1, u2, u3⟩ := t1.1 rfl
          obtain rfl := t2 rfl
          rw [if_pos rfl]
          have go : ∀ (hp : (match ahead a i with | none => true | some q => decide (0 < cmpT q e)) = true), ∃ r, impl_ordinalAt_2_l0 k rec_ a.rows d1 deep (fun v => impl_ordinalAt_2_p3 v) l.rows (i + 1) (m + 1 + 1 + nodesL e) = some r ∧ Tells r m (m + nodesL (cons e c l) ≤ 60 ∧ deep + dp (cons e c l) ≤ 6 ∧ formA (ahead a i) (cons e c l) = true) (m + nodesL (cons e c l)) := by
            intro hp
            obtain ⟨r, er, s1, s2, s3, s4, s5⟩ := at2_loop hd hk hc hr l (i + 1) (m + 1 + 1 + nodesL e) (drop_succ hdr) (drop_lt hdr) (by omega) (by omega)
            refine ⟨r, er, ?_⟩
            rw [ahead_succ hdr] at s1
            simp only [Tells, nodesL, dp, formA, Bool.and_eq_true]
            refine ⟨s1.trans ⟨fun q => ⟨by have := q.1; omega, by have := q.2.1; omega, ⟨⟨(by simpa using h2), u3⟩, hp⟩, q.2.2⟩, fun q => ⟨by have := q.1; omega, by have := q.2.1; omega, q.2.2.2⟩⟩, fun q => by rw [s2 q]; omega, s3, s4, by omega⟩
          by_cases h3 : (0 : Int) < (i : Int)
          · obtain ⟨q, qc, ql, hq, ha⟩ := ahead_some (t := a) (i := i) (by omega) hi
            have hqs := drop_cons_size hq
            rw [if_pos h3, wid (n := (i : Int) - 1) (by omega) (by have := a.len_size; have : cap = 1099511627776 := rfl; omega), row_T (n := i - 1) (by omega) hq, impl_cmp_eq k q e (by omega) (by omega), Option.bind_some]
            by_cases h4 : cmpT q e ≤ 0
            · rw [if_pos h4]
              refine ⟨_, rfl, ?_⟩
              simp only [Tells]
              refine ⟨⟨fun h => (by cases h), fun h => ?_⟩, fun h => (by cases h), t3, t4, by omega⟩
              obtain ⟨_, _, q3⟩ := h
              simp only [formA, ha, Bool.and_eq_true, decide_eq_true_eq] at q3
              have := q3.1.2
              omega
            · rw [if_neg h4]
              exact go (by rw [ha]; simp; omega)
          · rw [if_neg h3]
            have : i = 0 := by omega
            subst this
            exact go rfl
      · rw [if_neg h2]
        refine ⟨_, rfl, ?_⟩
        simp only [Tells]
        refine ⟨⟨fun h => (by cases h), fun h => ?_⟩, fun h => (by cases h), by omega, by omega, by omega⟩
        obtain ⟨_, _, q3⟩ := h
        simp only [formA, Bool.and_eq_true] at q3 h2
        exact absurd q3.1.1.1 h2
theorem at2_eq : ∀ (k : Nat) (a : T) (x deep n : Int), a.size < k → a.size ≤ cap → 0 ≤ deep → deep ≤ 7 → 0 ≤ n → n ≤ 60 →
    ∃ r, impl_ordinalAt_2 k a.rows x deep n = some r ∧ Tells r n (n + 1 + nodesL a ≤ 60 ∧ deep + dp a ≤ 6 ∧ formA none a = true) (n + 1 + nodesL a)
  | 0, _, _, _, _, h, _, _, _, _, _ => absurd h (Nat.not_lt_zero _)
  | k + 1, a, x, deep, n, h, hc, h0, h7, n0, n60 => by
    have hl := a.len_size
    simp only [impl_ordinalAt_2, impl_ordinalAt_2_b]
    rw [wid (n := n + 1) (by omega) (by omega)]
    by_cases h1 : 60 < n + 1
    · rw [if_pos h1]
      refine ⟨_, rfl, ?_⟩
      simp only [Tells]
      exact ⟨⟨fun h => (by cases h), fun h => by omega⟩, fun h => (by cases h), by omega, by omega, by omega⟩
    · rw [if_neg h1]
      by_cases h2 : 6 < deep
      · rw [if_pos h2]
        refine ⟨_, rfl, ?_⟩
        simp only [Tells]
        exact ⟨⟨fun h => (by cases h), fun h => by omega⟩, fun h => (by cases h), by omega, by omega, by omega⟩
      · rw [if_neg h2, if_pos (by rw [rows_len]; omega)]
        obtain ⟨r, e, s1, s2, s3, s4, s5⟩ := at2_loop (k := k) (rec_ := impl_ordinalAt_2 k) (a := a) (d1 := x) (deep := deep) (by omega) (by omega) hc (fun e y m he m0 m60 => at2_eq k e y (deep + 1) m (by omega) (by omega) (by omega) (by omega) m0 m60) a 0 (n + 1) (drop_zero a) (by omega) (by omega) (by omega)
        exact ⟨r, e, s1, s2, s3, s4, by omega⟩
theorem at1_loop {k : Nat} {a : T} (hk : a.size < k) (hc : a.size ≤ cap) :
    ∀ (t : T) (i : Nat) (m : Int), drop a i = t → i ≤ a.len → 0 ≤ m → m ≤ 60 → ∃ r : Bool × Int, impl_ordinalAt_l0 k a.rows 0 (fun v => impl_ordinalAt_p3 a.rows v) t.rows i m = some (r.1, a.rows, r.2) ∧ (r.1 = true ↔ m + nodesL t ≤ 60 ∧ dp t ≤ 6 ∧ formA (ahead a i) t = true) ∧ (r.1 = true → r.2 = m + nodesL t)
  | nil, i, m, hdr, hi, h0, h60 => by
    refine ⟨(true, m), rfl, ?_⟩
    simp only [nodesL, dp, formA]
    exact ⟨⟨fun _ => ⟨by omega, by omega, trivial⟩, fun _ => trivial⟩, fun _ => by omega⟩
  | cons e c l, i, m, hdr, hi, h0, h60 => by
    have hs := drop_cons_size hdr
    simp only [rows, impl_ordinalAt_l0, cell_T]
    rw [wid (n := m + 1) (by omega) (by omega)]
    by_cases h1 : 60 < m + 1
    · rw [if_pos h1]
      exact ⟨(false, _), rfl, ⟨fun h => (by cases h), fun h => by simp only [nodesL] at h; omega⟩, fun h => (by cases h)⟩
    · rw [if_neg h1, impl_in_eq, Option.bind_some]
      by_cases h2 : (decide (1 ≤ c) && decide (c ≤ 1000000)) = true
      · rw [if_pos h2, wid (n := 0 + 1) (by omega) (by omega)]
        obtain ⟨r1, e1, t1, t2, t3, t4, t5⟩ := at2_eq k e c (0 + 1) (m + 1) (by omega) (by omega) (by omega) (by omega) (by omega) (by omega)
        rw [e1, Option.bind_some]
        obtain ⟨b1, m1⟩ := r1
        dsimp only at t1 t2 t3 t4 t5 ⊢
        cases b1 with
        | false =>
          rw [if_neg (by simp)]
          refine ⟨(false, _), rfl, ⟨fun h => (by cases h), fun h => ?_⟩, fun h => (by cases h)⟩
          obtain ⟨q1, q2, q3⟩ := h
          simp only [nodesL, dp, formA, Bool.and_eq_true] at q1 q2 q3
          exact t1.2 ⟨by omega, by omega, q3.1.1.2⟩
        | true =>
          obtain ⟨u1, u2, u3⟩ := t1.1 rfl
          obtain rfl := t2 rfl
          rw [if_pos rfl]
          have go : ∀ (hp : (match ahead a i with | none => true | some q => decide (0 < cmpT q e)) = true), ∃ r : Bool × Int, impl_ordinalAt_l0 k a.rows 0 (fun v => impl_ordinalAt_p3 a.rows v) l.rows (i + 1) (m + 1 + 1 + nodesL e) = some (r.1, a.rows, r.2) ∧ (r.1 = true ↔ m + nodesL (cons e c l) ≤ 60 ∧ dp (cons e c l) ≤ 6 ∧ formA (ahead a i) (cons e c l) = true) ∧ (r.1 = true → r.2 = m + nodesL (cons e c l)) := by
            intro hp
            obtain ⟨r, er, s1, s2⟩ := at1_loop hk hc l (i + 1) (m + 1 + 1 + nodesL e) (drop_succ hdr) (drop_lt hdr) (by omega) (by omega)
            refine ⟨r, er, ?_⟩
            rw [ahead_succ hdr] at s1
            simp only [nodesL, dp, formA, Bool.and_eq_true]
            exact ⟨s1.trans ⟨fun q => ⟨by have := q.1; omega, by have := q.2.1; omega, ⟨⟨(by simpa using h2), u3⟩, hp⟩, q.2.2⟩, fun q => ⟨by have := q.1; omega, by have := q.2.1; omega, q.2.2.2⟩⟩, fun q => by rw [s2 q]; omega⟩
          by_cases h3 : (0 : Int) < (i : Int)
          · obtain ⟨q, qc, ql, hq, ha⟩ := ahead_some (t := a) (i := i) (by omega) hi
            have hqs := drop_cons_size hq
            rw [if_pos h3, wid (n := (i : Int) - 1) (by omega) (by have := a.len_size; have : cap = 1099511627776 := rfl; omega), row_T (n := i - 1) (by omega) hq, impl_cmp_eq k q e (by omega) (by omega), Option.bind_some]
            by_cases h4 : cmpT q e ≤ 0
            · rw [if_pos h4]
              refine ⟨(false, _), rfl, ⟨fun h => (by cases h), fun h => ?_⟩, fun h => (by cases h)⟩
              obtain ⟨_, _, q3⟩ := h
              simp only [formA, ha, Bool.and_eq_true, decide_eq_true_eq] at q3
              have := q3.1.2
              omega
            · rw [if_neg h4]
              exact go (by rw [ha]; simp; omega)
          · rw [if_neg h3]
            have : i = 0 := by omega
            subst this
            exact go rfl
      · rw [if_neg h2]
        refine ⟨(false, _), rfl, ⟨fun h => (by cases h), fun h => ?_⟩, fun h => (by cases h)⟩
        obtain ⟨_, _, q3⟩ := h
        simp only [formA, Bool.and_eq_true] at q3 h2
        exact absurd q3.1.1.1 h2
theorem at1_eq (k : Nat) (a : T) (hk : a.size < k) (hc : a.size ≤ cap) : ∃ r : Bool × Int, impl_ordinalAt k a.rows 0 0 = some (r.1, a.rows, r.2) ∧ (r.1 = true ↔ ordP a = true) ∧ (r.1 = true → r.2 = 1 + nodesL a) := by
  have hl := a.len_size
  unfold impl_ordinalAt
  rw [wid (n := 0 + 1) (by omega) (by omega), if_neg (by omega), if_neg (by omega), if_pos (by rw [rows_len]; omega)]
  obtain ⟨r, e, s, v⟩ := at1_loop hk hc a 0 (0 + 1) (drop_zero a) (by omega) (by omega) (by omega)
  refine ⟨r, e, s.trans ?_, fun q => by rw [v q]; omega⟩
  simp only [ordP, Bool.and_eq_true, decide_eq_true_eq, ahead]
  exact ⟨fun q => ⟨⟨by have := q.1; omega, q.2.1⟩, q.2.2⟩, fun q => ⟨by have := q.1.1; omega, q.1.2, q.2⟩⟩
theorem IsOrdinal_eq (k : Nat) (a : T) (hk : a.size < k) (hc : a.size ≤ cap) : impl_IsOrdinal k a.rows = some (ordP a) := by
  obtain ⟨r, e, s, _⟩ := at1_eq k a hk hc
  unfold impl_IsOrdinal
  rw [e, Option.bind_some]
  cases hb : ordP a with
  | true => rw [if_pos (s.2 hb)]
  | false => rw [if_neg (fun q => by rw [s.1 q] at hb; cases hb)]
theorem clone_loop {rec_ : Rw → Option Rw} {a : T} {K : Rw → Option Rw} (hr : ∀ e : T, e.size < a.size → rec_ e.rows = some e.rows) : ∀ (t : T) (acc : Rw), t.size ≤ a.size → acc.length + t.len ≤ cap → impl_cloneOrdinal_l0 rec_ a.rows K t.rows acc = K (acc ++ t.rows)
  | nil, acc, _, _ => by simp [rows, impl_cloneOrdinal_l0]
  | cons e c l, acc, hs, hl => by
    simp only [size, len] at hs hl
    simp only [rows, impl_cloneOrdinal_l0, cell_T, hr e (by omega), Option.bind_some]
    rw [if_pos (by omega), clone_loop hr l _ (by omega) (by simp; omega)]
    simp
theorem clone_eq : ∀ (k : Nat) (a : T), a.size < k → a.size ≤ cap → impl_cloneOrdinal k a.rows = some a.rows
  | 0, _, h, _ => absurd h (Nat.not_lt_zero _)
  | k + 1, a, h, hc => by
    have hl := a.len_size
    simp only [impl_cloneOrdinal, impl_cloneOrdinal_b]
    rw [if_pos (by rw [rows_len]; omega), clone_loop (fun e he => clone_eq k e (by omega) (by omega)) a [] (Nat.le_refl _) (by simp; omega)]
    simp
def toldT (t : T) : T × Bool := if ordP t then (t, true) else (nil, false)
theorem own_loop {rec_ : Rw → Option Rw} {a : T} {K : Rw → Option Rw} (hr : ∀ e : T, e.size < a.size → rec_ e.rows = some e.rows) : ∀ (t : T) (acc : Rw), t.size ≤ a.size → acc.length + t.len ≤ cap → spec_odOwn_l0 rec_ a.rows K t.rows acc = K (acc ++ t.rows)
  | nil, acc, _, _ => by simp [rows, spec_odOwn_l0]
  | cons e c l, acc, hs, hl => by
    simp only [size, len] at hs hl
    simp only [rows, spec_odOwn_l0, cell_T, hr e (by omega), Option.bind_some]
    rw [if_pos (by omega), own_loop hr l _ (by omega) (by simp; omega)]
    simp
theorem own_eq : ∀ (k : Nat) (a : T), a.size < k → a.size ≤ cap → spec_odOwn k a.rows = some a.rows
  | 0, _, h, _ => absurd h (Nat.not_lt_zero _)
  | k + 1, a, h, hc => by
    have hl := a.len_size
    simp only [spec_odOwn, spec_odOwn_b]
    rw [if_pos (by rw [rows_len]; omega), own_loop (fun e he => own_eq k e (by omega) (by omega)) a [] (Nat.le_refl _) (by simp; omega)]
    simp
/-! ### spec's check -/
theorem left_loop {rec_ : Rw → Int → Int → Option Int} {a : T} {depth : Int} (hd : 0 ≤ depth ∧ depth ≤ 6) (hr : ∀ (e : T) (v : Int), e.size < a.size → 0 < depth → -1 ≤ v → v ≤ 60 → ∃ r, rec_ e.rows (depth - 1) v = some r ∧ -2 ≤ r ∧ r ≤ 60 ∧ (1 + nodesL e ≤ v ∧ dp e ≤ depth - 1 → r = v - 1 - nodesL e) ∧ (¬ (1 + nodesL e ≤ v ∧ dp e ≤ depth - 1) → r < 0)) :
    ∀ (t : T) (v : Int), t.size ≤ a.size → -2 ≤ v → v ≤ 60 → ∃ r, spec_odLeft_l0 rec_ a.rows depth (fun v => some v) t.rows v = some r ∧ -2 ≤ r ∧ r ≤ 60 ∧ (nodesL t ≤ v ∧ dp t ≤ depth → r = v - nodesL t) ∧ (¬ (nodesL t ≤ v ∧ dp t ≤ depth) → r < 0)
  | nil, v, _, v0, v60 => ⟨v, rfl, v0, v60, fun _ => by simp [nodesL], fun h => by simp only [nodesL, dp] at h; omega⟩
  | cons e c l, v, hs, v0, v60 => by
    simp only [size] at hs
    simp only [rows, spec_odLeft_l0, cell_T]
    by_cases h1 : v < 0
    · rw [if_pos h1]
      exact ⟨-1, rfl, by omega, by omega, fun h => by simp only [nodesL] at h; omega, fun _ => by omega⟩
    · rw [if_neg h1]
      by_cases h2 : depth = 0
      · rw [if_pos h2]
        exact ⟨-1, rfl, by omega, by omega, fun h => by simp only [dp] at h; omega, fun _ => by omega⟩
      · rw [if_neg h2, wid (n := depth - 1) (by omega) (by omega), wid (n := v - 1) (by omega) (by omega)]
        obtain ⟨r1, e1, p1, p2, p3, p4⟩ := hr e (v - 1) (by omega) (by omega) (by omega) (by omega)
        rw [e1, Option.bind_some]
        obtain ⟨r, er, q1, q2, q3, q4⟩ := left_loop hd hr l r1 (by omega) p1 p2
        refine ⟨r, er, q1, q2, fun h => ?_, fun h => ?_⟩
        · simp only [nodesL, dp] at h ⊢
          have e2 := p3 ⟨by omega, by omega⟩
          rw [q3 ⟨by omega, by omega⟩, e2]; omega
        · by_cases h3 : 1 + (nodesL e : Int) ≤ v - 1 ∧ dp e ≤ depth - 1
          · have e2 := p3 h3
            refine q4 fun q => h ?_
            simp only [nodesL, dp]
            omega
          · exact q4 fun q => by have := p4 h3; omega
theorem left_eq : ∀ (k : Nat) (a : T) (depth v : Int), a.size < k → a.size ≤ cap → 0 ≤ depth → depth ≤ 6 → -1 ≤ v → v ≤ 60 →
    ∃ r, spec_odLeft k a.rows depth v = some r ∧ -2 ≤ r ∧ r ≤ 60 ∧ (1 + nodesL a ≤ v ∧ dp a ≤ depth → r = v - 1 - nodesL a) ∧ (¬ (1 + nodesL a ≤ v ∧ dp a ≤ depth) → r < 0)
  | 0, _, _, _, h, _, _, _, _, _ => absurd h (Nat.not_lt_zero _)
  | k + 1, a, depth, v, h, hc, d0, d6, v0, v60 => by
    have hl := a.len_size
    simp only [spec_odLeft, spec_odLeft_b]
    rw [if_pos (by rw [rows_len]; omega), wid (n := v - 1) (by omega) (by omega)]
    obtain ⟨r, er, q1, q2, q3, q4⟩ := left_loop (rec_ := spec_odLeft k) (a := a) (depth := depth) ⟨d0, d6⟩ (fun e u he hd u0 u60 => left_eq k e (depth - 1) u (by omega) (by omega) (by omega) (by omega) u0 u60) a (v - 1) (Nat.le_refl _) (by omega) (by omega)
    exact ⟨r, er, q1, q2, fun q => q3 ⟨by omega, q.2⟩, fun q => q4 fun u => q ⟨by omega, u.2⟩⟩
theorem form_loop {k : Nat} {rec_ : Rw → Int → Option Bool} {a : T} {depth : Int} (hd : 0 ≤ depth ∧ depth ≤ 6) (hk : a.size ≤ k) (hc : a.size ≤ cap) (ha : calm a)
    (hr : ∀ e : T, e.size < a.size → calm e → rec_ e.rows (depth - 1) = some (decide ((dp e : Int) ≤ depth - 1) && formA none e)) :
    ∀ (t : T) (i : Nat), drop a i = t → i ≤ a.len → spec_odForm_l0 k rec_ a.rows depth spec_odForm_p3 t.rows i = some (decide ((dp t : Int) ≤ depth) && formA (ahead a i) t)
  | nil, i, hdr, hi => by
    have : decide ((dp nil : Int) ≤ depth) = true := decide_eq_true (by simp only [dp]; omega)
    rw [this]; rfl
  | cons e c l, i, hdr, hi => by
    have hs := drop_cons_size hdr
    have hca := calm_drop ha (i := i)
    rw [hdr] at hca
    simp only [rows, spec_odForm_l0, cell_T, l1In_eq, Option.bind_some]
    by_cases h2 : (decide (1 ≤ c) && decide (c ≤ 1000000)) = true
    · rw [if_pos h2, wid (n := depth - 1) (by omega) (by omega), hr e (by omega) hca.1, Option.bind_some]
      by_cases h3 : (decide ((dp e : Int) ≤ depth - 1) && formA none e) = true
      · rw [if_pos h3]
        simp only [Bool.and_eq_true, decide_eq_true_eq] at h3
        have go : ∀ (hp : (match ahead a i with | none => true | some q => decide (0 < cmpT q e)) = true), spec_odForm_l0 k rec_ a.rows depth spec_odForm_p3 l.rows (i + 1) = some (decide ((dp (cons e c l) : Int) ≤ depth) && formA (ahead a i) (cons e c l)) := by
          intro hp
          rw [form_loop hd hk hc ha hr l (i + 1) (drop_succ hdr) (drop_lt hdr), ahead_succ hdr]
          have e1 : decide ((dp (cons e c l) : Int) ≤ depth) = decide ((dp l : Int) ≤ depth) := by simp only [dp]; congr 1; apply propext; omega
          have h6 : formA (ahead a i) (cons e c l) = formA (some e) l := by
            simp only [formA, h2, h3.2, Bool.true_and]
            cases hq : ahead a i with
            | none => simp
            | some q => rw [hq] at hp; simp only at hp; simp [hp]
          rw [e1, h6]
        by_cases h4 : (0 : Int) < (i : Int)
        · obtain ⟨q, qc, ql, hq, ha'⟩ := ahead_some (t := a) (i := i) (by omega) hi
          have hqs := drop_cons_size hq
          have hcq := calm_drop ha (i := i - 1)
          rw [hq] at hcq
          rw [if_pos h4, wid (n := (i : Int) - 1) (by omega) (by have := a.len_size; have : cap = 1099511627776 := rfl; omega), row_T (n := i - 1) (by omega) hq, odCmp_eq k q e hcq.1 hca.1 (by omega) (by omega), Option.bind_some]
          by_cases h5 : cmpT q e ≤ 0
          · rw [if_pos h5]
            have : decide (0 < cmpT q e) = false := by simpa using h5
            simp [formA, ha', this]
          · rw [if_neg h5]
            exact go (by rw [ha']; simp; omega)
        · rw [if_neg h4]
          have : i = 0 := by omega
          subst this
          exact go rfl
      · rw [if_neg h3]
        have : (decide ((dp (cons e c l) : Int) ≤ depth) && formA (ahead a i) (cons e c l)) = false := by
          refine Bool.eq_false_iff.2 fun hx => h3 ?_
          rw [Bool.and_eq_true, decide_eq_true_eq] at hx ⊢
          obtain ⟨x1, x2⟩ := hx
          simp only [dp] at x1
          simp only [formA, Bool.and_eq_true] at x2
          exact ⟨by omega, x2.1.1.2⟩
        rw [this]
    · rw [if_neg h2]
      have : formA (ahead a i) (cons e c l) = false := by
        simp only [formA]
        cases hx : (decide (1 ≤ c) && decide (c ≤ 1000000)) with
        | true => exact absurd hx h2
        | false => simp
      rw [this, Bool.and_false]
theorem form_eq : ∀ (k : Nat) (a : T) (depth : Int), a.size < k → a.size ≤ cap → calm a → -1 ≤ depth → depth ≤ 6 → spec_odForm k a.rows depth = some (decide ((dp a : Int) ≤ depth) && formA none a)
  | 0, _, _, h, _, _, _, _ => absurd h (Nat.not_lt_zero _)
  | k + 1, a, depth, h, hc, ha, d0, d6 => by
    have hl := a.len_size
    simp only [spec_odForm, spec_odForm_b]
    by_cases h1 : depth < 0
    · rw [if_pos h1]
      have : decide ((dp a : Int) ≤ depth) = false := by simp; omega
      rw [this, Bool.false_and]
    · rw [if_neg h1, if_pos (by rw [rows_len]; omega), form_loop (a := a) (by omega) (by omega) hc ha (fun e he hce => form_eq k e (depth - 1) (by omega) (by omega) hce (by omega) (by omega)) a 0 (drop_zero a) (by omega)]
      rfl
theorem odGood_eq (k : Nat) (a : T) (h : a.size < k) (hc : a.size ≤ cap) (ha : calm a) : spec_odGood k a.rows = some (ordP a) := by
  unfold spec_odGood
  obtain ⟨r, er, q1, q2, q3, q4⟩ := left_eq k a 6 60 h hc (by omega) (by omega) (by omega) (by omega)
  rw [er, Option.bind_some]
  by_cases h1 : 1 + nodesL a ≤ 60 ∧ dp a ≤ 6
  · have := q3 ⟨by omega, by omega⟩
    rw [if_pos (by omega), form_eq k a 6 h hc ha (by omega) (by omega), Option.bind_some]
    have h2 : decide ((dp a : Int) ≤ 6) = true := by simp; omega
    simp only [ordP, h2, h1.1, h1.2, decide_true, Bool.true_and]
    cases formA none a <;> rfl
  · have := q4 (by omega)
    rw [if_neg (by omega)]
    have : ordP a = false := by
      cases hx : ordP a with
      | false => rfl
      | true => simp only [ordP, Bool.and_eq_true, decide_eq_true_eq] at hx; exact absurd hx.1 h1
    rw [this]
end Go.Proofs.Try

namespace Go.Proofs.Try
open Go Go.AX T
theorem fr_snocLen (l e : T) (c : Int) : (app l (cons e c nil)).len = l.len + 1 := by rw [len_app]; rfl
/-- Slices no longer than a machine has. -/
def fitT : T → Prop
  | nil => True
  | cons e c l => fitT e ∧ (e.len : Int) ≤ 9223372036854775807 ∧ fitT l
end Go.Proofs.Try

namespace Go.Proofs.Try
open Go Go.AX T
theorem fr_drop_app (l r : T) : drop (app l r) l.len = r := by
  induction l with
  | nil => simp [app, len]
  | cons e c l _ ih => exact ih
def mkT : T → Int → T
  | nil, _ => nil
  | cons e _ l, k => cons (mkT e k) (k + size e) (mkT l (k + size e + 1))
theorem mkT_len (t : T) (k : Int) : (mkT t k).len = t.len := by
  induction t generalizing k with
  | nil => rfl
  | cons e c l _ ih => simp [mkT, len, ih]
theorem mkT_size (t : T) (k : Int) : (mkT t k).size = t.size := by
  induction t generalizing k with
  | nil => rfl
  | cons e c l ihe ih => simp [mkT, size, ihe, ih]
theorem set_rows (l e e' r : T) (c c' : Int) : (app l (cons e c r)).rows.set l.len [D.sl e'.rows, D.int .i64 c'] = (app l (cons e' c' r)).rows := by
  rw [rows_app, rows_app, ← rows_len l, List.set_append_right (h := Nat.le_refl _), Nat.sub_self]; rfl
end Go.Proofs.Try

namespace Go.Proofs.Try
open Go Go.AX T
abbrev w (n : Int) : Int := IntKind.i64.wrap n
theorem drop_app (l r : T) : drop (app l r) l.len = r := by
  induction l with
  | nil => simp [app, len]
  | cons e c l _ ih => exact ih
theorem T.snoc (t : T) : t = nil ∨ ∃ l x c, t = app l (cons x c nil) := by
  induction t with
  | nil => exact .inl rfl
  | cons e c l _ ih =>
    rcases ih with rfl | ⟨l', x, d, rfl⟩
    · exact .inr ⟨nil, e, c, rfl⟩
    · exact .inr ⟨cons e c l', x, d, rfl⟩
theorem calm_app {a b : T} : calm (app a b) ↔ calm a ∧ calm b := by
  induction a with
  | nil => simp [app, calm]
  | cons e c l _ ih => simp only [app, calm, ih, and_assoc]
/-! ### impl's sum -/
def goP : T → T → Int → T → T
  | nil, f, d, m => cons f d m
  | cons e c l, f, d, m => if cmpT e f = 1 then cons e c (goP l f d m) else if cmpT e f = 0 then cons e (w (c + d)) m else goP l f d m
def plusT : T → T → T
  | a, nil => a
  | a, cons f d m => goP a f d m
theorem goP_size (a f : T) (d : Int) (m : T) : (goP a f d m).size ≤ a.size + f.size + m.size + 1 := by
  induction a with
  | nil => simp [goP, size]
  | cons e c l _ ih =>
    simp only [goP]
    split
    · simp only [size]; omega
    · split
      · simp only [size]; omega
      · simp only [size]; omega
theorem plusT_size (a b : T) : (plusT a b).size ≤ a.size + b.size := by
  cases b with
  | nil => simp [plusT]
  | cons f d m => simp only [plusT, size]; have := goP_size a f d m; omega
theorem impl_isZero_eq (t : T) : impl_isZero t.rows = some (match t with | nil => true | cons _ _ _ => false) := by
  unfold impl_isZero
  cases t with
  | nil => rfl
  | cons e c l => rw [if_neg (by rw [lenI]; simp only [len]; omega)]
theorem plus_loop {k : Nat} {a b f m : T} {d : Int} (hb : b = cons f d m) (hk : a.size < k) (hc : a.size + b.size + 1 ≤ cap) : ∀ (t acc : T), t.size ≤ a.size → acc.len + t.len ≤ a.len →
    impl_plus_l0 k a.rows b.rows (fun v => impl_plus_p4 b.rows v) t.rows acc.rows = some (app acc (goP t f d m)).rows
  | nil, acc, _, hl => by
    have h1 := a.len_size
    have h2 := b.len_size
    have h3 : cap = 1099511627776 := rfl
    simp only [len] at hl
    show impl_plus_p4 b.rows acc.rows = _
    unfold impl_plus_p4
    rw [if_pos ⟨by rw [rows_len, rows_len]; omega, rowsWide _⟩, rows_app, hb]; rfl
  | cons e c l, acc, hs, hl => by
    have h1 := a.len_size
    have h2 := b.len_size
    have h3 : cap = 1099511627776 := rfl
    have h4 : b.len = m.len + 1 := by rw [hb]; rfl
    simp only [size] at hs
    simp only [len] at hl
    have hq : drop b 0 = cons f d m := by rw [hb]; rfl
    simp only [rows, impl_plus_l0, cell_T]
    rw [row_T (t := b) (i := 0) (n := 0) rfl hq, impl_cmp_eq k e f (by omega) (by omega), Option.bind_some]
    by_cases g1 : cmpT e f = 1
    · rw [if_pos g1, if_pos (by rw [rows_len]; omega)]
      have e1 : acc.rows ++ [[D.sl e.rows, D.int .i64 c]] = (app acc (cons e c nil)).rows := by rw [rows_app]; rfl
      have := plus_loop hb hk hc l (app acc (cons e c nil)) (by omega) (by rw [len_app]; simp only [len]; omega)
      rw [e1, this, app_assoc]
      simp [goP, g1, app]
    · rw [if_neg g1]
      by_cases g2 : cmpT e f = 0
      · rw [if_pos g2, if_pos (by rw [rows_len]; omega), if_pos ⟨by omega, by rw [lenI]; omega, rowsWide b⟩]
        have e3 : b.rows.drop (Int.toNat 1) = m.rows := by rw [hb]; rfl
        rw [e3, if_pos ⟨by simp only [List.length_append, rows_len, List.length_cons, List.length_nil]; omega, rowsWide m⟩]
        have g1' : ¬ (0 : Int) = 1 := by omega
        simp only [goP, g2, if_neg g1', if_true, rows_app, rows]
        rw [List.append_assoc]; rfl
      · rw [if_neg g2]
        have := plus_loop hb hk hc l acc (by omega) (by omega)
        rw [this]
        simp [goP, g1, g2]
theorem plus_eq (k : Nat) (a b : T) (hk : a.size < k) (hc : a.size + b.size + 1 ≤ cap) : impl_plus k a.rows b.rows = some (plusT a b).rows := by
  unfold impl_plus
  have h1 := a.len_size
  rw [impl_isZero_eq, Option.bind_some]
  cases b with
  | nil => rfl
  | cons f d m =>
    simp only
    rw [if_neg (by simp)]
    unfold impl_plus_p2
    rw [if_pos (by rw [rows_len]; omega)]
    have := plus_loop (b := cons f d m) rfl hk hc a nil (Nat.le_refl _) (by simp [len])
    exact this
theorem calm_less {a b : T} (h : ordP a = true) : True := trivial
theorem form_calm {p : Option T} {t : T} (h : formA p t = true) : calm t := by
  induction t generalizing p with
  | nil => trivial
  | cons e c l ihe ihl =>
    simp only [formA, Bool.and_eq_true, decide_eq_true_eq] at h
    obtain ⟨⟨⟨⟨h1, h2⟩, h3⟩, _⟩, h5⟩ := h
    exact ⟨ihe h3, by omega, ihl h5⟩
theorem ordP_form {t : T} (h : ordP t = true) : formA none t = true := by
  simp only [ordP, Bool.and_eq_true] at h; exact h.2
theorem form_any {p : Option T} {t : T} (h : formA p t = true) : formA none t = true := by
  cases t with
  | nil => rfl
  | cons e c l =>
    simp only [formA, Bool.and_eq_true] at h ⊢
    exact ⟨⟨⟨h.1.1.1, h.1.1.2⟩, trivial⟩, h.2⟩
end Go.Proofs.Try

namespace Go.Proofs.Try
open Go Go.AX T
/-- Without the terms at the end that are less than w^e. -/
def popT : T → T → T
  | nil, _ => nil
  | cons x c l, e => match popT l e with
    | nil => if cmpT x e < 0 then nil else cons x c nil
    | cons y d m => cons x c (cons y d m)
/-- A term added at the end. -/
def addL : T → T → Int → T
  | nil, e, d => cons e d nil
  | cons x c l, e, d => match l with
    | nil => if cmpT x e = 0 then cons x (w (c + d)) nil else cons x c (cons e d nil)
    | cons _ _ _ => cons x c (addL l e d)
def splus : T → T → T
  | a, nil => a
  | a, cons f d m => splus (addL (popT a f) f d) m
theorem popT_snoc (l x : T) (c : Int) (e : T) : popT (app l (cons x c nil)) e = if cmpT x e < 0 then popT l e else app l (cons x c nil) := by
  induction l with
  | nil => simp [app, popT]
  | cons y d l _ ih =>
    by_cases h : cmpT x e < 0
    · rw [if_pos h] at ih ⊢
      simp only [app, popT]
      rw [ih]
    · rw [if_neg h] at ih ⊢
      simp only [app, popT]
      rw [ih]
      cases l <;> simp [app]
theorem addL_snoc (l x : T) (c : Int) (e : T) (d : Int) : addL (app l (cons x c nil)) e d = if cmpT x e = 0 then app l (cons x (w (c + d)) nil) else app (app l (cons x c nil)) (cons e d nil) := by
  induction l with
  | nil => simp only [app, addL]
  | cons y k l _ ih =>
    have : app l (cons x c nil) ≠ nil := by cases l <;> simp [app]
    simp only [app, addL]
    split
    · rename_i h; exact absurd h this
    · rename_i h
      rw [ih]
      split <;> rfl
theorem popT_size (a e : T) : (popT a e).size ≤ a.size := by
  induction a with
  | nil => simp [popT, size]
  | cons x c l _ ih =>
    simp only [popT]
    split
    · split <;> simp [size]
    · rename_i h; rw [h] at ih; simp only [size] at ih ⊢; omega
theorem addL_size (a e : T) (d : Int) : (addL a e d).size ≤ a.size + e.size + 1 := by
  induction a with
  | nil => simp [addL, size]
  | cons x c l _ ih =>
    simp only [addL]
    split
    · split <;> simp [size] <;> omega
    · simp only [size] at ih ⊢; omega
theorem splus_size (a b : T) : (splus a b).size ≤ a.size + b.size := by
  induction b generalizing a with
  | nil => simp [splus, size]
  | cons f d m _ ih =>
    have h1 := ih (addL (popT a f) f d)
    have h2 := addL_size (popT a f) f d
    have h3 := popT_size a f
    simp only [splus, size] at *; omega
/-- Coefficients within a bound. -/
def sm (B : Int) : T → Prop
  | nil => True
  | cons e c l => sm B e ∧ (-B ≤ c ∧ c ≤ B) ∧ sm B l
theorem sm_calm {B : Int} {t : T} (h : sm B t) (hB : B ≤ 1000000000000000) : calm t := by
  induction t with
  | nil => trivial
  | cons e c l ihe ihl => exact ⟨ihe h.1, by have := h.2.1; omega, ihl h.2.2⟩
theorem sm_mono {B C : Int} {t : T} (h : sm B t) (hB : B ≤ C) : sm C t := by
  induction t with
  | nil => trivial
  | cons e c l ihe ihl => exact ⟨ihe h.1, by have := h.2.1; omega, ihl h.2.2⟩
theorem sm_app {B : Int} {a b : T} : sm B (app a b) ↔ sm B a ∧ sm B b := by
  induction a with
  | nil => simp [app, sm]
  | cons e c l _ ih => simp only [app, sm, ih, and_assoc]
theorem sm_pop {B : Int} {a e : T} (h : sm B a) : sm B (popT a e) := by
  induction a with
  | nil => trivial
  | cons x c l _ ih =>
    have ih := ih h.2.2
    simp only [popT]
    split
    · split
      · trivial
      · exact ⟨h.1, h.2.1, trivial⟩
    · rename_i hq; rw [hq] at ih; exact ⟨h.1, h.2.1, ih⟩
theorem sm_addL {B C : Int} {a e : T} {d : Int} (h : sm B a) (he : sm C e) (hd : -C ≤ d ∧ d ≤ C) (hB : 0 ≤ B ∧ 0 ≤ C ∧ B + C ≤ 1000000000000000) : sm (B + C) (addL a e d) := by
  induction a with
  | nil => exact ⟨sm_mono he (by omega), by omega, trivial⟩
  | cons x c l _ ih =>
    obtain ⟨h1, h2, h3⟩ := h
    simp only [addL]
    split
    · split
      · refine ⟨sm_mono h1 (by omega), ?_, trivial⟩
        show _ ≤ w (c + d) ∧ w (c + d) ≤ _
        rw [show w (c + d) = c + d from wid (by omega) (by omega)]; omega
      · exact ⟨sm_mono h1 (by omega), by omega, sm_mono he (by omega), by omega, trivial⟩
    · exact ⟨sm_mono h1 (by omega), by omega, ih h3⟩
theorem snoc_last (l x : T) (c : Int) : drop (app l (cons x c nil)) l.len = cons x c nil := drop_app l _
theorem pop_loop {k : Nat} {b f : T} {i : Nat} {d : Int} {K : Rw → Option Rw} (qf : calm f) : ∀ (n : Nat) (x : T), x.len < n → x.size < k → x.size ≤ cap → calm x → spec_odPlus_l1 k b.rows i f.rows d K n x.rows = K (popT x f).rows
  | 0, x, h, _, _, _ => absurd h (Nat.not_lt_zero _)
  | n + 1, x, h, hk, hc, hq => by
    have h3 : cap = 1099511627776 := rfl
    have hl := x.len_size
    rcases T.snoc x with rfl | ⟨l, e, c, rfl⟩
    · simp [rows, spec_odPlus_l1, popT]
    · have hlen : (app l (cons e c nil)).len = l.len + 1 := by rw [len_app]; rfl
      have hsz : (app l (cons e c nil)).size = l.size + e.size + 1 := by rw [size_app]; simp [size]; omega
      rw [hlen] at h hl
      rw [calm_app] at hq
      have e1 : w (((app l (cons e c nil)).rows.length : Int) - 1) = (l.len : Int) := by rw [lenI, hlen]; show w _ = _; rw [show w (((l.len + 1 : Nat) : Int) - 1) = ((l.len + 1 : Nat) : Int) - 1 from wid (by omega) (by omega)]; omega
      simp only [spec_odPlus_l1]
      rw [if_pos (by rw [lenI, hlen]; omega)]
      simp only [w] at e1
      rw [e1, if_pos (by rw [lenI, hlen]; omega), row_T rfl (snoc_last l e c), odCmp_eq k e f hq.2.1 qf (by omega) (by omega), Option.bind_some, popT_snoc]
      by_cases g : cmpT e f < 0
      · rw [if_pos g, if_pos g, if_pos (by rw [lenI, hlen]; omega), Int.toNat_natCast, if_pos (by rw [rows_len, hlen]; omega)]
        have e2 : (app l (cons e c nil)).rows.take l.len = l.rows := by rw [rows_app, ← rows_len l]; exact List.take_left
        rw [e2]
        exact pop_loop qf n l (by omega) (by omega) (by omega) hq.1
      · rw [if_neg g, if_neg g]
theorem splus_loop {k : Nat} {b : T} {B : Int} : ∀ (t : T) (i : Nat) (acc : T) (C : Int), drop b i = t → acc.size + t.size < k → acc.size + t.size ≤ cap → sm C acc → sm B t → 0 ≤ B → 0 ≤ C → C + B * t.len + B ≤ 1000000000000000 →
    spec_odPlus_l0 k b.rows (fun v => spec_odPlus_p3 v) t.rows i acc.rows = some (splus acc t).rows
  | nil, i, acc, C, _, _, _, _, _, _, _, _ => rfl
  | cons f d m, i, acc, C, hd, hk, hc, sa, st, hB, hC, hs => by
    have h3 : cap = 1099511627776 := rfl
    simp only [size] at hk hc
    simp only [len] at hs
    have hs' : C + B + B * m.len + B ≤ 1000000000000000 := by
      have e : B * ((m.len + 1 : Nat) : Int) = B * m.len + B := by rw [Int.natCast_add, Int.mul_add]; omega
      rw [e] at hs; omega
    have hnn : 0 ≤ B * (m.len : Int) := Int.mul_nonneg hB (by omega)
    have ca := sm_calm sa (by omega)
    have cf := sm_calm st.1 (by omega)
    have hl := acc.len_size
    simp only [rows, spec_odPlus_l0, cell_T]
    rw [pop_loop cf k acc (by omega) (by omega) (by omega) ca]
    have hps := popT_size acc f
    have hpc := sm_pop (e := f) sa
    have hal := addL_size (popT acc f) f d
    have hsm : sm (C + B) (addL (popT acc f) f d) := sm_addL hpc st.1 st.2.1 ⟨hC, hB, by omega⟩
    have go := splus_loop (k := k) (b := b) (B := B) m (i + 1) (addL (popT acc f) f d) (C + B) (drop_succ hd) (by omega) (by omega) hsm st.2.2 hB (by omega) hs'
    have e0 : splus acc (cons f d m) = splus (addL (popT acc f) f d) m := rfl
    rw [e0, ← go]
    have hpl := (popT acc f).len_size
    rcases T.snoc (popT acc f) with hn | ⟨l, x, c, hn⟩
    · rw [hn]
      have e1 : IntKind.i64.wrap (((nil : T).rows.length : Int) - 1) = -1 := by rw [lenI]; simp only [len]; exact wid (by omega) (by omega)
      rw [e1, if_neg (by omega), if_pos (by rw [rows_len]; simp only [len]; omega)]
      rfl
    · rw [hn] at hpc hps hpl ⊢
      have hlen : (app l (cons x c nil)).len = l.len + 1 := by rw [len_app]; rfl
      have hsz : (app l (cons x c nil)).size = l.size + x.size + 1 := by rw [size_app]; simp [size]; omega
      have hpc' := (calm_app.1 (sm_calm hpc (by omega))).2
      have e1 : IntKind.i64.wrap (((app l (cons x c nil)).rows.length : Int) - 1) = (l.len : Int) := by rw [lenI, hlen, wid (by omega) (by omega)]; omega
      rw [e1, if_pos (by omega), if_pos (by rw [lenI, hlen]; omega), row_T rfl (snoc_last l x c), odCmp_eq k x f hpc'.1 cf (by omega) (by omega), Option.bind_some, addL_snoc]
      by_cases g : cmpT x f = 0
      · rw [if_pos g, if_pos g]
        have e2 : (app l (cons x c nil)).rows.set (Int.toNat (l.len : Int)) [D.sl x.rows, D.int .i64 (IntKind.i64.wrap (c + d))] = (app l (cons x (w (c + d)) nil)).rows := by
          rw [Int.toNat_natCast, rows_app, rows_app, ← rows_len l, List.set_append_right (h := Nat.le_refl _), Nat.sub_self]; rfl
        rw [e2]
      · rw [if_neg g, if_neg g, if_pos (by rw [rows_len]; omega)]
        have e2 : (app l (cons x c nil)).rows ++ [[D.sl f.rows, D.int .i64 d]] = (app (app l (cons x c nil)) (cons f d nil)).rows := by rw [rows_app (app l _)]; rfl
        rw [e2]
theorem odPlus_eq {B C : Int} (k : Nat) (a b : T) (hk : a.size + b.size < k) (hc : a.size + b.size ≤ cap) (sa : sm C a) (sb : sm B b) (hB : 0 ≤ B) (hC : 0 ≤ C) (hs : C + B * b.len + B ≤ 1000000000000000) : spec_odPlus k a.rows b.rows = some (splus a b).rows := by
  have h1 := a.len_size
  have h2 := b.len_size
  unfold spec_odPlus
  rw [if_pos ⟨by rw [rows_len]; omega, rowsWide a⟩, if_pos (by rw [rows_len]; omega)]
  exact splus_loop b 0 a C (drop_zero b) hk hc sa sb hB hC hs
/-! ### right ones -/
theorem form_sm {p : Option T} {t : T} (h : formA p t = true) : sm 1000000 t := by
  induction t generalizing p with
  | nil => trivial
  | cons e c l ihe ihl =>
    simp only [formA, Bool.and_eq_true, decide_eq_true_eq] at h
    obtain ⟨⟨⟨⟨h1, h2⟩, h3⟩, _⟩, h5⟩ := h
    exact ⟨ihe h3, by omega, ihl h5⟩
/-- Exponents that fall, from below p on. -/
def falls : Option T → T → Prop
  | _, nil => True
  | p, cons e _ l => (∀ q, p = some q → 0 < cmpT q e) ∧ falls (some e) l
theorem form_falls {p : Option T} {t : T} (h : formA p t = true) : falls p t := by
  induction t generalizing p with
  | nil => trivial
  | cons e c l _ ihl =>
    simp only [formA, Bool.and_eq_true, decide_eq_true_eq] at h
    refine ⟨fun q hq => ?_, ihl h.2⟩
    subst hq
    simpa using h.1.2
theorem cmp_lt_of {a b c : T} (h1 : 0 < cmpT a b) (h2 : cmpT b c = 1 ∨ cmpT b c = 0) : 0 < cmpT a c := by
  rcases h2 with h2 | h2
  · have q1 : cmpT b a < 0 := by rw [cmpT_neg a b]; omega
    have q2 : cmpT c b < 0 := by rw [cmpT_neg b c]; omega
    have := cmpT_trans q2 q1
    rw [cmpT_neg c a]; omega
  · obtain rfl := cmpT_eq.1 h2; exact h1
/-- In falling terms, those ahead of a greater one are greater. -/
theorem goP_pop {a f : T} {d : Int} : ∀ {p : Option T}, falls p a → addL (popT a f) f d = goP a f d nil
  | p, h => by
    induction a generalizing p with
    | nil => rfl
    | cons e c l _ ih =>
      have h2 := h.2
      have key : ∀ {x : T}, falls (some x) l → cmpT x f ≤ 0 → popT l f = nil := by
        intro x hx hxf
        clear ih h h2
        induction l generalizing x with
        | nil => rfl
        | cons y k m _ ihm =>
          have hy := hx.1 x rfl
          have hyf : cmpT y f < 0 := by
            rcases cmpT_range x f with q | q | q
            · have q2 : cmpT y x < 0 := by rw [cmpT_neg x y]; omega
              exact cmpT_trans q2 (by omega)
            · obtain rfl := cmpT_eq.1 q
              rw [cmpT_neg x y]; omega
            · omega
          simp only [popT, ihm hx.2 (by omega), if_pos hyf]
      have ih := ih _ h2
      simp only [popT, goP]
      rcases cmpT_range e f with q | q | q
      · rw [key h2 (by omega)]
        have e1 : ¬ cmpT e f = 1 := by omega
        have e2 : ¬ cmpT e f = 0 := by omega
        simp only [if_neg e1, if_neg e2, if_pos (by omega : cmpT e f < 0)]
        rw [← ih, key h2 (by omega)]
      · rw [key h2 (by omega)]
        have e1 : ¬ cmpT e f = 1 := by omega
        simp only [if_neg e1, if_pos q, if_neg (by omega : ¬ cmpT e f < 0), addL]
      · simp only [if_pos q]
        rw [← ih]
        cases hq : popT l f with
        | nil =>
          simp only [if_neg (by omega : ¬ cmpT e f < 0), addL, if_neg (by omega : ¬ cmpT e f = 0)]
        | cons y k m => simp only [addL]
theorem goP_app {a f : T} {d : Int} {m : T} : goP a f d m = app (goP a f d nil) m := by
  induction a with
  | nil => rfl
  | cons e c l _ ih =>
    simp only [goP]
    split
    · simp only [app, ih]
    · split
      · rfl
      · exact ih
/-- What is less than all ahead of it is only added at the end. -/
theorem splus_end {a x : T} {c : Int} : ∀ {m : T}, falls (some x) m → splus (app a (cons x c nil)) m = app (app a (cons x c nil)) m
  | nil, _ => by simp [splus]
  | cons g k m, h => by
    have h1 := h.1 x rfl
    simp only [splus]
    rw [popT_snoc, if_neg (by omega), addL_snoc, if_neg (by omega)]
    rw [splus_end (a := app a (cons x c nil)) h.2, app_assoc (app a (cons x c nil))]
    rfl
theorem goP_snoc {a f : T} {d : Int} : ∃ l c, goP a f d nil = app l (cons f c nil) := by
  induction a with
  | nil => exact ⟨nil, d, rfl⟩
  | cons e c l _ ih =>
    obtain ⟨l', c', h⟩ := ih
    simp only [goP]
    split
    · exact ⟨cons e c l', c', by rw [h]; rfl⟩
    · split
      · rename_i q; obtain rfl := cmpT_eq.1 q; exact ⟨nil, _, rfl⟩
      · exact ⟨l', c', h⟩
theorem splus_plus {a b : T} (ha : falls none a) (hb : falls none b) : splus a b = plusT a b := by
  cases b with
  | nil => cases a <;> rfl
  | cons f d m =>
    simp only [splus, plusT]
    rw [goP_pop ha, goP_app (m := m)]
    obtain ⟨l, c, h⟩ := goP_snoc (a := a) (f := f) (d := d)
    rw [h]
    exact splus_end hb.2
theorem plusT_sm {B C : Int} {a b : T} (ha : sm B a) (hb : sm C b) (hB : 0 ≤ B ∧ 0 ≤ C ∧ B + C ≤ 1000000000000000) : sm (B + C) (plusT a b) := by
  cases b with
  | nil => exact sm_mono ha (by omega)
  | cons f d m =>
    simp only [plusT]
    have hm : sm (B + C) m := sm_mono hb.2.2 (by omega)
    induction a with
    | nil => exact ⟨sm_mono hb.1 (by omega), by have := hb.2.1; omega, hm⟩
    | cons e c l _ ih =>
      have h1 := ha.2.1
      have h2 := hb.2.1
      simp only [goP]
      split
      · exact ⟨sm_mono ha.1 (by omega), by omega, ih ha.2.2⟩
      · split
        · refine ⟨sm_mono ha.1 (by omega), ?_, hm⟩
          show _ ≤ w (c + d) ∧ w (c + d) ≤ _
          rw [show w (c + d) = c + d from wid (by omega) (by omega)]; omega
        · exact ih ha.2.2
def intT (n : Int) : T := if n = 0 then nil else cons nil n nil
theorem intT_size (n : Int) : (intT n).size ≤ 1 := by unfold intT; split <;> simp [size]
theorem intT_sm {n B : Int} (h : -B ≤ n ∧ n ≤ B) : sm B (intT n) := by
  unfold intT; split
  · trivial
  · exact ⟨trivial, h, trivial⟩
theorem snocRows (l e : T) (c : Int) : l.rows ++ [[D.sl e.rows, D.int .i64 c]] = (app l (cons e c nil)).rows := by rw [rows_app]; rfl
end Go.Proofs.Try

namespace Go.Proofs.Try
open Go Go.AX T
theorem form_loop_all {k : Nat} {rec_ : Rw → Int → Option Bool} {a : T} {depth : Int} (hd : 0 ≤ depth ∧ depth ≤ 6) (hk : a.size ≤ k) (hc : a.size ≤ cap)
    (hr : ∀ e : T, e.size < a.size → rec_ e.rows (depth - 1) = some (decide ((dp e : Int) ≤ depth - 1) && formA none e)) :
    ∀ (t : T) (i : Nat), drop a i = t → i ≤ a.len → (∀ q, ahead a i = some q → calm q) → spec_odForm_l0 k rec_ a.rows depth spec_odForm_p3 t.rows i = some (decide ((dp t : Int) ≤ depth) && formA (ahead a i) t)
  | nil, i, hdr, hi, _ => by
    have : decide ((dp nil : Int) ≤ depth) = true := decide_eq_true (by simp only [dp]; omega)
    rw [this]; rfl
  | cons e c l, i, hdr, hi, hcalm => by
    have hs := drop_cons_size hdr
    simp only [rows, spec_odForm_l0, cell_T, l1In_eq, Option.bind_some]
    by_cases h2 : (decide (1 ≤ c) && decide (c ≤ 1000000)) = true
    · rw [if_pos h2, wid (n := depth - 1) (by omega) (by omega), hr e (by omega), Option.bind_some]
      by_cases h3 : (decide ((dp e : Int) ≤ depth - 1) && formA none e) = true
      · rw [if_pos h3]
        simp only [Bool.and_eq_true, decide_eq_true_eq] at h3
        have hce := form_calm h3.2
        have go : ∀ (hp : (match ahead a i with | none => true | some q => decide (0 < cmpT q e)) = true), spec_odForm_l0 k rec_ a.rows depth spec_odForm_p3 l.rows (i + 1) = some (decide ((dp (cons e c l) : Int) ≤ depth) && formA (ahead a i) (cons e c l)) := by
          intro hp
          rw [form_loop_all hd hk hc hr l (i + 1) (drop_succ hdr) (drop_lt hdr) (by rw [ahead_succ hdr]; intro q hq; cases hq; exact hce), ahead_succ hdr]
          have e1 : decide ((dp (cons e c l) : Int) ≤ depth) = decide ((dp l : Int) ≤ depth) := by simp only [dp]; congr 1; apply propext; omega
          have h6 : formA (ahead a i) (cons e c l) = formA (some e) l := by
            simp only [formA, h2, h3.2, Bool.true_and]
            cases hq : ahead a i with
            | none => simp
            | some q => rw [hq] at hp; simp only at hp; simp [hp]
          rw [e1, h6]
        by_cases h4 : (0 : Int) < (i : Int)
        · obtain ⟨q, qc, ql, hq, ha'⟩ := ahead_some (t := a) (i := i) (by omega) hi
          have hqs := drop_cons_size hq
          have hcq := hcalm q ha'
          rw [if_pos h4, wid (n := (i : Int) - 1) (by omega) (by have := a.len_size; have : cap = 1099511627776 := rfl; omega), row_T (n := i - 1) (by omega) hq, odCmp_eq k q e hcq hce (by omega) (by omega), Option.bind_some]
          by_cases h5 : cmpT q e ≤ 0
          · rw [if_pos h5]
            have : decide (0 < cmpT q e) = false := by simpa using h5
            simp [formA, ha', this]
          · rw [if_neg h5]
            exact go (by rw [ha']; simp; omega)
        · rw [if_neg h4]
          have : i = 0 := by omega
          subst this
          exact go rfl
      · rw [if_neg h3]
        have : (decide ((dp (cons e c l) : Int) ≤ depth) && formA (ahead a i) (cons e c l)) = false := by
          refine Bool.eq_false_iff.2 fun hx => h3 ?_
          rw [Bool.and_eq_true, decide_eq_true_eq] at hx ⊢
          obtain ⟨x1, x2⟩ := hx
          simp only [dp] at x1
          simp only [formA, Bool.and_eq_true] at x2
          exact ⟨by omega, x2.1.1.2⟩
        rw [this]
    · rw [if_neg h2]
      have : formA (ahead a i) (cons e c l) = false := by
        simp only [formA]
        cases hx : (decide (1 ≤ c) && decide (c ≤ 1000000)) with
        | true => exact absurd hx h2
        | false => simp
      rw [this, Bool.and_false]
theorem form_all : ∀ (k : Nat) (a : T) (depth : Int), a.size < k → a.size ≤ cap → -1 ≤ depth → depth ≤ 6 → spec_odForm k a.rows depth = some (decide ((dp a : Int) ≤ depth) && formA none a)
  | 0, _, _, h, _, _, _ => absurd h (Nat.not_lt_zero _)
  | k + 1, a, depth, h, hc, d0, d6 => by
    have hl := a.len_size
    simp only [spec_odForm, spec_odForm_b]
    by_cases h1 : depth < 0
    · rw [if_pos h1]
      have : decide ((dp a : Int) ≤ depth) = false := by simp; omega
      rw [this, Bool.false_and]
    · rw [if_neg h1, if_pos (by rw [rows_len]; omega), form_loop_all (a := a) (by omega) (by omega) hc (fun e he => form_all k e (depth - 1) (by omega) (by omega) (by omega) (by omega)) a 0 (drop_zero a) (by omega) (by intro q hq; cases hq)]
      rfl
theorem odGood_all (k : Nat) (a : T) (h : a.size < k) (hc : a.size ≤ cap) : spec_odGood k a.rows = some (ordP a) := by
  unfold spec_odGood
  obtain ⟨r, er, q1, q2, q3, q4⟩ := left_eq k a 6 60 h hc (by omega) (by omega) (by omega) (by omega)
  rw [er, Option.bind_some]
  by_cases h1 : 1 + nodesL a ≤ 60 ∧ dp a ≤ 6
  · have := q3 ⟨by omega, by omega⟩
    rw [if_pos (by omega), form_all k a 6 h hc (by omega) (by omega), Option.bind_some]
    have h2 : decide ((dp a : Int) ≤ 6) = true := by simp; omega
    simp only [ordP, h2, h1.1, h1.2, decide_true, Bool.true_and]
    cases formA none a <;> rfl
  · have := q4 (by omega)
    rw [if_neg (by omega)]
    have : ordP a = false := by
      cases hx : ordP a with
      | false => rfl
      | true => simp only [ordP, Bool.and_eq_true, decide_eq_true_eq] at hx; exact absurd hx.1 h1
    rw [this]
end Go.Proofs.Try

namespace Go.Proofs.Try
open Go Go.AX T
theorem told_eq (k : Nat) (a : T) (h : a.size < k) (hc : a.size ≤ cap) : impl_told k a.rows = some ((toldT a).1.rows, (toldT a).2) := by
  unfold impl_told toldT
  rw [IsOrdinal_eq k a h hc, Option.bind_some]
  cases ordP a with
  | false => rfl
  | true => rw [if_pos rfl, clone_eq k a h hc]; rfl
end Go.Proofs.Try

namespace Go.Proofs.Try
open Go Go.AX T
theorem odIf_eq (k : Nat) (a : T) (h : a.size < k) (hc : a.size ≤ cap) (ha : calm a) : spec_odIf k a.rows = some ((toldT a).1.rows, (toldT a).2) := by
  unfold spec_odIf toldT
  rw [odGood_eq k a h hc ha, Option.bind_some]
  cases ordP a with
  | false => rfl
  | true => rw [if_pos rfl, own_eq k a h hc]; rfl
theorem odIf_all (k : Nat) (a : T) (h : a.size < k) (hc : a.size ≤ cap) : spec_odIf k a.rows = some ((toldT a).1.rows, (toldT a).2) := by
  unfold spec_odIf toldT
  rw [odGood_all k a h hc]
  simp only [Option.bind_some]
  cases ordP a with
  | false => rfl
  | true => rw [if_pos rfl, own_eq k a h hc]; rfl
end Go.Proofs.Try

namespace Go.Proofs.Try
open Go Go.AX T
/-! ### what is left -/
def lessT : T → T → T
  | a, nil => a
  | nil, cons _ _ _ => nil
  | cons e c l, cons f d m => if cmpT e f = 0 then (if c = d then lessT l m else cons e (w (c - d)) l) else cons e c l
theorem lessT_nil (a : T) : lessT a nil = a := by cases a <;> rfl
theorem lessT_size (a b : T) : (lessT a b).size ≤ a.size := by
  induction a generalizing b with
  | nil => cases b <;> simp [lessT]
  | cons e c l _ ih =>
    cases b with
    | nil => simp [lessT]
    | cons f d m =>
      simp only [lessT]
      split
      · split
        · have := ih m; simp only [size]; omega
        · simp [size]
      · simp
theorem rows_cons_drop {a : T} {i : Nat} {e : T} {c : Int} {l : T} (h : drop a i = cons e c l) : a.rows.drop (i + 1) = l.rows := by rw [← rows_drop, drop_succ h]
theorem lessT_calm {a b : T} (ha : formA none a = true) (hb : formA none b = true) : calm (lessT a b) := by
  induction a generalizing b with
  | nil => cases b <;> trivial
  | cons e c l _ ih =>
    cases b with
    | nil => rw [lessT_nil]; exact form_calm ha
    | cons f d m =>
      have h1 := form_calm ha
      have h2 := form_calm hb
      simp only [formA, Bool.and_eq_true, decide_eq_true_eq] at ha hb
      simp only [lessT]
      split
      · split
        · exact ih (form_any ha.2) (form_any hb.2)
        · refine ⟨h1.1, ?_, h1.2.2⟩
          show _ ≤ w (c - d) ∧ w (c - d) ≤ _
          rw [show w (c - d) = c - d from wid (by omega) (by omega)]; omega
      · exact h1
end Go.Proofs.Try

namespace Go.Proofs.Try
open Go Go.AX T
theorem gt_of {e f : T} (h : ¬ cmpT e f = 1) (h0 : ¬ cmpT e f = 0) : cmpT e f < 0 := by
  rcases cmpT_range e f with q | q | q <;> omega
theorem gt_trans {e f g : T} (h1 : cmpT e f = 1) (h2 : cmpT f g = 1) : cmpT e g = 1 := by
  have q1 : cmpT f e < 0 := by rw [cmpT_neg e f]; omega
  have q2 : cmpT g f < 0 := by rw [cmpT_neg f g]; omega
  have := cmpT_trans q2 q1
  have q3 := cmpT_neg g e
  rcases cmpT_range e g with q | q | q <;> omega
theorem goP_low {m f g n : T} {h : Int} (hf : falls (some f) m) (hfg : cmpT f g < 0) : goP m g h n = cons g h n := by
  induction m generalizing f with
  | nil => rfl
  | cons x c l _ ih =>
    have h1 := hf.1 f rfl
    have h2 : cmpT x g < 0 := by
      have : cmpT x f < 0 := by rw [cmpT_neg f x]; omega
      exact cmpT_trans this hfg
    simp only [goP]
    rw [if_neg (by omega), if_neg (by omega)]
    exact ih hf.2 h2
theorem goP_A {a f g m n : T} {d h : Int} (hfg : cmpT f g = 1) : goP (goP a f d m) g h n = goP a f d (goP m g h n) := by
  induction a with
  | nil => simp only [goP, if_pos hfg]
  | cons e c l _ ih =>
    simp only [goP]
    split
    · rename_i q; simp only [goP]; rw [if_pos (gt_trans q hfg), ih]
    · split
      · rename_i q; obtain rfl := cmpT_eq.1 q; simp only [goP]; rw [if_pos hfg]
      · exact ih
theorem goP_BX {a f m n : T} {d h : Int} (ha : sm 1000000000000000 a) (hd : -1000000000000000 ≤ d ∧ d ≤ 1000000000000000) (hh : -1000000000000000 ≤ h ∧ h ≤ 1000000000000000) : goP (goP a f d m) f h n = goP a f (w (d + h)) n := by
  have r : cmpT f f = 0 := cmpT_refl f
  induction a with
  | nil => simp only [goP]; rw [if_neg (by omega), if_pos r]
  | cons e c l _ ih =>
    simp only [goP]
    split
    · rename_i q; simp only [goP]; rw [if_pos q, ih ha.2.2]
    · rename_i q0
      split
      · rename_i q; simp only [goP]; rw [if_neg q0, if_pos q]
        have hc := ha.2.1
        have e1 : w (c + d) = c + d := wid (by omega) (by omega)
        have e2 : w (d + h) = d + h := wid (by omega) (by omega)
        rw [e1, e2, Int.add_assoc]
      · exact ih ha.2.2
theorem goP_C {a f g m n : T} {d h : Int} : ∀ {p : Option T}, falls p a → falls (some f) m → cmpT f g < 0 → goP (goP a f d m) g h n = goP a g h n := by
  induction a with
  | nil =>
    intro p _ hm hfg
    simp only [goP]
    rw [if_neg (by omega), if_neg (by omega), goP_low hm hfg]
  | cons e c l _ ih =>
    intro p ha hm hfg
    have ih := ih ha.2 hm hfg
    by_cases q : cmpT e f = 1
    · simp only [goP, if_pos q]
      rw [ih]
    · by_cases q0 : cmpT e f = 0
      · obtain rfl := cmpT_eq.1 q0
        simp only [goP, if_neg q, if_pos q0]
        rw [if_neg (by omega), if_neg (by omega), if_neg (by omega), if_neg (by omega), goP_low hm hfg, goP_low ha.2 hfg]
      · have lt := gt_of q q0
        have lt2 := cmpT_trans lt hfg
        simp only [goP, if_neg q, if_neg q0]
        rw [if_neg (by omega), if_neg (by omega)]
        exact ih
theorem plusT_assocX {a b c : T} (sa : sm 1000000000000000 a) (sb : sm 1000000000000000 b) (sc : sm 1000000000000000 c) (fa : falls none a) (fb : falls none b) : plusT a (plusT b c) = plusT (plusT a b) c := by
  cases c with
  | nil => rfl
  | cons g h n =>
    cases b with
    | nil => rfl
    | cons f d m =>
      show plusT a (goP (cons f d m) g h n) = goP (goP a f d m) g h n
      by_cases q : cmpT f g = 1
      · rw [goP_A q]; simp only [goP, if_pos q]; rfl
      · by_cases q0 : cmpT f g = 0
        · obtain rfl := cmpT_eq.1 q0
          rw [goP_BX sa sb.2.1 sc.2.1]
          simp only [goP, if_neg q, if_pos q0]; rfl
        · have lt := gt_of q q0
          rw [goP_C fa fb.2 lt]
          simp only [goP, if_neg q, if_neg q0]
          rw [goP_low fb.2 lt]
          rfl
theorem plusT_assocB {a b c : T} (sa : sm 1000000000 a) (sb : sm 1000000000 b) (sc : sm 1000000000 c) (fa : falls none a) (fb : falls none b) : plusT a (plusT b c) = plusT (plusT a b) c :=
  plusT_assocX (sm_mono sa (by omega)) (sm_mono sb (by omega)) (sm_mono sc (by omega)) fa fb
theorem cmpT_cons_eq {e : T} {c : Int} {x y : T} : cmpT (cons e c x) (cons e c y) = cmpT x y := by
  simp only [cmpT, cmpT_refl, cmpI_refl, if_true]
theorem lessT_self {a : T} : lessT a a = nil := by
  induction a with
  | nil => rfl
  | cons e c l _ ih => simp only [lessT, cmpT_refl, if_true, ih]
theorem sub_goPB {a f m : T} {d : Int} (hd : 1 ≤ d ∧ d ≤ 1000000000) : ∀ {p : Option T}, falls p a → sm 1000000000 a → lessT (goP a f d m) a = cons f d m ∧ 0 ≤ cmpT (goP a f d m) a := by
  induction a with
  | nil => intro p _ _; exact ⟨rfl, by simp [goP, cmpT]⟩
  | cons e c l _ ih =>
    intro p hf hs
    have ih := ih hf.2 hs.2.2
    have hc := hs.2.1
    by_cases q : cmpT e f = 1
    · simp only [goP, if_pos q, lessT, cmpT_refl, if_true, cmpT_cons_eq]
      exact ih
    · by_cases q0 : cmpT e f = 0
      · obtain rfl := cmpT_eq.1 q0
        have e1 : w (c + d) = c + d := wid (by omega) (by omega)
        have e2 : w (c + d - c) = d := by rw [show w (c + d - c) = c + d - c from wid (by omega) (by omega)]; omega
        simp only [goP, if_neg q, if_pos q0, e1]
        refine ⟨?_, ?_⟩
        · simp only [lessT, cmpT_refl, if_true]
          rw [if_neg (by omega), e2]
        · have e3 : cmpI (c + d) c = 1 := by unfold cmpI; rw [if_neg (by omega), if_pos (by omega)]
          simp only [cmpT, cmpT_refl, e3]
          simp
      · have lt := gt_of q q0
        have e1 : cmpT f e = 1 := by rw [cmpT_neg e f]; rcases cmpT_range e f with z | z | z <;> omega
        have e2 : goP (cons e c l) f d m = cons f d m := by
          simp only [goP, if_neg q, if_neg q0]; exact goP_low hf.2 lt
        rw [e2]
        refine ⟨?_, ?_⟩
        · simp only [lessT]; rw [if_neg (by omega)]
        · simp only [cmpT, e1]; simp
theorem sub_plusB {a b : T} (fa : falls none a) (sa : sm 1000000000 a) (sb : sm 1000000000 b) (pb : ∀ f d m, b = cons f d m → 1 ≤ d) : lessT (plusT a b) a = b ∧ 0 ≤ cmpT (plusT a b) a := by
  cases b with
  | nil => exact ⟨lessT_self, by show 0 ≤ cmpT a a; rw [cmpT_refl]; omega⟩
  | cons f d m => exact sub_goPB ⟨pb f d m rfl, sb.2.1.2⟩ fa sa
end Go.Proofs.Try

namespace Go.Proofs.Try
open Go Go.AX T
theorem falls_weak {q e l : T} {p : Option T} (h : falls (some e) l) (hp : ∀ q, p = some q → 0 < cmpT q e) : falls p l := by
  cases l with
  | nil => trivial
  | cons x c m =>
    refine ⟨fun r hr => ?_, h.2⟩
    have h1 := hp r hr
    have h2 := h.1 e rfl
    have := cmpT_range e x
    exact cmp_lt_of h1 (by omega)
theorem falls_goP {a f m : T} {d : Int} {p : Option T} (ha : falls p a) (hp : ∀ q, p = some q → 0 < cmpT q f) (hm : falls (some f) m) : falls p (goP a f d m) := by
  induction a generalizing p with
  | nil => exact ⟨hp, hm⟩
  | cons e c l _ ih =>
    simp only [goP]
    split
    · rename_i q
      exact ⟨ha.1, ih ha.2 fun r hr => by cases hr; omega⟩
    · split
      · rename_i q; obtain rfl := cmpT_eq.1 q; exact ⟨ha.1, hm⟩
      · exact ih (falls_weak (q := e) ha.2 ha.1) hp
theorem falls_plusT {a b : T} (ha : falls none a) (hb : falls none b) : falls none (plusT a b) := by
  cases b with
  | nil => exact ha
  | cons f d m => exact falls_goP ha (fun q hq => by cases hq) hb.2
/-- Coefficients above nothing. -/
def posT : T → Prop
  | .nil => True
  | .cons _ c l => 1 ≤ c ∧ posT l
/-- Terms as those of a right ordinal, but for its nodes. -/
def okT (B : Int) (Z : Nat) (n : T) : Prop := falls none n ∧ posT n ∧ sm B n ∧ n.size ≤ Z
theorem ordP_okT {t : T} (h : ordP t = true) : okT 1000000 30 t := by
  refine ⟨form_falls (ordP_form h), ?_, form_sm (ordP_form h), ordP_size h⟩
  have key : ∀ (p : Option T) (t : T), formA p t = true → posT t := by
    intro p t
    induction t generalizing p with
    | nil => intro _; trivial
    | cons e c l _ ih =>
      intro h
      simp only [formA, Bool.and_eq_true, decide_eq_true_eq] at h
      exact ⟨h.1.1.1.1, ih _ h.2⟩
  exact key _ _ (ordP_form h)
theorem okT_calm {B : Int} {Z : Nat} {n : T} (h : okT B Z n) (hB : B ≤ 1000000000000000) : calm n := sm_calm h.2.2.1 hB
theorem okT_mono {B C : Int} {Z Y : Nat} {n : T} (h : okT B Z n) (hB : B ≤ C) (hZ : Z ≤ Y) : okT C Y n := ⟨h.1, h.2.1, sm_mono h.2.2.1 hB, by have := h.2.2.2; omega⟩
theorem less_parts {B : Int} (hB : B ≤ 1000000000000000) {a : T} : ∀ {b : T} {p : Option T}, falls p a → posT a → posT b → sm B a → 0 ≤ cmpT a b → falls none (lessT a b) ∧ posT (lessT a b) ∧ sm B (lessT a b) := by
  induction a with
  | nil =>
    intro b p _ _ _ _ _
    have : lessT .nil b = .nil := by cases b <;> rfl
    rw [this]
    exact ⟨trivial, trivial, trivial⟩
  | cons e c l _ ih =>
    intro b p fa pa pb sa h
    have f0 : ∀ x, falls none (.cons e x l) := fun x => ⟨fun _ h => (by cases h), fa.2⟩
    cases b with
    | nil => exact ⟨f0 c, pa, sa⟩
    | cons f d m =>
      simp only [lessT]
      simp only [cmpT] at h
      split
      · rename_i q1
        rw [if_pos q1] at h
        split
        · rename_i q2
          rw [if_pos (cmpI_eq.2 q2)] at h
          exact ih (p := some e) fa.2 pa.2 pb.2 sa.2.2 h
        · rename_i q2
          rw [if_neg (fun q => q2 (cmpI_eq.1 q))] at h
          have hcd : d < c := by
            unfold cmpI at h
            split at h
            · omega
            · omega
          have b1 := sa.2.1
          have b2 := pb.1
          have e1 : w (c - d) = c - d := wid (by omega) (by omega)
          rw [e1]
          exact ⟨f0 _, ⟨by omega, pa.2⟩, sa.1, by omega, sa.2.2⟩
      · exact ⟨f0 c, pa, sa⟩
theorem less_ok {B C : Int} {Z Y : Nat} {a b : T} (hB : B ≤ 1000000000000000) (ha : okT B Z a) (hb : okT C Y b) (h : 0 ≤ cmpT a b) : okT B Z (lessT a b) := by
  obtain ⟨h1, h2, h3⟩ := less_parts hB ha.1 ha.2.1 hb.2.1 ha.2.2.1 h
  have := lessT_size a b
  exact ⟨h1, h2, h3, by have := ha.2.2.2; omega⟩
theorem lessT_same (a : T) : lessT a a = .nil := by
  induction a with
  | nil => rfl
  | cons e c l _ ih => simp [lessT, cmpT_refl, ih]
theorem plusT_nilL (x : T) : plusT .nil x = x := by cases x <;> rfl
theorem posT_goP {a f m : T} {d : Int} (sa : sm 1000000000 a) (pa : posT a) (hd : 1 ≤ d ∧ d ≤ 1000000000) (pm : posT m) : posT (goP a f d m) := by
  induction a with
  | nil => exact ⟨hd.1, pm⟩
  | cons e c l _ ih =>
    have := ih sa.2.2 pa.2
    simp only [goP]
    split
    · exact ⟨pa.1, this⟩
    · split
      · have b1 := sa.2.1
        have b2 := pa.1
        refine ⟨?_, pm⟩
        rw [show w (c + d) = c + d from wid (by omega) (by omega)]; omega
      · exact this
theorem posT_plus {a b : T} (sa : sm 1000000000 a) (sb : sm 1000000000 b) (pa : posT a) (pb : posT b) : posT (plusT a b) := by
  cases b with
  | nil => exact pa
  | cons f d m => exact posT_goP sa pa ⟨pb.1, sb.2.1.2⟩ pb.2
/-- Exponents that are so. -/
def exOk (B : Int) : T → Prop
  | .nil => True
  | .cons e _ l => (falls none e ∧ posT e ∧ sm B e) ∧ exOk B l
theorem form_posT {p : Option T} {t : T} (h : formA p t = true) : posT t := by
  induction t generalizing p with
  | nil => trivial
  | cons e c l _ ih =>
    simp only [formA, Bool.and_eq_true, decide_eq_true_eq] at h
    exact ⟨h.1.1.1.1, ih h.2⟩
theorem form_exOk {p : Option T} {t : T} (h : formA p t = true) : exOk 1000000 t := by
  induction t generalizing p with
  | nil => trivial
  | cons e c l _ ih =>
    simp only [formA, Bool.and_eq_true, decide_eq_true_eq] at h
    exact ⟨⟨form_falls h.1.1.2, form_posT h.1.1.2, form_sm h.1.1.2⟩, ih h.2⟩
theorem exOk_mono {B C : Int} {t : T} (h : exOk B t) (hB : B ≤ C) : exOk C t := by
  induction t with
  | nil => trivial
  | cons e c l _ ih => exact ⟨⟨h.1.1, h.1.2.1, sm_mono h.1.2.2 hB⟩, ih h.2⟩
theorem exOk_app {B : Int} {a b : T} : exOk B (app a b) ↔ exOk B a ∧ exOk B b := by
  induction a with
  | nil => simp [app, exOk]
  | cons e c l _ ih => simp only [app, exOk, ih, and_assoc]
theorem exOk_goP {B : Int} {a f m : T} {d : Int} (ha : exOk B a) (hf : falls none f ∧ posT f ∧ sm B f) (hm : exOk B m) : exOk B (goP a f d m) := by
  induction a with
  | nil => exact ⟨hf, hm⟩
  | cons e c l _ ih =>
    simp only [goP]
    split
    · exact ⟨ha.1, ih ha.2⟩
    · split
      · exact ⟨ha.1, hm⟩
      · exact ih ha.2
theorem exOk_plus {B : Int} {a b : T} (ha : exOk B a) (hb : exOk B b) : exOk B (plusT a b) := by
  cases b with
  | nil => exact ha
  | cons f d m => exact exOk_goP ha hb.1 hb.2
/-- What is added on the right decides. -/
theorem plus_lt {a g n : T} {h : Int} {p : Option T} (fa : falls p a) (sa : sm 1000000000 a) (hh : 1 ≤ h ∧ h ≤ 1000000000) : cmpT (goP a g h n) a = 1 := by
  obtain ⟨k1, k2⟩ := sub_goPB (f := g) (m := n) hh fa sa
  rcases cmpT_range (goP a g h n) a with q | q | q
  · omega
  · rw [cmpT_eq.1 q, lessT_same] at k1; cases k1
  · exact q
theorem plus_mono {a : T} : ∀ {p : Option T} {f g m n : T} {d h : Int}, falls p a → sm 1000000000 a → (1 ≤ d ∧ d ≤ 1000000000) → (1 ≤ h ∧ h ≤ 1000000000) → cmpT (goP a f d m) (goP a g h n) = cmpT (cons f d m) (cons g h n) := by
  induction a with
  | nil => intros; rfl
  | cons e c l _ ih =>
    intro p f g m n d h fa sa hd hh
    have b1 := sa.2.1
    have wd : w (c + d) = c + d := wid (by omega) (by omega)
    have wh : w (c + h) = c + h := wid (by omega) (by omega)
    have n1 := cmpT_neg e f
    have n2 := cmpT_neg e g
    have n3 := cmpT_neg f g
    have r3 := cmpT_range f g
    have same : ∀ x y : T, cmpT (cons e c x) (cons e c y) = cmpT x y := fun x y => by simp [cmpT, cmpT_refl, cmpI_refl]
    have cI1 : cmpI c (c + h) = -1 := by unfold cmpI; rw [if_pos (by omega)]
    have cI2 : cmpI (c + d) c = 1 := by unfold cmpI; rw [if_neg (by omega), if_pos (by omega)]
    have cI3 : cmpI (c + d) (c + h) = cmpI d h := by
      unfold cmpI
      by_cases q1 : d < h
      · rw [if_pos (by omega), if_pos q1]
      · by_cases q2 : h < d
        · rw [if_neg (by omega), if_pos (by omega), if_neg q1, if_pos q2]
        · rw [if_neg (by omega), if_neg (by omega), if_neg q1, if_neg q2]
    rcases cmpT_range e f with rf | rf | rf <;> rcases cmpT_range e g with rg | rg | rg
    · -- both are greater
      have z1 : goP (cons e c l) f d m = cons f d m := by simp only [goP]; rw [if_neg (by omega), if_neg (by omega)]; exact goP_low fa.2 (by omega)
      have z2 : goP (cons e c l) g h n = cons g h n := by simp only [goP]; rw [if_neg (by omega), if_neg (by omega)]; exact goP_low fa.2 (by omega)
      rw [z1, z2]
    · have z1 : goP (cons e c l) f d m = cons f d m := by simp only [goP]; rw [if_neg (by omega), if_neg (by omega)]; exact goP_low fa.2 (by omega)
      obtain rfl := cmpT_eq.1 rg
      have z2 : goP (cons e c l) e h n = cons e (c + h) n := by simp only [goP]; rw [if_neg (by omega), if_pos rg, wh]
      rw [z1, z2]
      simp only [cmpT]
      rw [if_neg (by omega), if_neg (by omega)]
    · have z1 : goP (cons e c l) f d m = cons f d m := by simp only [goP]; rw [if_neg (by omega), if_neg (by omega)]; exact goP_low fa.2 (by omega)
      have z2 : goP (cons e c l) g h n = cons e c (goP l g h n) := by simp only [goP]; rw [if_pos rg]
      have fg : cmpT f g = 1 := gt_trans (e := f) (f := e) (by omega) rg
      rw [z1, z2]
      simp only [cmpT]
      rw [if_neg (by omega), if_neg (by omega)]; omega
    · obtain rfl := cmpT_eq.1 rf
      have z1 : goP (cons e c l) e d m = cons e (c + d) m := by simp only [goP]; rw [if_neg (by omega), if_pos rf, wd]
      have z2 : goP (cons e c l) g h n = cons g h n := by simp only [goP]; rw [if_neg (by omega), if_neg (by omega)]; exact goP_low fa.2 (by omega)
      rw [z1, z2]
      simp only [cmpT]
      rw [if_neg (by omega), if_neg (by omega)]
    · obtain rfl := cmpT_eq.1 rf
      obtain rfl := cmpT_eq.1 rg
      have z1 : ∀ (x : Int) (y : T), w (c + x) = c + x → goP (cons e c l) e x y = cons e (c + x) y := fun x y hx => by simp only [goP]; rw [if_neg (by omega), if_pos rf, hx]
      rw [z1 d m wd, z1 h n wh]
      simp only [cmpT, cI3]
    · obtain rfl := cmpT_eq.1 rf
      have z1 : goP (cons e c l) e d m = cons e (c + d) m := by simp only [goP]; rw [if_neg (by omega), if_pos rf, wd]
      have z2 : goP (cons e c l) g h n = cons e c (goP l g h n) := by simp only [goP]; rw [if_pos rg]
      rw [z1, z2]
      simp only [cmpT, cI2, cmpT_refl]
      rw [if_neg (show ¬ cmpT e g = 0 by omega)]
      simp; omega
    · have z1 : goP (cons e c l) f d m = cons e c (goP l f d m) := by simp only [goP]; rw [if_pos rf]
      have z2 : goP (cons e c l) g h n = cons g h n := by simp only [goP]; rw [if_neg (by omega), if_neg (by omega)]; exact goP_low fa.2 (by omega)
      have fg : cmpT g f = 1 := gt_trans (e := g) (f := e) (by omega) rf
      rw [z1, z2]
      simp only [cmpT]
      rw [if_neg (by omega), if_neg (by omega)]; omega
    · obtain rfl := cmpT_eq.1 rg
      have z1 : goP (cons e c l) f d m = cons e c (goP l f d m) := by simp only [goP]; rw [if_pos rf]
      have z2 : goP (cons e c l) e h n = cons e (c + h) n := by simp only [goP]; rw [if_neg (by omega), if_pos rg, wh]
      rw [z1, z2]
      simp only [cmpT, cI1, cmpT_refl]
      rw [if_neg (show ¬ cmpT f e = 0 by omega)]
      simp; omega
    · have z1 : goP (cons e c l) f d m = cons e c (goP l f d m) := by simp only [goP]; rw [if_pos rf]
      have z2 : goP (cons e c l) g h n = cons e c (goP l g h n) := by simp only [goP]; rw [if_pos rg]
      rw [z1, z2, same]
      exact ih fa.2 sa.2.2 hd hh
/-- A sum is monotone in what is added on the right. -/
theorem plusT_cmp {a x y : T} (fa : falls none a) (sa : sm 1000000000 a) (px : posT x) (py : posT y) (sx : sm 1000000000 x) (sy : sm 1000000000 y) : cmpT (plusT a x) (plusT a y) = cmpT x y := by
  cases x with
  | nil =>
    cases y with
    | nil => exact cmpT_refl _
    | cons g h n =>
      have := plus_lt (g := g) (n := n) fa sa ⟨py.1, sy.2.1.2⟩
      show cmpT a (goP a g h n) = _
      rw [cmpT_neg (goP a g h n) a, this]; rfl
  | cons f d m =>
    cases y with
    | nil =>
      have := plus_lt (g := f) (n := m) fa sa ⟨px.1, sx.2.1.2⟩
      show cmpT (goP a f d m) a = _
      rw [this]; rfl
    | cons g h n => exact plus_mono fa sa ⟨px.1, sx.2.1.2⟩ ⟨py.1, sy.2.1.2⟩
end Go.Proofs.Try

namespace Go.Proofs.Try
open Go Go.AX T
def lastE : T → T
  | nil => nil
  | cons e _ nil => e
  | cons _ _ (cons f d m) => lastE (cons f d m)
def befT : T → T
  | nil => nil
  | cons e c nil => if 1 < c then cons e (w (c - 1)) nil else nil
  | cons e c (cons f d m) => cons e c (befT (cons f d m))
def limT (t : T) : Bool := match lastE t with
  | nil => false
  | cons _ _ _ => true
def powT (e : T) (n : Int) : T := if n = 0 then nil else cons e n nil
def fund : Nat → Int → T → T
  | 0, _, _ => nil
  | k + 1, n, a => plusT (befT a) (cond (limT (lastE a)) (powT (fund k n (lastE a)) 1) (powT (befT (lastE a)) n))
theorem lastE_snoc (l e : T) (c : Int) : lastE (app l (cons e c nil)) = e := by
  induction l with
  | nil => rfl
  | cons x d m _ ih =>
    cases m with
    | nil => rfl
    | cons y g r => simp only [app, lastE] at ih ⊢; exact ih
theorem befT_snoc (l e : T) (c : Int) : befT (app l (cons e c nil)) = app l (if 1 < c then cons e (w (c - 1)) nil else nil) := by
  induction l with
  | nil => simp only [app, befT]
  | cons x d m _ ih =>
    cases m with
    | nil => simp only [app, befT]
    | cons y g r => simp only [app, befT] at ih ⊢; rw [ih]
theorem form_snoc {p : Option T} {l e : T} {c : Int} (h : formA p (app l (cons e c nil)) = true) : 1 ≤ c ∧ c ≤ 1000000 ∧ formA none e = true := by
  induction l generalizing p with
  | nil =>
    simp only [app, formA, Bool.and_eq_true, decide_eq_true_eq] at h
    exact ⟨h.1.1.1.1, h.1.1.1.2, h.1.1.2⟩
  | cons x d m _ ih =>
    simp only [app, formA, Bool.and_eq_true] at h
    exact ih h.2
theorem falls_app {p : Option T} {l x : T} (h : falls p (app l x)) : falls p l := by
  induction l generalizing p with
  | nil => cases p <;> trivial
  | cons y d m _ ih => exact ⟨h.1, ih h.2⟩
theorem falls_gt {x l e : T} {c : Int} (h : falls (some x) (app l (cons e c nil))) : 0 < cmpT x e := by
  induction l generalizing x with
  | nil => exact h.1 x rfl
  | cons y d m _ ih => exact cmp_lt_of (h.1 x rfl) (by have := ih h.2; rcases cmpT_range y e with q | q | q <;> omega)
theorem goP_end {l e m : T} {c d : Int} {p : Option T} (h : falls p (app l (cons e c nil))) : goP l e d m = app l (cons e d m) := by
  induction l generalizing p with
  | nil => rfl
  | cons y g r _ ih =>
    have := falls_gt h.2
    have r1 := cmpT_range y e
    simp only [goP, app]
    rw [if_pos (by omega), ih h.2]
theorem falls_bef {p : Option T} {l e : T} {c d : Int} (h : falls p (app l (cons e c nil))) : falls p (app l (cons e d nil)) := by
  induction l generalizing p with
  | nil => exact ⟨h.1, trivial⟩
  | cons y g r _ ih => exact ⟨h.1, ih h.2⟩
theorem app_nil (a : T) : app a nil = a := by
  induction a with
  | nil => rfl
  | cons e c l _ ih => simp only [app, ih]
theorem befT_falls {p : Option T} {a : T} (h : falls p a) : falls p (befT a) := by
  rcases T.snoc a with rfl | ⟨l, e, c, rfl⟩
  · exact h
  · rw [befT_snoc]
    split
    · exact falls_bef h
    · rw [app_nil]; exact falls_app h
theorem befT_size (a : T) : (befT a).size ≤ a.size := by
  rcases T.snoc a with rfl | ⟨l, e, c, rfl⟩
  · simp [befT]
  · rw [befT_snoc]
    split <;> simp [size_app, size]
theorem befT_sm {B : Int} {a : T} (h : sm B a) (hB : B ≤ 1000000000000) : sm B (befT a) := by
  rcases T.snoc a with rfl | ⟨l, e, c, rfl⟩
  · exact h
  · rw [befT_snoc]
    obtain ⟨h1, h2, h3, _⟩ := sm_app.1 h
    split
    · refine sm_app.2 ⟨h1, h2, ?_, trivial⟩
      rw [show w (c - 1) = c - 1 from wid (by omega) (by omega)]; omega
    · exact sm_app.2 ⟨h1, trivial⟩
theorem lastE_size {a : T} (h : a ≠ nil) : (lastE a).size + 1 ≤ a.size := by
  rcases T.snoc a with rfl | ⟨l, e, c, rfl⟩
  · exact absurd rfl h
  · rw [lastE_snoc, size_app]; simp only [size]; omega
/-! ### the program's own -/
def zer (t : T) : Bool := match t with
  | nil => true
  | cons _ _ _ => false
theorem isZ (t : T) : impl_isZero t.rows = some (zer t) := by rw [impl_isZero_eq]; cases t <;> rfl
theorem odZ (t : T) : spec_odZero t.rows = some (zer t) := by
  unfold spec_odZero
  cases t with
  | nil => rfl
  | cons e c l =>
    rw [if_neg (by rw [lenI]; simp only [len]; omega)]; rfl
theorem snocLen (l e : T) (c : Int) : (app l (cons e c nil)).len = l.len + 1 := by rw [len_app]; rfl
theorem lastI {l e : T} {c : Int} (h : l.len ≤ cap) : IntKind.i64.wrap (((app l (cons e c nil)).rows.length : Int) - 1) = (l.len : Int) := by
  have h3 : cap = 1099511627776 := rfl
  rw [lenI, snocLen, wid (by omega) (by omega)]; omega
theorem takeS (l e : T) (c : Int) : (app l (cons e c nil)).rows.take (l.len : Int).toNat = l.rows := by
  rw [Int.toNat_natCast, rows_app, ← rows_len l]; exact List.take_left
theorem nilI : IntKind.i64.wrap (((nil : T).rows.length : Int) - 1) = -1 := by rw [lenI]; simp only [len]; exact wid (by omega) (by omega)
theorem parted_snoc {l e : T} {c : Int} (h : l.len ≤ cap) : impl_parted (app l (cons e c nil)).rows = some (cond (zer e) (l.rows, c) ((app l (cons e c nil)).rows, 0)) := by
  unfold impl_parted
  rw [lastI h, if_pos (by omega), row_T rfl (snoc_last l e c), isZ, Option.bind_some]
  cases zer e with
  | false => rfl
  | true => rw [if_pos rfl, if_pos ⟨by omega, by rw [lenI, snocLen]; omega, rowsWide _⟩, takeS]; rfl
theorem finite_snoc {l e : T} {c : Int} (h : l.len ≤ cap) : spec_odFinite (app l (cons e c nil)).rows = some (cond (zer e) (c, l.rows) (0, (app l (cons e c nil)).rows)) := by
  unfold spec_odFinite
  rw [lastI h, if_pos (by omega), row_T rfl (snoc_last l e c), odZ, Option.bind_some]
  cases zer e with
  | false => rfl
  | true => rw [if_pos rfl, if_pos ⟨by omega, by rw [lenI, snocLen]; omega, rowsWide _⟩, takeS]; rfl
theorem zer_snoc (l e : T) (c : Int) : zer (app l (cons e c nil)) = false := by cases l <;> rfl
theorem isLimit_eq {a : T} (h : a.len ≤ cap) (hf : formA none a = true) : impl_isLimit a.rows = some (limT a) := by
  unfold impl_isLimit
  rcases T.snoc a with rfl | ⟨l, e, c, rfl⟩
  · unfold impl_parted; rw [nilI, if_neg (by omega)]; rfl
  · rw [snocLen] at h
    have hc := form_snoc hf
    rw [parted_snoc (by omega), Option.bind_some, isZ, Option.bind_some, zer_snoc, if_neg (by decide)]
    unfold limT
    rw [lastE_snoc]
    cases e with
    | nil => show (if c = 0 then some true else some false) = some false; exact if_neg (by omega)
    | cons x y z => rfl
theorem odLimit_eq {a : T} (h : a.len ≤ cap) (hf : formA none a = true) : spec_odLimit a.rows = some (limT a) := by
  unfold spec_odLimit
  rcases T.snoc a with rfl | ⟨l, e, c, rfl⟩
  · unfold spec_odFinite; rw [nilI, if_neg (by omega)]; rfl
  · rw [snocLen] at h
    have hc := form_snoc hf
    rw [finite_snoc (by omega), Option.bind_some, odZ, Option.bind_some, zer_snoc, if_neg (by decide)]
    unfold limT
    rw [lastE_snoc]
    cases e with
    | nil => show (if c = 0 then some true else some false) = some false; exact if_neg (by omega)
    | cons x y z => rfl
theorem odBefore_eq {a : T} (hz : a ≠ nil) (h : a.len < cap) : spec_odBefore a.rows = some (befT a).rows := by
  rcases T.snoc a with rfl | ⟨l, e, c, rfl⟩
  · exact absurd rfl hz
  · rw [snocLen] at h
    unfold spec_odBefore
    rw [lastI (by omega), row_T rfl (snoc_last l e c), if_pos ⟨by omega, by rw [lenI, snocLen]; omega, rowsWide _⟩, takeS, if_pos ⟨by rw [rows_len]; omega, rowsWide _⟩, befT_snoc]
    by_cases g : 1 < c
    · rw [if_pos g, if_pos g, if_pos (by rw [List.nil_append, rows_len]; omega), List.nil_append, snocRows]
    · rw [if_neg g, if_neg g, app_nil, List.nil_append]
theorem before_eq {k : Nat} {a : T} (hz : a ≠ nil) (hl : limT a = false) (hk : a.size + 1 < k) (hc : a.size + 2 ≤ cap) (hf : formA none a = true) : impl_before k a.rows = some (befT a).rows := by
  have h3 : cap = 1099511627776 := rfl
  rcases T.snoc a with rfl | ⟨l, e, c, rfl⟩
  · exact absurd rfl hz
  · have hcc := form_snoc hf
    have hfa := form_falls hf
    have hs : (app l (cons e c nil)).size = l.size + e.size + 1 := by rw [size_app]; simp only [size]; omega
    rw [hs] at hk hc
    have hll := l.len_size
    unfold limT at hl
    rw [lastE_snoc] at hl
    cases e with
    | cons x y z => cases hl
    | nil =>
      unfold impl_before
      rw [parted_snoc (by omega), Option.bind_some]
      simp only [zer, cond]
      have e1 : IntKind.i64.wrap (c - 1) = c - 1 := wid (by omega) (by omega)
      have e2 : impl_finite (IntKind.i64.wrap (c - 1)) = some (intT (c - 1)).rows := by
        rw [e1]; unfold impl_finite intT
        by_cases q : c - 1 = 0
        · rw [if_pos q, if_pos q]; rfl
        · rw [if_neg q, if_neg q]; rfl
      have z := intT_size (c - 1)
      rw [e2, Option.bind_some, plus_eq k l _ (by omega) (by omega), Option.bind_some, befT_snoc]
      by_cases g : 1 < c
      · have : intT (c - 1) = cons nil (w (c - 1)) nil := by
          show intT (c - 1) = cons nil (IntKind.i64.wrap (c - 1)) nil
          rw [e1]; unfold intT; rw [if_neg (by omega)]
        rw [this, if_pos g]
        show some (goP l nil (w (c - 1)) nil).rows = _
        rw [goP_end hfa]
      · have : intT (c - 1) = nil := by unfold intT; rw [if_pos (by omega)]
        rw [this, if_neg g, app_nil]
        cases l <;> rfl
theorem power_eq (e : T) (n : Int) : impl_power e.rows n = some (powT e n).rows := by
  unfold impl_power powT
  by_cases h : n = 0
  · rw [if_pos h, if_pos h]; rfl
  · rw [if_neg h, if_neg h]; rfl
theorem odTerm_eq (e : T) (n : Int) : spec_odTerm e.rows n = some (powT e n).rows := by
  unfold spec_odTerm powT
  by_cases h : n = 0
  · rw [if_pos h, if_pos h]; rfl
  · rw [if_neg h, if_neg h]; rfl
theorem powT_size (e : T) (n : Int) : (powT e n).size ≤ e.size + 1 := by unfold powT; split <;> simp [size]
theorem powT_falls (e : T) (n : Int) : falls none (powT e n) := by
  unfold powT; split
  · trivial
  · exact ⟨fun q hq => (by cases hq), trivial⟩
theorem powT_sm {B : Int} {e : T} {n : Int} (h : sm B e) (hn : -B ≤ n ∧ n ≤ B) : sm B (powT e n) := by
  unfold powT; split
  · trivial
  · exact ⟨h, hn, trivial⟩

/-! ### elements of fundamental sequences -/
theorem fund_size : ∀ (k : Nat) (n : Int) (a : T), (fund k n a).size ≤ (a.size + 1) * (a.size + 1)
  | 0, _, _ => Nat.zero_le _
  | k + 1, n, a => by
    have h1 := befT_size a
    by_cases hz : a = nil
    · subst hz
      have : (fund (k + 1) n nil).size ≤ 1 := by
        simp only [fund, limT, lastE, cond, befT]
        have := plusT_size nil (powT nil n)
        have := powT_size nil n
        simp only [size] at *; omega
      simpa [size] using this
    · have h2 := lastE_size hz
      have e : (a.size + 1) * (a.size + 1) = a.size * a.size + 2 * a.size + 1 := by rw [Nat.add_mul, Nat.mul_add]; omega
      rw [e]
      simp only [fund]
      generalize lastE a = x at *
      have m : (x.size + 1) * (x.size + 1) ≤ a.size * a.size := Nat.mul_le_mul h2 h2
      have ih := fund_size k n x
      have b := befT_size x
      cases limT x with
      | true =>
        simp only [cond]
        have := plusT_size (befT a) (powT (fund k n x) 1)
        have := powT_size (fund k n x) 1
        omega
      | false =>
        simp only [cond]
        have := plusT_size (befT a) (powT (befT x) n)
        have := powT_size (befT x) n
        omega
theorem fund_sm (n : Int) (hn : 0 ≤ n ∧ n ≤ 1000) : ∀ (k : Nat) (a : T), sm 1000000 a → a.size ≤ 100 → sm (1000000 * ((a.size : Int) + 1)) (fund k n a)
  | 0, _, _, _ => trivial
  | k + 1, a, ha, hs => by
    have hb := befT_sm ha (by omega)
    by_cases hz : a = nil
    · subst hz
      simp only [fund, limT, lastE, cond, befT]
      have : sm 1000000 (powT (nil : T) n) := powT_sm trivial (by omega)
      have := plusT_sm (a := nil) (B := 0) trivial this (by omega)
      exact sm_mono this (by simp [size])
    · have h2 := lastE_size hz
      have hx : sm 1000000 (lastE a) := by
        rcases T.snoc a with rfl | ⟨l, e, c, rfl⟩
        · exact absurd rfl hz
        · rw [lastE_snoc]; exact (sm_app.1 ha).2.1
      simp only [fund]
      generalize lastE a = x at *
      have ih := fund_sm n hn k x hx (by omega)
      have b := befT_sm hx (by omega)
      cases limT x with
      | true =>
        simp only [cond]
        exact sm_mono (plusT_sm hb (powT_sm (n := 1) ih (by omega)) (by omega)) (by omega)
      | false =>
        simp only [cond]
        exact sm_mono (plusT_sm hb (powT_sm (B := 1000000) (n := n) b (by omega)) (by omega)) (by omega)
theorem lim_ne {a : T} (h : limT a = true) : a ≠ nil ∧ lastE a ≠ nil := by
  unfold limT at h
  refine ⟨?_, ?_⟩
  · rintro rfl; cases h
  · intro e; rw [e] at h; cases h
theorem form_lastE {a : T} (h : formA none a = true) : formA none (lastE a) = true := by
  rcases T.snoc a with rfl | ⟨l, e, c, rfl⟩
  · rfl
  · rw [lastE_snoc]; exact (form_snoc h).2.2
theorem clone_rows (t : T) (h : t.len ≤ cap) : slices_Clone t.rows = some t.rows := by
  unfold slices_Clone nilD
  have h2 := rowsWide t
  rw [if_pos ⟨by omega, h2⟩]
  have e : (if t.rows.length ≤ cap ∧ (∀ cs ∈ t.rows, cs.length = 2) then some ([] ++ t.rows : Rw) else none) = some t.rows := by
    rw [if_pos ⟨by rw [rows_len]; exact h, h2⟩, List.nil_append]
  rw [e]
  by_cases q : t.rows = []
  · rw [if_pos q, q, if_pos rfl]
  · rw [if_neg q]
theorem fundamental_eq (n : Int) (hn : 0 ≤ n ∧ n ≤ 1000) : ∀ (k : Nat) (a : T), limT a = true → formA none a = true → a.size ≤ 100 → 20000 + a.size < k → impl_fundamental k a.rows n = some (fund k n a).rows
  | 0, _, _, _, _, h => absurd h (Nat.not_lt_zero _)
  | k + 1, a, hl, hf, hs, hk => by
    have h3 : cap = 1099511627776 := rfl
    obtain ⟨hz, hx⟩ := lim_ne hl
    have h2 := lastE_size hz
    have fx := form_lastE hf
    have ff := fund_size k n (lastE a)
    have m : ((lastE a).size + 1) * ((lastE a).size + 1) ≤ 101 * 101 := Nat.mul_le_mul (by omega) (by omega)
    have hbs := befT_size a
    have hbx := befT_size (lastE a)
    have hal := a.len_size
    simp only [impl_fundamental, impl_fundamental_b, fund]
    have ih := fundamental_eq n hn k (lastE a)
    have il := isLimit_eq (a := lastE a) (by have := (lastE a).len_size; omega) fx
    have bx : limT (lastE a) = false → impl_before k (lastE a).rows = some (befT (lastE a)).rows := fun q => before_eq hx q (by omega) (by omega) fx
    have p1 := powT_size (fund k n (lastE a)) 1
    have p2 := powT_size (befT (lastE a)) n
    rcases T.snoc a with rfl | ⟨l, e, c, rfl⟩
    · exact absurd rfl hz
    · rw [snocLen] at hal
      have hcc := form_snoc hf
      have hsz : (app l (cons e c nil)).size = l.size + e.size + 1 := by rw [size_app]; simp only [size]; omega
      rw [lastI (by omega), row_T rfl (snoc_last l e c), if_pos ⟨by omega, by rw [lenI, snocLen]; omega, rowsWide _⟩, takeS, clone_rows l (by omega), Option.bind_some]
      rw [befT_snoc] at hbs ⊢
      rw [lastE_snoc] at *
      have fin : ∀ o : T, o.size ≤ 101 → (((impl_isLimit e.rows).bind fun y => if y = true then (impl_fundamental k e.rows n).bind fun y2 => (impl_power y2 1).bind fun y3 => (impl_plus k o.rows y3).bind fun y4 => some y4 else (impl_before k e.rows).bind fun y5 => (impl_power y5 n).bind fun y6 => (impl_plus k o.rows y6).bind fun y7 => some y7) = some (plusT o (cond (limT e) (powT (fund k n e) 1) (powT (befT e) n))).rows) := by
        intro o ho
        rw [il, Option.bind_some]
        cases q : limT e with
        | true =>
          rw [if_pos rfl, ih q fx (by omega) (by omega), Option.bind_some, power_eq, Option.bind_some, plus_eq k o _ (by omega) (by omega)]; rfl
        | false =>
          rw [if_neg (by decide), bx q, Option.bind_some, power_eq, Option.bind_some, plus_eq k o _ (by omega) (by omega)]; rfl
      unfold impl_fundamental_p4
      by_cases g : 1 < c
      · rw [if_pos g, if_pos (by rw [rows_len]; omega), snocRows]
        rw [if_pos g] at hbs
        rw [if_pos g]
        exact fin (app l (cons e (w (c - 1)) nil)) (by omega)
      · rw [if_neg g]
        rw [if_neg g, app_nil] at hbs
        rw [if_neg g, app_nil]
        exact fin _ (by omega)
theorem odAt_eq (n : Int) (hn : 0 ≤ n ∧ n ≤ 1000) : ∀ (k : Nat) (a : T), limT a = true → formA none a = true → a.size ≤ 100 → 20000 + a.size < k → spec_odAt k a.rows n = some (fund k n a).rows
  | 0, _, _, _, _, h => absurd h (Nat.not_lt_zero _)
  | k + 1, a, hl, hf, hs, hk => by
    have h3 : cap = 1099511627776 := rfl
    obtain ⟨hz, hx⟩ := lim_ne hl
    have h2 := lastE_size hz
    have fx := form_lastE hf
    have ff := fund_size k n (lastE a)
    have m : ((lastE a).size + 1) * ((lastE a).size + 1) ≤ 101 * 101 := Nat.mul_le_mul (by omega) (by omega)
    have hbs := befT_size a
    have hbx := befT_size (lastE a)
    have hal := a.len_size
    have hxl := (lastE a).len_size
    simp only [spec_odAt, spec_odAt_b, fund]
    have ih := odAt_eq n hn k (lastE a)
    have il := odLimit_eq (a := lastE a) (by omega) fx
    have bx := odBefore_eq (a := lastE a) hx (by omega)
    have ba := odBefore_eq (a := a) hz (by omega)
    have p1 := powT_size (fund k n (lastE a)) 1
    have p2 := powT_size (befT (lastE a)) n
    have sa := form_sm hf
    have sx := form_sm fx
    have sba := befT_sm sa (by omega)
    have sbx := befT_sm sx (by omega)
    have sf := fund_sm n hn k (lastE a) sx (by omega)
    have fb := befT_falls (form_falls hf)
    have hlast : ∀ {α : Type} (K : Rw → Int → Option α), ∃ c, row_si a.rows (IntKind.i64.wrap ((a.rows.length : Int) - 1)) K = K (lastE a).rows c := by
      intro α K
      rcases T.snoc a with rfl | ⟨l, e, c, rfl⟩
      · exact absurd rfl hz
      · rw [snocLen] at hal
        rw [lastI (by omega), row_T rfl (snoc_last l e c), lastE_snoc]; exact ⟨c, rfl⟩
    obtain ⟨c, hc⟩ := hlast (fun x3 x4 => ((spec_odLimit x3).bind fun y7 => (if y7 = true then ((spec_odBefore a.rows).bind fun y10 => ((spec_odAt k x3 n).bind fun y12 => ((spec_odTerm y12 1).bind fun y14 => ((spec_odPlus k y10 y14).bind fun y16 => some y16)))) else ((spec_odBefore a.rows).bind fun y18 => ((spec_odBefore x3).bind fun y20 => ((spec_odTerm y20 n).bind fun y22 => ((spec_odPlus k y18 y22).bind fun y24 => some y24)))))))
    rw [hc, il, Option.bind_some]
    have pl : ∀ (B : Int) (x : T) (i : Int), 0 ≤ B → B ≤ 1000000000 → sm B (powT x i) → (powT x i).size ≤ 11000 → spec_odPlus k (befT a).rows (powT x i).rows = some (plusT (befT a) (powT x i)).rows := by
      intro B x i hB hB2 sp zp
      have hlen : (powT x i).len ≤ 1 := by unfold powT; split <;> simp [len]
      have hm : B * ((powT x i).len : Int) ≤ B := by
        have : B * ((powT x i).len : Int) ≤ B * 1 := Int.mul_le_mul_of_nonneg_left (by omega) hB
        omega
      rw [odPlus_eq (B := B) (C := 1000000) k _ _ (by omega) (by omega) sba sp hB (by omega) (by omega), splus_plus fb (powT_falls x i)]
    cases q : limT (lastE a) with
    | true =>
      rw [if_pos rfl, ba, Option.bind_some, ih q fx (by omega) (by omega), Option.bind_some, odTerm_eq, Option.bind_some, pl (1000000 * (((lastE a).size : Int) + 1)) _ _ (by omega) (by omega) (powT_sm sf (by omega)) (by omega)]; rfl
    | false =>
      rw [if_neg (by decide), ba, Option.bind_some, bx, Option.bind_some, odTerm_eq, Option.bind_some, pl 1000000 _ _ (by omega) (by omega) (powT_sm sbx (by omega)) (by omega)]; rfl
end Go.Proofs.Try

namespace Go.Proofs.Try
open Go Go.AX T
theorem cmp_app (p x y : T) : cmpT (app p x) (app p y) = cmpT x y := by
  induction p with
  | nil => rfl
  | cons e c l _ ih => simp only [app, cmpT, cmpT_refl, cmpI_refl, if_true, ih]
theorem goP_above {a x m : T} {d : Int} (h : falls none a) (hx : a ≠ nil → 0 < cmpT (lastE a) x) : goP a x d m = app a (cons x d m) := by
  rcases T.snoc a with rfl | ⟨l, e, c, rfl⟩
  · rfl
  · have hx := hx (by cases l <;> simp [app])
    rw [lastE_snoc] at hx
    have key : ∀ (l : T) (p : Option T), falls p (app l (cons e c nil)) → goP (app l (cons e c nil)) x d m = app (app l (cons e c nil)) (cons x d m) := by
      intro l
      induction l with
      | nil =>
        intro p _
        have r := cmpT_range e x
        simp only [app, goP]
        rw [if_pos (by omega)]
      | cons y g q _ ih =>
        intro p hp
        have h1 := falls_gt hp.2
        have r := cmpT_range e x
        have h2 := cmp_lt_of h1 (show cmpT e x = 1 ∨ cmpT e x = 0 by omega)
        have r2 := cmpT_range y x
        simp only [app, goP]
        rw [if_pos (by omega), ih _ hp.2]
    exact key l none h
theorem bef_lt {a : T} (h : a ≠ nil) (hf : formA none a = true) : cmpT (befT a) a < 0 := by
  rcases T.snoc a with rfl | ⟨l, e, c, rfl⟩
  · exact absurd rfl h
  · have hc := form_snoc hf
    rw [befT_snoc, cmp_app]
    by_cases g : 1 < c
    · have e1 : w (c - 1) = c - 1 := wid (by omega) (by omega)
      have e2 : cmpI (c - 1) c = -1 := by unfold cmpI; rw [if_pos (by omega)]
      rw [if_pos g, e1]
      simp only [cmpT, cmpT_refl, e2]
      decide
    · rw [if_neg g]; simp [cmpT]
/-- The exponent of what is added. -/
def fexp (k : Nat) (n : Int) (a : T) : T := cond (limT (lastE a)) (fund k n (lastE a)) (befT (lastE a))
def fcoe (n : Int) (a : T) : Int := cond (limT (lastE a)) 1 n
theorem fund_step (k : Nat) (n : Int) (a : T) : fund (k + 1) n a = plusT (befT a) (powT (fexp k n a) (fcoe n a)) := by
  simp only [fund, fexp, fcoe]
  cases limT (lastE a) <;> rfl
/-- Behind what is before a limit, less than its last term. -/
theorem plus_pow {a x : T} {d : Int} (hf : formA none a = true) (hx : cmpT x (lastE a) < 0) : plusT (befT a) (powT x d) = app (befT a) (powT x d) := by
  unfold powT
  by_cases h : d = 0
  · rw [if_pos h, app_nil]; cases befT a <;> rfl
  · rw [if_neg h]
    show goP (befT a) x d nil = _
    have hfa := form_falls hf
    refine goP_above (befT_falls hfa) fun hb => ?_
    rcases T.snoc a with rfl | ⟨l, e, c, rfl⟩
    · exact absurd rfl hb
    · rw [lastE_snoc] at hx
      rw [befT_snoc] at hb ⊢
      have q := cmpT_neg x e
      by_cases g : 1 < c
      · rw [if_pos g, lastE_snoc]; omega
      · rw [if_neg g, app_nil] at hb ⊢
        rcases T.snoc l with rfl | ⟨l', e', c', rfl⟩
        · exact absurd rfl hb
        · rw [lastE_snoc]
          have key : ∀ (l : T) (p : Option T), falls p (app (app l (cons e' c' nil)) (cons e c nil)) → 0 < cmpT e' e := by
            intro l
            induction l with
            | nil => intro p hp; exact hp.2.1 e' rfl
            | cons y g r _ ih => intro p hp; exact ih _ hp.2
          have h1 := key l' none hfa
          have r := cmpT_range e x
          exact cmp_lt_of h1 (by omega)
theorem app_lt {a y : T} (hz : a ≠ nil) (hf : formA none a = true) (hy : y = nil ∨ ∃ x d, y = cons x d nil ∧ cmpT x (lastE a) < 0) : cmpT (app (befT a) y) a < 0 := by
  rcases T.snoc a with rfl | ⟨l, e, c, rfl⟩
  · exact absurd rfl hz
  · have hc := form_snoc hf
    rw [lastE_snoc] at hy
    rw [befT_snoc, app_assoc, cmp_app]
    by_cases g : 1 < c
    · have e1 : w (c - 1) = c - 1 := wid (by omega) (by omega)
      have e2 : cmpI (c - 1) c = -1 := by unfold cmpI; rw [if_pos (by omega)]
      rw [if_pos g, e1]
      simp only [app, cmpT, cmpT_refl, e2]
      simp
    · rw [if_neg g]
      rcases hy with rfl | ⟨x, d, rfl, hx⟩
      · simp [app, cmpT]
      · simp only [app, cmpT]
        rw [if_neg (by omega)]; exact hx
theorem fund_lt (n : Int) : ∀ (k : Nat) (a : T), limT a = true → formA none a = true → a.size < k → cmpT (fund k n a) a < 0 ∧ fund k n a = app (befT a) (powT (fexp (k - 1) n a) (fcoe n a))
  | 0, _, _, _, h => absurd h (Nat.not_lt_zero _)
  | k + 1, a, hl, hf, hk => by
    obtain ⟨hz, hx⟩ := lim_ne hl
    have h2 := lastE_size hz
    have fx := form_lastE hf
    have lt : cmpT (fexp k n a) (lastE a) < 0 := by
      unfold fexp
      cases q : limT (lastE a) with
      | true => exact (fund_lt n k (lastE a) q fx (by omega)).1
      | false => exact bef_lt hx fx
    rw [fund_step, plus_pow hf lt]
    refine ⟨app_lt hz hf ?_, rfl⟩
    unfold powT
    split
    · exact Or.inl rfl
    · exact Or.inr ⟨_, _, rfl, lt⟩
theorem fund_mono (n : Int) (hn : 0 ≤ n ∧ n < 1000) : ∀ (k : Nat) (a : T), limT a = true → formA none a = true → a.size < k → cmpT (fund k n a) (fund k (n + 1) a) < 0
  | 0, _, _, _, h => absurd h (Nat.not_lt_zero _)
  | k + 1, a, hl, hf, hk => by
    obtain ⟨hz, hx⟩ := lim_ne hl
    have h2 := lastE_size hz
    have fx := form_lastE hf
    rw [(fund_lt n (k + 1) a hl hf hk).2, (fund_lt (n + 1) (k + 1) a hl hf hk).2, cmp_app]
    simp only [Nat.add_sub_cancel]
    unfold fexp fcoe powT
    cases q : limT (lastE a) with
    | true =>
      have ih := fund_mono n hn k (lastE a) q fx (by omega)
      simp only [cond]
      rw [if_neg (by decide), if_neg (by decide)]
      simp only [cmpT]
      rw [if_neg (by omega)]; exact ih
    | false =>
      simp only [cond]
      rw [if_neg (show ¬ n + 1 = 0 by omega)]
      by_cases g : n = 0
      · rw [if_pos g]; simp [cmpT]
      · rw [if_neg g]
        have e2 : cmpI n (n + 1) = -1 := by unfold cmpI; rw [if_pos (by omega)]
        simp only [cmpT, cmpT_refl, e2]
        decide
/-- A predecessor and one. -/
theorem bef_one {a : T} (hz : a ≠ nil) (hl : limT a = false) (hf : formA none a = true) : plusT (befT a) (cons nil 1 nil) = a := by
  rcases T.snoc a with rfl | ⟨l, e, c, rfl⟩
  · exact absurd rfl hz
  · have hc := form_snoc hf
    have hfa := form_falls hf
    unfold limT at hl
    rw [lastE_snoc] at hl
    cases e with
    | cons x y z => cases hl
    | nil =>
      rw [befT_snoc]
      show goP _ nil 1 nil = _
      by_cases g : 1 < c
      · have e1 : w (c - 1) = c - 1 := wid (by omega) (by omega)
        have e2 : w (c - 1 + 1) = c := by rw [show w (c - 1 + 1) = c - 1 + 1 from wid (by omega) (by omega)]; omega
        rw [if_pos g, e1]
        have key : ∀ (l : T) (p : Option T), falls p (app l (cons nil c nil)) → goP (app l (cons nil (c - 1) nil)) nil 1 nil = app l (cons nil c nil) := by
          intro l
          induction l with
          | nil => intro p _; simp only [app, goP, cmpT]; rw [if_neg (by decide), if_pos True.intro, e2]
          | cons y g r _ ih =>
            intro p hp
            have h1 := falls_gt hp.2
            have r2 := cmpT_range y nil
            simp only [app, goP]
            rw [if_pos (by omega), ih _ hp.2]
        exact key l none hfa
      · have : c = 1 := by omega
        subst this
        rw [if_neg g, app_nil, goP_end hfa]
end Go.Proofs.Try

namespace Go.Proofs.Try
open Go Go.AX T
theorem both_eq (k : Nat) (a b : T) (ha : a.size < k) (hb : b.size < k) (ca : a.size ≤ cap) (cb : b.size ≤ cap) : impl_both k a.rows b.rows = some (ordP a && ordP b) := by
  unfold impl_both
  rw [IsOrdinal_eq k a ha ca, Option.bind_some]
  cases ordP a with
  | false => rfl
  | true =>
    rw [if_pos rfl, IsOrdinal_eq k b hb cb, Option.bind_some]
    cases ordP b <;> rfl
/-! ### copies -/
def addT (a b : T) : T × Bool := if ordP a && ordP b then toldT (plusT a b) else (nil, false)
theorem AddOrdinals_eq (k : Nat) (a b : T) (ha : a.size + b.size < k) (hc : a.size + b.size + 1 ≤ cap) : impl_AddOrdinals k a.rows b.rows = some ((addT a b).1.rows, (addT a b).2) := by
  unfold impl_AddOrdinals addT
  rw [both_eq k a b (by omega) (by omega) (by omega) (by omega), Option.bind_some]
  cases ordP a && ordP b with
  | false => rfl
  | true =>
    have := plusT_size a b
    simp only [if_true]
    rw [plus_eq k a b (by omega) hc, Option.bind_some, told_eq k _ (by omega) (by omega), Option.bind_some]
    cases (toldT (plusT a b)).2 <;> rfl
def cmpO (a b : T) : Int × Bool := if ordP a && ordP b then (cmpT a b, true) else (0, false)
/-! ### the same -/
theorem addT_ok {a b : T} (h : (addT a b).2 = true) : ordP a = true ∧ ordP b = true ∧ ordP (plusT a b) = true ∧ (addT a b).1 = plusT a b := by
  unfold addT toldT at *
  cases ha : ordP a <;> cases hb : ordP b <;> simp only [ha, hb, Bool.and_self, Bool.and_true, Bool.and_false, if_true] at h ⊢ <;> try (simp at h)
  cases hs : ordP (plusT a b) <;> simp [hs] at h ⊢
theorem addT_of {a b : T} (ha : ordP a = true) (hb : ordP b = true) (hs : ordP (plusT a b) = true) : addT a b = (plusT a b, true) := by
  unfold addT toldT
  rw [ha, hb, Bool.and_self, if_pos rfl, if_pos hs]
end Go.Proofs.Try

namespace Go.Proofs.Try
open Go Go.AX T
theorem told_ok {t : T} (h : (toldT t).2 = true) : ordP (toldT t).1 = true := by
  unfold toldT at *
  split
  · rename_i q; exact q
  · rename_i q; rw [if_neg q] at h; cases h
theorem told_no {t : T} (h : (toldT t).2 = false) : (toldT t).1 = nil := by
  unfold toldT at *
  split
  · rename_i q; rw [if_pos q] at h; cases h
  · rfl
theorem desc_eq {k : Nat} {a : T} {n : Int} (hk : 30000 < k) (ha : a.size < k) (hc : a.size + 2 ≤ cap) : ∃ (t : T) (m : Int) (ok : Bool), impl_DescendOnce k a.rows n = some (t.rows, m, ok) ∧ spec_DescendOnce k a.rows n = some (t.rows, m, ok) ∧ (ok = true → ordP t = true) ∧ t.size ≤ 30 := by
  have h3 : cap = 1099511627776 := rfl
  have hal := a.len_size
  unfold impl_DescendOnce spec_DescendOnce spec_PredecessorOf spec_FundamentalAt
  rw [IsOrdinal_eq k a ha (by omega), odGood_all k a ha (by omega)]
  simp only [Option.bind_some]
  cases oa : ordP a with
  | false => exact ⟨nil, 0, false, rfl, rfl, (fun h => by cases h), Nat.zero_le _⟩
  | true =>
    have hf := ordP_form oa
    have hs := ordP_size oa
    rw [if_pos rfl, if_pos rfl, isZ, odZ, impl_in_eq, l1In_eq]
    simp only [Option.bind_some]
    by_cases hn : 0 ≤ n ∧ n ≤ 1000
    · have hn' : (decide (0 ≤ n) && decide (n ≤ 1000)) = true := by simp; omega
      rw [hn', if_pos rfl]
      by_cases hz : a = nil
      · subst hz; exact ⟨nil, 0, false, rfl, rfl, (fun h => by cases h), Nat.zero_le _⟩
      · have z0 : zer a = false := by cases a with | nil => exact absurd rfl hz | cons _ _ _ => rfl
        rw [z0, isLimit_eq (by omega) hf, odLimit_eq (by omega) hf]
        simp only [Option.bind_some, Bool.false_eq_true, if_false, if_true]
        cases hl : limT a with
        | true =>
          have m : (a.size + 1) * (a.size + 1) ≤ 31 * 31 := Nat.mul_le_mul (by omega) (by omega)
          have fs := fund_size k n a
          simp only [if_true, Option.bind_some, Bool.false_eq_true, if_false]
          rw [fundamental_eq n hn k a hl hf (by omega) (by omega), odAt_eq n hn k a hl hf (by omega) (by omega)]
          simp only [Option.bind_some]
          rw [told_eq k _ (by omega) (by omega), odIf_all k _ (by omega) (by omega)]
          simp only [Option.bind_some]
          cases ho : (toldT (fund k n a)).2 with
          | true => exact ⟨_, n, true, rfl, rfl, fun _ => told_ok ho, ordP_size (told_ok ho)⟩
          | false => exact ⟨nil, 0, false, rfl, rfl, (fun h => by cases h), Nat.zero_le _⟩
        | false =>
          have bs := befT_size a
          simp only [Bool.false_eq_true, if_false]
          rw [before_eq hz hl (by omega) (by omega) hf, odBefore_eq hz (by omega)]
          simp only [Option.bind_some]
          rw [told_eq k _ (by omega) (by omega), odIf_all k _ (by omega) (by omega)]
          simp only [Option.bind_some]
          cases ho : (toldT (befT a)).2 with
          | true => exact ⟨_, _, true, rfl, rfl, fun _ => told_ok ho, ordP_size (told_ok ho)⟩
          | false => exact ⟨nil, 0, false, rfl, rfl, (fun h => by cases h), Nat.zero_le _⟩
    · have hn' : (decide (0 ≤ n) && decide (n ≤ 1000)) = false := by
        cases q : (decide (0 ≤ n) && decide (n ≤ 1000)) with
        | false => rfl
        | true => simp at q; omega
      rw [hn']
      simp only [Bool.false_eq_true, if_false]
      cases zer a <;> exact ⟨nil, 0, false, rfl, rfl, (fun h => by cases h), Nat.zero_le _⟩
end Go.Proofs.Try

namespace Go.Proofs.Try
open Go Go.AX T
def bytes (x : Rw) : Prop := ∀ r ∈ x, ∃ b : Int, r = [.int .u8 b] ∧ 0 ≤ b ∧ b < 256
/-- A drawn value: its place moves on by at most n. -/
def Drew {α : Type} (x : Rw) (a n : Int) (r : Option (α × Rw × Int × Int)) (Q : α → Prop) : Prop :=
  ∃ v a' c', r = some (v, x, a', c') ∧ 0 ≤ a' ∧ a' ≤ a + n ∧ Q v
theorem Drew.mono {α : Type} {x : Rw} {a n m : Int} {r : Option (α × Rw × Int × Int)} {Q : α → Prop} (h : Drew x a n r Q) (hn : n ≤ m) : Drew x a m r Q := by
  obtain ⟨v, a', c', e, h1, h2, h3⟩ := h
  exact ⟨v, a', c', e, h1, by omega, h3⟩
theorem Drew.bind {α β : Type} {x : Rw} {a n m : Int} {r : Option (α × Rw × Int × Int)} {Q : α → Prop} {S : β → Prop} {F : α × Rw × Int × Int → Option (β × Rw × Int × Int)} (h : Drew x a n r Q)
    (hF : ∀ v a' c', 0 ≤ a' → a' ≤ a + n → Q v → Drew x a' m (F (v, x, a', c')) S) : Drew x a (n + m) (r.bind F) S := by
  obtain ⟨v, a', c', e, h1, h2, h3⟩ := h
  obtain ⟨u, a2, c2, e2, q1, q2, q3⟩ := hF v a' c' h1 h2 h3
  exact ⟨u, a2, c2, by rw [e, Option.bind_some, e2], q1, by omega, q3⟩
theorem and255 (n : Nat) (b : BitVec n) : (b &&& BitVec.ofInt n 255).toNat ≤ 255 := by
  rw [BitVec.toNat_and]
  refine Nat.le_trans Nat.and_le_right ?_
  rw [BitVec.toNat_ofInt]
  show (((255 : Nat) : Int) % ((2 ^ n : Nat) : Int)).toNat ≤ 255
  rw [← Int.natCast_emod, Int.toNat_natCast]
  exact Nat.mod_le _ _
theorem next_ok {x : Rw} {a c : Int} (hx : bytes x) (h0 : 0 ≤ a) (h1 : a ≤ 1000000000) : Drew x a 1 (spec_l1Cur_next x a c) (fun v => 0 ≤ v ∧ v < 256) := by
  have e1 : IntKind.i64.wrap (a + 1) = a + 1 := wid (by omega) (by omega)
  have big : ∀ b : BitVec (IntKind.u64).bits, 0 ≤ IntKind.i64.wrap (IntKind.u64.wrap (b &&& BitVec.ofInt (IntKind.u64).bits 255).toNat) ∧ IntKind.i64.wrap (IntKind.u64.wrap (b &&& BitVec.ofInt (IntKind.u64).bits 255).toNat) < 256 := by
    intro b
    have := and255 _ b
    generalize (b &&& BitVec.ofInt (IntKind.u64).bits 255).toNat = n at *
    have e2 : IntKind.u64.wrap (n : Int) = n := by
      show ((n : Int)) % 18446744073709551616 = n
      omega
    rw [e2, wid (by omega) (by omega)]; omega
  unfold spec_l1Cur_next
  rw [e1]
  by_cases g : a < (x.length : Int)
  · rw [if_pos g]
    obtain ⟨n, rfl⟩ : ∃ n : Nat, a = n := ⟨a.toNat, by omega⟩
    have hn : n < x.length := by omega
    obtain ⟨b, hb, hb0, hb1⟩ := hx x[n] (List.getElem_mem hn)
    have e3 : ∀ {α : Type} (K : Int → Option α), row_iu8 x (n : Int) K = K b := by
      intro α K
      unfold row_iu8
      rw [if_pos (by omega), Int.toNat_natCast, List.getElem?_eq_getElem hn, hb]
      rfl
    rw [e3, if_pos (by omega)]
    exact ⟨_, _, _, rfl, by omega, by omega, by rw [wid (by omega) (by omega)]; omega⟩
  · rw [if_neg g]
    split
    · exact ⟨_, _, _, rfl, by omega, by omega, by omega⟩
    · exact ⟨_, _, _, rfl, by omega, by omega, big _⟩
theorem pick_ok {x : Rw} {a c m : Int} (hx : bytes x) (h0 : 0 ≤ a) (h1 : a ≤ 100000000) (hm : 1 ≤ m) : Drew x a 2 (spec_l1Cur_pick x a c m) (fun v => 0 ≤ v ∧ v < m) := by
  unfold spec_l1Cur_pick
  by_cases g : m ≤ 1
  · rw [if_pos g]; exact ⟨_, _, _, rfl, h0, by omega, by omega⟩
  · rw [if_neg g]
    refine Drew.bind (n := 1) (m := 1) (next_ok hx h0 (by omega)) fun v a' c' q1 q2 q3 => ?_
    have tm : ∀ u : Int, 0 ≤ u → 0 ≤ u.tmod m ∧ u.tmod m < m := fun u hu => ⟨Int.tmod_nonneg _ hu, Int.tmod_lt_of_pos _ (by omega)⟩
    by_cases g2 : 200 < m
    · rw [if_pos g2]
      refine Drew.mono (Drew.bind (n := 1) (m := 0) (next_ok hx q1 (by omega)) fun v2 a2 c2 p1 p2 p3 => ?_) (by omega)
      rw [if_pos (by omega)]
      refine ⟨_, a2, _, rfl, p1, by omega, tm _ ?_⟩
      have e1 : IntKind.i64.wrap (v * 256) = v * 256 := wid (by omega) (by omega)
      show 0 ≤ IntKind.i64.wrap (IntKind.i64.wrap (v * 256) + v2)
      rw [e1, wid (by omega) (by omega)]; omega
    · rw [if_neg g2, if_pos (by omega)]
      exact ⟨_, a', _, rfl, q1, by omega, tm _ q3.1⟩
theorem among_ok {x : Rw} {a c : Int} {es : Rw} {Q : Int → Prop} (hx : bytes x) (h0 : 0 ≤ a) (h1 : a ≤ 100000000) (he : 1 ≤ es.length) (hQ : ∀ r ∈ es, ∃ i, r = [.int .i64 i] ∧ Q i) : Drew x a 2 (spec_l1Cur_among x a c es) Q := by
  unfold spec_l1Cur_among
  refine Drew.mono (Drew.bind (n := 2) (m := 0) (pick_ok hx h0 h1 (by omega)) fun v a' c' q1 q2 q3 => ?_) (by omega)
  obtain ⟨n, rfl⟩ : ∃ n : Nat, v = n := ⟨v.toNat, by omega⟩
  have hn : n < es.length := by omega
  obtain ⟨i, hi, hq⟩ := hQ es[n] (List.getElem_mem hn)
  have e3 : ∀ {α : Type} (K : Int → Option α), row_i es (n : Int) K = K i := by
    intro α K
    unfold row_i
    rw [if_pos (by omega), Int.toNat_natCast, List.getElem?_eq_getElem hn, hi]
    rfl
  show Drew x a' 0 (row_i es (n : Int) _) Q
  rw [e3]
  exact ⟨_, a', _, rfl, q1, by omega, hq⟩
theorem one_ok {x : Rw} {a c m : Int} (hx : bytes x) (h0 : 0 ≤ a) (h1 : a ≤ 100000000) (hm : 1 ≤ m) : Drew x a 2 (spec_l1Cur_one x a c m) (fun _ => True) := by
  unfold spec_l1Cur_one
  refine Drew.mono (Drew.bind (n := 2) (m := 0) (pick_ok hx h0 h1 hm) fun v a' c' q1 q2 q3 => ?_) (by omega)
  split <;> exact ⟨_, a', _, rfl, q1, by omega, trivial⟩
theorem odInt_eq (n : Int) : spec_odInt n = some (intT n).rows := by
  unfold spec_odInt spec_odTerm intT
  by_cases h : n = 0
  · rw [if_pos h, if_pos h]; rfl
  · rw [if_neg h, if_neg h]; rfl
theorem odTerm_ok (e : T) {n : Int} (hn : n ≠ 0) : spec_odTerm e.rows n = some (cons e n nil).rows := by
  unfold spec_odTerm; rw [if_neg hn]; rfl
/-- What meet has yet to add. -/
def due (f : Bool) (e : T) : Nat := cond f 0 (e.size + 1)
theorem meet_loop {k : Nat} {a e : T} {c C D : Int} {K : Rw → Bool → Option Rw} (he : sm D e) (hc : -D ≤ c ∧ c ≤ D) (hC : 0 ≤ C ∧ 0 ≤ D ∧ C + D ≤ 1000000000000) :
    ∀ (t acc : T) (f : Bool), acc.size + t.size + due f e < k → acc.size + t.size + due f e ≤ cap → sm C t → sm (C + D) acc →
      ∃ r f', spec_odMeet_l0 k a.rows e.rows c K t.rows f acc.rows = K r.rows f' ∧ r.size + due f' e ≤ acc.size + t.size + due f e ∧ sm (C + D) r
  | nil, acc, f, hk, hcap, st, sa => by
    refine ⟨acc, f, ?_, by simp [size], sa⟩
    simp only [rows, spec_odMeet_l0]
    cases f <;> rfl
  | cons x d t, acc, f, hk, hcap, st, sa => by
    have h3 : cap = 1099511627776 := rfl
    obtain ⟨s1, s2, s3⟩ := st
    have hl := acc.len_size
    simp only [size] at hk hcap ⊢
    have hz : ∀ (l y : T) (b : Int), (app l (cons y b nil)).size = l.size + y.size + 1 := fun l y b => by rw [size_app]; simp [size]; omega
    have hs : ∀ (l y : T) (b : Int), sm (C + D) l → sm (C + D) y → (-(C + D) ≤ b ∧ b ≤ C + D) → sm (C + D) (app l (cons y b nil)) := fun l y b h1 h2 h3 => sm_app.2 ⟨h1, h2, h3, trivial⟩
    have hx := sm_mono s1 (show C ≤ C + D by omega)
    have hE := sm_mono he (show D ≤ C + D by omega)
    have qx := sm_calm s1 (by omega)
    have qe := sm_calm he (by omega)
    cases f with
    | true =>
      simp only [due, cond] at hk hcap ⊢
      obtain ⟨r, f', q1, q2, q3⟩ := meet_loop (k := k) (a := a) (K := K) he hc hC t (app acc (cons x d nil)) true (by rw [hz]; simp only [due, cond]; omega) (by rw [hz]; simp only [due, cond]; omega) s3 (hs _ _ _ sa hx (by omega))
      rw [hz] at q2
      simp only [due, cond] at q2
      refine ⟨r, f', ?_, by simp only at *; omega, q3⟩
      rw [← q1]
      simp only [rows, spec_odMeet_l0, cond, cell_T]
      rw [odCmp_eq k x e qx qe (by omega) (by omega), Option.bind_some, if_pos (by rw [rows_len]; omega), snocRows]
    | false =>
      simp only [due, cond] at hk hcap ⊢
      by_cases g : cmpT x e ≤ 0
      · by_cases g0 : cmpT x e = 0
        · obtain rfl := cmpT_eq.1 g0
          have e2 : IntKind.i64.wrap (c + d) = c + d := wid (by omega) (by omega)
          obtain ⟨r, f', q1, q2, q3⟩ := meet_loop (k := k) (a := a) (K := K) he hc hC t (app acc (cons x (IntKind.i64.wrap (c + d)) nil)) true (by rw [hz]; simp only [due, cond]; omega) (by rw [hz]; simp only [due, cond]; omega) s3 (hs _ _ _ sa hx (by rw [e2]; omega))
          rw [hz] at q2
          simp only [due, cond] at q2
          refine ⟨r, f', ?_, by simp only at *; omega, q3⟩
          rw [← q1]
          simp only [rows, spec_odMeet_l0, cond, cell_T]
          rw [odCmp_eq k x x qx qe (by omega) (by omega), Option.bind_some, if_pos g, if_pos g0, if_pos (by rw [rows_len]; omega), snocRows]
        · obtain ⟨r, f', q1, q2, q3⟩ := meet_loop (k := k) (a := a) (K := K) he hc hC t (app (app acc (cons e c nil)) (cons x d nil)) true (by rw [hz, hz]; simp only [due, cond]; omega) (by rw [hz, hz]; simp only [due, cond]; omega) s3 (hs _ _ _ (hs _ _ _ sa hE (by omega)) hx (by omega))
          rw [hz, hz] at q2
          simp only [due, cond] at q2
          refine ⟨r, f', ?_, by simp only at *; omega, q3⟩
          rw [← q1]
          simp only [rows, spec_odMeet_l0, cond, cell_T]
          have hll : (acc.rows ++ [[Go.AX.D.sl e.rows, Go.AX.D.int .i64 c]]).length + 1 ≤ cap := by rw [List.length_append, rows_len]; simp only [List.length_cons, List.length_nil]; omega
          rw [odCmp_eq k x e qx qe (by omega) (by omega), Option.bind_some, if_pos g, if_neg g0, if_pos (by rw [rows_len]; omega), if_pos hll, snocRows, snocRows]
      · obtain ⟨r, f', q1, q2, q3⟩ := meet_loop (k := k) (a := a) (K := K) he hc hC t (app acc (cons x d nil)) false (by rw [hz]; simp only [due, cond]; omega) (by rw [hz]; simp only [due, cond]; omega) s3 (hs _ _ _ sa hx (by omega))
        rw [hz] at q2
        simp only [due, cond] at q2
        refine ⟨r, f', ?_, by simp only at *; omega, q3⟩
        rw [← q1]
        simp only [rows, spec_odMeet_l0, cond, cell_T]
        rw [odCmp_eq k x e qx qe (by omega) (by omega), Option.bind_some, if_neg g, if_pos (by rw [rows_len]; omega), snocRows]
theorem meet_ok {k : Nat} {t e : T} {c C D : Int} (he : sm D e) (hc : -D ≤ c ∧ c ≤ D) (hC : 0 ≤ C ∧ 0 ≤ D ∧ C + D ≤ 1000000000000) (hk : t.size + e.size + 1 < k) (hcap : t.size + e.size + 1 ≤ cap) (st : sm C t) :
    ∃ r : T, spec_odMeet k t.rows e.rows c = some r.rows ∧ r.size ≤ t.size + e.size + 1 ∧ sm (C + D) r := by
  have hl := t.len_size
  unfold spec_odMeet
  rw [if_pos (by rw [rows_len]; omega)]
  obtain ⟨r, f, q1, q2, q3⟩ := meet_loop (k := k) (a := t) (K := fun (v91 : Rw) (v100 : Bool) => (cond v100 (spec_odMeet_p4 e.rows c v91 true) (spec_odMeet_p4 e.rows c v91 false))) he hc hC t nil false (by simp only [due, cond, size]; omega) (by simp only [due, cond, size]; omega) st trivial
  have q1' : spec_odMeet_l0 k t.rows e.rows c (fun (v91 : Rw) (v100 : Bool) => (cond v100 (spec_odMeet_p4 e.rows c v91 true) (spec_odMeet_p4 e.rows c v91 false))) t.rows false [] = _ := q1
  rw [q1']
  simp only [due, cond, size] at q2
  cases f with
  | true => exact ⟨r, rfl, by simp only at q2; omega, q3⟩
  | false =>
    simp only at q2
    have hr := r.len_size
    refine ⟨app r (cons e c nil), ?_, by rw [size_app]; simp only [size]; omega, sm_app.2 ⟨q3, sm_mono he (by omega), by omega, trivial⟩⟩
    show (if r.rows.length + 1 ≤ cap then _ else _) = _
    rw [if_pos (by rw [rows_len]; omega), snocRows]
end Go.Proofs.Try

namespace Go.Proofs.Try
open Go Go.AX T
def IsT (S : Nat) (B : Int) (r : Rw) : Prop := ∃ t : T, r = t.rows ∧ t.size ≤ S ∧ sm B t
theorem ord_loop {k : Nat} {x : Rw} {rec_ : Rw → Int → Int → Int → Option (Rw × Rw × Int × Int)} {d B N BM L : Int} {S M : Nat} (hL : L ≤ 1000000) (hx : bytes x) (hB : 3 ≤ B) (hN : 0 ≤ N)
    (hr : ∀ a c, 0 ≤ a → a ≤ L → Drew x a N (rec_ x a c (IntKind.i64.wrap (d - 1))) (IsT S B)) (hM : M + 1 < k) (hcap : M + 1 ≤ cap) (hBM : BM ≤ 1000000000000) :
    ∀ (n v : Nat) (acc : T) (a c C : Int), v < n → v ≤ 1000 → 0 ≤ a → a + (v : Int) * (8 + N) ≤ L → acc.size + v * (S + 2) ≤ M → sm C acc → 0 ≤ C → C + (v : Int) * (B + 1000) ≤ BM →
      Drew x a ((v : Int) * (8 + N)) (spec_l1Cur_ordinal_l0 k rec_ d (fun (v53 : Rw) (v54 : Int) (v55 : Int) (v56 : Rw) => some (v56, v53, v54, v55)) n (v : Int) x a c acc.rows) (IsT M BM)
  | 0, v, _, _, _, _, h, _, _, _, _, _, _, _ => absurd h (Nat.not_lt_zero _)
  | n + 1, 0, acc, a, c, C, _, _, h0, _, hs, sa, hC, hb => by
    simp only [spec_l1Cur_ordinal_l0]
    rw [if_neg (by omega)]
    exact ⟨_, a, _, rfl, h0, by simp, acc, rfl, by simpa using hs, sm_mono sa (by simpa using hb)⟩
  | n + 1, v + 1, acc, a, c, C, hv, hv2, h0, h1, hs, sa, hC, hb => by
    have h3 : cap = 1099511627776 := rfl
    have e1 : ((v + 1 : Nat) : Int) * (8 + N) = (v : Int) * (8 + N) + (8 + N) := by rw [Int.natCast_succ, Int.add_mul, Int.one_mul]
    have e2 : ((v + 1 : Nat) : Int) * (B + 1000) = (v : Int) * (B + 1000) + (B + 1000) := by rw [Int.natCast_succ, Int.add_mul, Int.one_mul]
    have p1 : 0 ≤ (v : Int) * (8 + N) := Int.mul_nonneg (by omega) (by omega)
    have p2 : 0 ≤ (v : Int) * (B + 1000) := Int.mul_nonneg (by omega) (by omega)
    have ew : IntKind.i64.wrap (((v + 1 : Nat) : Int) - 1) = (v : Int) := by rw [wid (by omega) (by omega)]; omega
    rw [Nat.succ_mul] at hs
    rw [e1] at h1 ⊢
    rw [e2] at hb
    have go : ∀ (e : T) (cc a' c' : Int), e.size ≤ S + 1 → sm B e → (-(B + 1000) ≤ cc ∧ cc ≤ B + 1000) → 0 ≤ a' → a' + (v : Int) * (8 + N) ≤ L →
        Drew x a' ((v : Int) * (8 + N)) ((spec_odMeet k acc.rows e.rows cc).bind fun y => spec_l1Cur_ordinal_l0 k rec_ d (fun (v53 : Rw) (v54 : Int) (v55 : Int) (v56 : Rw) => some (v56, v53, v54, v55)) n (v : Int) x a' c' y) (IsT M BM) := by
      intro e cc a' c' z1 z2 z3 z4 z5
      obtain ⟨r, q1, q2, q3⟩ := meet_ok (k := k) (C := C) (D := B + 1000) (t := acc) (sm_mono z2 (by omega)) z3 (by omega) (by omega) (by omega) sa
      rw [q1, Option.bind_some]
      exact ord_loop hL hx hB hN hr hM hcap hBM n v r a' c' (C + (B + 1000)) (by omega) (by omega) z4 z5 (by omega) q3 (by omega) (by omega)
    simp only [spec_l1Cur_ordinal_l0]
    rw [if_pos (by omega), ew]
    refine Drew.mono (Drew.bind (n := 2) (m := 6 + N + (v : Int) * (8 + N)) (pick_ok hx h0 (by omega) (by omega)) fun v1 a1 c1 i1 i2 i3 => ?_) (by omega)
    simp only [odInt_eq, Option.bind_some]
    refine Drew.mono (Drew.bind (n := 2) (m := 4 + N + (v : Int) * (8 + N)) (pick_ok hx i1 (by omega) (by omega)) fun v2 a2 c2 i4 i5 i6 => ?_) (by omega)
    refine Drew.mono (Drew.bind (n := 2) (m := 2 + N + (v : Int) * (8 + N)) (among_ok (Q := fun i => 0 ≤ i ∧ i ≤ 1000) hx i4 (by omega) (by simp) ?_) fun v3 a3 c3 i7 i8 i9 => ?_) (by omega)
    · have e4 : IntKind.i64.wrap (1 + v2) = 1 + v2 := wid (by omega) (by omega)
      intro r hr
      simp only [List.mem_cons, List.not_mem_nil, or_false] at hr
      rcases hr with rfl | rfl | rfl | rfl | rfl <;> refine ⟨_, rfl, ?_⟩ <;> (try rw [e4]) <;> omega
    refine Drew.mono (Drew.bind (n := 2) (m := N + (v : Int) * (8 + N)) (one_ok hx i7 (by omega) (by omega)) fun v4 a4 c4 i10 i11 _ => ?_) (by omega)
    split
    · refine Drew.bind (n := N) (m := (v : Int) * (8 + N)) (hr a4 c4 i10 (by omega)) fun v5 a5 c5 i12 i13 i14 => ?_
      obtain ⟨e, rfl, z1, z2⟩ := i14
      exact go e v3 a5 c5 (by omega) z2 (by omega) i12 (by omega)
    · have z := intT_size v1
      exact Drew.mono (go (intT v1) v3 a4 c4 (by omega) (intT_sm (by omega)) (by omega) i10 (by omega)) (by omega)
def zS : Nat → Nat
  | 0 => 1
  | d + 1 => 3 * (zS d + 2)
def zB : Nat → Int
  | 0 => 3
  | d + 1 => 3 * (zB d + 1000)
def zN : Nat → Int
  | 0 => 2
  | d + 1 => 2 + 3 * (8 + zN d)
theorem ordinal_ok {x : Rw} (hx : bytes x) : ∀ (d k : Nat) (a c : Int), d ≤ 3 → d + 200 < k → 0 ≤ a → a + 1000 * (d : Int) ≤ 1000000 → Drew x a (zN d) (spec_l1Cur_ordinal k x a c d) (IsT (zS d) (zB d))
  | d, 0, _, _, _, h, _, _ => absurd h (by omega)
  | 0, k + 1, a, c, _, hk, h0, h1 => by
    simp only [spec_l1Cur_ordinal, spec_l1Cur_ordinal_b]
    rw [if_pos (by simp)]
    refine Drew.mono (Drew.bind (n := 2) (m := 0) (pick_ok hx h0 (by omega) (by omega)) fun v a' c' q1 q2 q3 => ?_) (by simp [zN])
    simp only [odInt_eq, Option.bind_some]
    exact ⟨_, a', _, rfl, q1, by omega, intT v, rfl, intT_size v, intT_sm (by simp only [zB]; omega)⟩
  | d + 1, k + 1, a, c, hd, hk, h0, h1 => by
    have h3 : cap = 1099511627776 := rfl
    have b1 : zS d ≤ 33 ∧ 3 ≤ zB d ∧ zB d ≤ 100000 ∧ 0 ≤ zN d ∧ zN d ≤ 122 := by
      have : d = 0 ∨ d = 1 ∨ d = 2 := by omega
      rcases this with rfl | rfl | rfl <;> simp [zS, zB, zN]
    simp only [spec_l1Cur_ordinal, spec_l1Cur_ordinal_b]
    rw [if_neg (by omega)]
    refine Drew.mono (Drew.bind (n := 2) (m := 3 * (8 + zN d)) (among_ok (Q := fun i => ∃ m : Nat, i = m ∧ m ≤ 3) hx h0 (by omega) (by simp) ?_) fun v a' c' q1 q2 q3 => ?_) (by simp [zN])
    · intro r hr
      simp only [List.mem_cons, List.not_mem_nil, or_false] at hr
      rcases hr with rfl | rfl | rfl | rfl | rfl | rfl
      · exact ⟨_, rfl, 0, rfl, by omega⟩
      · exact ⟨_, rfl, 1, rfl, by omega⟩
      · exact ⟨_, rfl, 1, rfl, by omega⟩
      · exact ⟨_, rfl, 2, rfl, by omega⟩
      · exact ⟨_, rfl, 2, rfl, by omega⟩
      · exact ⟨_, rfl, 3, rfl, by omega⟩
    · obtain ⟨m, rfl, hm⟩ := q3
      have f1 : (m : Int) * (8 + zN d) ≤ 3 * (8 + zN d) := Int.mul_le_mul_of_nonneg_right (by omega) (by omega)
      have f2 : (m : Int) * (zB d + 1000) ≤ 3 * (zB d + 1000) := Int.mul_le_mul_of_nonneg_right (by omega) (by omega)
      have f3 : m * (zS d + 2) ≤ 3 * (zS d + 2) := Nat.mul_le_mul_right _ hm
      have ew : IntKind.i64.wrap (((d + 1 : Nat) : Int) - 1) = (d : Int) := by rw [wid (by omega) (by omega)]; omega
      refine Drew.mono (ord_loop (S := zS d) (M := zS (d + 1)) (B := zB d) (BM := zB (d + 1)) (N := zN d) (d := ((d + 1 : Nat) : Int)) (L := 1000000 - 1000 * (d : Int)) (by omega) hx b1.2.1 b1.2.2.2.1 ?_ (by simp only [zS]; omega) (by simp only [zS]; omega) (by simp only [zB]; omega) k m nil a' c' 0 (by omega) (by omega) q1 (by omega) (by simp only [zS, size]; omega) trivial (by omega) (by simp only [zB]; omega)) f1
      intro a c z1 z2
      rw [ew]
      exact ordinal_ok hx d k a c (by omega) (by omega) z1 (by omega)

theorem any_l0 {x : Rw} {y : Int × Rw × Int × Int} {K : Rw → Option (Rw × Rw × Int × Int)} {a n : Int} {Q : Rw → Prop} {M : Nat} (hK : ∀ t : T, t.size ≤ M → sm 40000 t → Drew x a n (K t.rows) Q) :
    ∀ (f v : Nat) (t : T), v < f → v ≤ 1000 → t.size + v ≤ M → sm 40000 t → Drew x a n (spec_l1Cur_anyOrdinal_l0 y K f (v : Int) t.rows) Q
  | 0, v, _, h, _, _, _ => absurd h (Nat.not_lt_zero _)
  | f + 1, 0, t, _, _, hs, st => by
    simp only [spec_l1Cur_anyOrdinal_l0]
    rw [if_neg (by omega)]
    exact hK t (by omega) st
  | f + 1, v + 1, t, h, hv, hs, st => by
    have ew : IntKind.i64.wrap (((v + 1 : Nat) : Int) - 1) = (v : Int) := by rw [wid (by omega) (by omega)]; omega
    simp only [spec_l1Cur_anyOrdinal_l0]
    rw [if_pos (by omega), odTerm_ok t (by omega), Option.bind_some, ew]
    exact any_l0 hK f v (cons t 1 nil) (by omega) (by omega) (by simp only [size]; omega) ⟨st, by omega, trivial⟩
theorem any_l1 {k : Nat} {x : Rw} {y : Int × Rw × Int × Int} {K : Rw → Option (Rw × Rw × Int × Int)} {a n BM : Int} {Q : Rw → Prop} {M : Nat} (hM : M + 1 < k) (hcap : M + 1 ≤ cap) (hBM : BM ≤ 1000000000) (hK : ∀ t : T, t.size ≤ M → sm BM t → Drew x a n (K t.rows) Q) :
    ∀ (f v : Nat) (t : T) (C : Int), v < f → v ≤ 1000 → t.size + 2 * v ≤ M → sm C t → 0 ≤ C → C + 1000000 * (v : Int) ≤ BM → Drew x a n (spec_l1Cur_anyOrdinal_l1 k y K f (v : Int) t.rows) Q
  | 0, v, _, _, h, _, _, _, _, _ => absurd h (Nat.not_lt_zero _)
  | f + 1, 0, t, C, _, _, hs, st, hC, hb => by
    simp only [spec_l1Cur_anyOrdinal_l1]
    rw [if_neg (by omega)]
    exact hK t (by omega) (sm_mono st (by omega))
  | f + 1, v + 1, t, C, h, hv, hs, st, hC, hb => by
    have ew : IntKind.i64.wrap (((v + 1 : Nat) : Int) - 1) = (v : Int) := by rw [wid (by omega) (by omega)]; omega
    have z := intT_size ((v + 1 : Nat) : Int)
    simp only [spec_l1Cur_anyOrdinal_l1]
    obtain ⟨r, q1, q2, q3⟩ := meet_ok (k := k) (C := C) (D := 1000000) (c := 1000000) (t := t) (e := intT ((v + 1 : Nat) : Int)) (intT_sm (by omega)) (by omega) (by omega) (by omega) (by omega) st
    rw [if_pos (by omega), odInt_eq, Option.bind_some, q1, Option.bind_some, ew]
    exact any_l1 hM hcap hBM hK f v r (C + 1000000) (by omega) (by omega) (by omega) q3 (by omega) (by omega)
theorem any_ok {k : Nat} {x : Rw} (hx : bytes x) (hk : 500 < k) {a c : Int} (h0 : 0 ≤ a) (h1 : a ≤ 10000) : Drew x a 500 (spec_l1Cur_anyOrdinal k x a c) (IsT 200 100000000) := by
  have h3 : cap = 1099511627776 := rfl
  unfold spec_l1Cur_anyOrdinal
  refine Drew.mono (Drew.bind (n := 2) (m := 450) (among_ok (Q := fun i => ∃ m : Nat, i = m ∧ m ≤ 3) hx h0 (by omega) (by simp) ?_) fun v a1 c1 q1 q2 q3 => ?_) (by omega)
  · intro r hr
    simp only [List.mem_cons, List.not_mem_nil, or_false] at hr
    rcases hr with rfl | rfl | rfl | rfl
    · exact ⟨_, rfl, 0, rfl, by omega⟩
    · exact ⟨_, rfl, 1, rfl, by omega⟩
    · exact ⟨_, rfl, 2, rfl, by omega⟩
    · exact ⟨_, rfl, 3, rfl, by omega⟩
  obtain ⟨d, rfl, hd⟩ := q3
  have b1 : zS d ≤ 105 ∧ 0 ≤ zB d ∧ zB d ≤ 40000 ∧ 0 ≤ zN d ∧ zN d ≤ 392 := by
    have : d = 0 ∨ d = 1 ∨ d = 2 ∨ d = 3 := by omega
    rcases this with rfl | rfl | rfl | rfl <;> simp [zS, zB, zN]
  refine Drew.mono (Drew.bind (n := 392) (m := 50) (Drew.mono (ordinal_ok hx d k a1 c1 hd (by omega) q1 (by omega)) b1.2.2.2.2) fun r a2 c2 q4 q5 q6 => ?_) (by omega)
  obtain ⟨t, rfl, z1, z2⟩ := q6
  have s4 : sm 40000 t := sm_mono z2 b1.2.2.1
  have s8 : sm 100000000 t := sm_mono z2 (by omega)
  have hl := t.len_size
  have fin : ∀ (t : T) (a' c' : Int), 0 ≤ a' → t.size ≤ 200 → sm 100000000 t → Drew x a' 0 (spec_l1Cur_anyOrdinal_p4 x a' c' t.rows) (IsT 200 100000000) := fun t a' c' h z1 z2 => ⟨_, a', _, rfl, h, by omega, t, rfl, z1, z2⟩
  show Drew x a2 50 (spec_l1Cur_anyOrdinal_p2 k x a2 c2 t.rows) _
  unfold spec_l1Cur_anyOrdinal_p2
  refine Drew.mono (Drew.bind (n := 2) (m := 40) (one_ok hx q4 (by omega) (by omega)) fun v a3 c3 q7 q8 _ => ?_) (by omega)
  simp only
  split
  · unfold spec_l1Cur_anyOrdinal_p3
    refine Drew.mono (Drew.bind (n := 2) (m := 30) (pick_ok hx q7 (by omega) (by omega)) fun u a4 c4 q9 q10 q11 => ?_) (by omega)
    simp only
    have app1 : ∀ (e : T) (n : Int), e.size ≤ 1 → sm 100000000 e → (-100000000 ≤ n ∧ n ≤ 100000000) → ∀ a' c' : Int, 0 ≤ a' → Drew x a' 0 (if t.rows.length + 1 ≤ cap then spec_l1Cur_anyOrdinal_p4 x a' c' (t.rows ++ [[Go.AX.D.sl e.rows, Go.AX.D.int .i64 n]]) else none) (IsT 200 100000000) := by
      intro e n y1 y2 y3 a' c' y4
      rw [if_pos (by rw [rows_len]; omega), snocRows]
      exact fin _ _ _ y4 (by rw [size_app]; simp only [size]; omega) (sm_app.2 ⟨s8, y2, y3, trivial⟩)
    split
    · rw [odInt_eq, Option.bind_some]
      exact Drew.mono (app1 _ 1 (intT_size 7) (intT_sm (by omega)) (by omega) a4 c4 q9) (by omega)
    · split
      · refine Drew.mono (Drew.bind (n := 2) (m := 0) (among_ok (Q := fun i => -100000000 ≤ i ∧ i ≤ 100000000) hx q9 (by omega) (by simp) ?_) fun w a5 c5 q12 q13 q14 => ?_) (by omega)
        · intro r hr
          simp only [List.mem_cons, List.not_mem_nil, or_false] at hr
          rcases hr with rfl | rfl | rfl | rfl <;> exact ⟨_, rfl, by omega, by omega⟩
        · exact app1 nil w (by simp [size]) trivial q14 a5 c5 q12
      · split
        · refine Drew.mono (Drew.bind (n := 2) (m := 0) (pick_ok hx q9 (by omega) (by omega)) fun w a5 c5 q12 q13 q14 => ?_) (by omega)
          obtain ⟨m, rfl⟩ : ∃ m : Nat, w = m := ⟨w.toNat, by omega⟩
          simp only
          exact any_l0 (M := 200) (fun t' y1 y2 => fin t' _ _ q12 y1 (sm_mono y2 (by omega))) k m t (by omega) (by omega) (by omega) s4
        · refine Drew.mono (Drew.bind (n := 2) (m := 0) (pick_ok hx q9 (by omega) (by omega)) fun w a5 c5 q12 q13 q14 => ?_) (by omega)
          obtain ⟨m, rfl⟩ : ∃ m : Nat, w = m := ⟨w.toNat, by omega⟩
          simp only
          exact any_l1 (k := k) (M := 200) (BM := 100000000) (by omega) (by omega) (by omega) (fun t' y1 y2 => fin t' _ _ q12 y1 y2) k m t 40000 (by omega) (by omega) (by omega) s4 (by omega) (by omega)
  · exact ⟨_, a3, _, rfl, q7, by omega, t, rfl, by omega, s8⟩
theorem splus_sm {B : Int} : ∀ (b a : T) (C : Int), sm C a → sm B b → 0 ≤ B → 0 ≤ C → C + B * b.len ≤ 1000000000000 → sm (C + B * b.len) (splus a b)
  | nil, a, C, sa, _, _, _, _ => sm_mono sa (by simp [len])
  | cons f d m, a, C, sa, sb, hB, hC, hs => by
    have e : B * ((m.len + 1 : Nat) : Int) = B * m.len + B := by rw [Int.natCast_add, Int.mul_add]; omega
    simp only [len] at hs ⊢
    have hnn : 0 ≤ B * (m.len : Int) := Int.mul_nonneg hB (by omega)
    rw [e] at hs ⊢
    have := splus_sm m (addL (popT a f) f d) (C + B) (sm_addL (sm_pop sa) sb.1 sb.2.1 ⟨hC, hB, by omega⟩) sb.2.2 hB (by omega) (by omega)
    exact sm_mono this (by omega)
end Go.Proofs.Try

namespace Go.Proofs.Try
open Go Go.AX T
theorem told_one {t : T} (h : (toldT t).2 = true) : (toldT t).1 = t := by
  unfold toldT at *
  split
  · rfl
  · rename_i q; rw [if_neg q] at h; cases h
/-- What a step down tells. -/
theorem desc_eq2 {k : Nat} {a : T} {n : Int} (hk : 30000 < k) (ha : a.size < k) (hc : a.size + 2 ≤ cap) : ∃ (t : T) (m : Int) (ok : Bool), impl_DescendOnce k a.rows n = some (t.rows, m, ok) ∧ spec_DescendOnce k a.rows n = some (t.rows, m, ok) ∧ t.size ≤ 30 ∧ (ok = true → ordP t = true ∧ cmpT t a < 0 ∧ (m = n ∨ m = n + 1) ∧ (0 ≤ n ∧ n ≤ 1000) ∧ a ≠ nil) := by
  have h3 : cap = 1099511627776 := rfl
  have hal := a.len_size
  unfold impl_DescendOnce spec_DescendOnce spec_PredecessorOf spec_FundamentalAt
  rw [IsOrdinal_eq k a ha (by omega), odGood_all k a ha (by omega)]
  simp only [Option.bind_some]
  cases oa : ordP a with
  | false => exact ⟨nil, 0, false, rfl, rfl, Nat.zero_le _, (fun h => by cases h)⟩
  | true =>
    have hf := ordP_form oa
    have hs := ordP_size oa
    rw [if_pos rfl, if_pos rfl, isZ, odZ, impl_in_eq, l1In_eq]
    simp only [Option.bind_some]
    by_cases hn : 0 ≤ n ∧ n ≤ 1000
    · have hn' : (decide (0 ≤ n) && decide (n ≤ 1000)) = true := by simp; omega
      rw [hn', if_pos rfl]
      by_cases hz : a = nil
      · subst hz; exact ⟨nil, 0, false, rfl, rfl, Nat.zero_le _, (fun h => by cases h)⟩
      · have z0 : zer a = false := by cases a with | nil => exact absurd rfl hz | cons _ _ _ => rfl
        rw [z0, isLimit_eq (by omega) hf, odLimit_eq (by omega) hf]
        simp only [Option.bind_some, Bool.false_eq_true, if_false, if_true]
        cases hl : limT a with
        | true =>
          have m : (a.size + 1) * (a.size + 1) ≤ 31 * 31 := Nat.mul_le_mul (by omega) (by omega)
          have fs := fund_size k n a
          simp only [if_true, Option.bind_some, Bool.false_eq_true, if_false]
          rw [fundamental_eq n hn k a hl hf (by omega) (by omega), odAt_eq n hn k a hl hf (by omega) (by omega)]
          simp only [Option.bind_some]
          rw [told_eq k _ (by omega) (by omega), odIf_all k _ (by omega) (by omega)]
          simp only [Option.bind_some]
          have hlt := (fund_lt n k a hl hf (by omega)).1
          cases ho : (toldT (fund k n a)).2 with
          | true => exact ⟨_, n, true, rfl, rfl, ordP_size (told_ok ho), fun _ => ⟨told_ok ho, by rw [told_one ho]; exact hlt, .inl rfl, hn, hz⟩⟩
          | false => exact ⟨nil, 0, false, rfl, rfl, Nat.zero_le _, (fun h => by cases h)⟩
        | false =>
          have bs := befT_size a
          simp only [Bool.false_eq_true, if_false]
          rw [before_eq hz hl (by omega) (by omega) hf, odBefore_eq hz (by omega)]
          simp only [Option.bind_some]
          rw [told_eq k _ (by omega) (by omega), odIf_all k _ (by omega) (by omega)]
          simp only [Option.bind_some]
          have hlt := bef_lt hz hf
          cases ho : (toldT (befT a)).2 with
          | true => exact ⟨_, _, true, rfl, rfl, ordP_size (told_ok ho), fun _ => ⟨told_ok ho, by rw [told_one ho]; exact hlt, .inr (wid (by omega) (by omega)), hn, hz⟩⟩
          | false => exact ⟨nil, 0, false, rfl, rfl, Nat.zero_le _, (fun h => by cases h)⟩
    · have hn' : (decide (0 ≤ n) && decide (n ≤ 1000)) = false := by
        cases q : (decide (0 ≤ n) && decide (n ≤ 1000)) with
        | false => rfl
        | true => simp at q; omega
      rw [hn']
      simp only [Bool.false_eq_true, if_false]
      cases zer a <;> exact ⟨nil, 0, false, rfl, rfl, Nat.zero_le _, (fun h => by cases h)⟩
theorem hardy_two {k : Nat} (hk : 30000 < k) : ∀ (r f f' : Nat) (a : T) (n j j' most most' : Int), ordP a = true → 0 ≤ j → 0 ≤ j' → (r : Int) + j = most → (r : Int) + j' = most' → most ≤ 200 → most' ≤ 200 → r < f → r < f' →
    ∃ (v : Int) (ok : Bool), impl_HardyValue_l0 k most (fun (v54 : Int) => (impl_HardyValue_p3 v54)) f n j a.rows = some (v, ok) ∧ impl_HardyValue_l0 k most' (fun (v54 : Int) => (impl_HardyValue_p3 v54)) f' n j' a.rows = some (v, ok) ∧ spec_HardyValue_l0 k (fun (v26 : Int) => some (v26, true)) f n (r : Int) a.rows = some (v, ok) ∧ (ok = true → n ≤ v)
  | _, 0, _, _, _, _, _, _, _, _, _, _, _, _, _, _, h, _ => absurd h (Nat.not_lt_zero _)
  | _, _, 0, _, _, _, _, _, _, _, _, _, _, _, _, _, _, h => absurd h (Nat.not_lt_zero _)
  | r, f + 1, f' + 1, a, n, j, j', most, most', oa, hj, hj', hr, hr', hm, hm', hf, hf' => by
    have h3 : cap = 1099511627776 := rfl
    have hs := ordP_size oa
    simp only [impl_HardyValue_l0, spec_HardyValue_l0]
    rw [isZ, odZ]
    simp only [Option.bind_some]
    obtain ⟨t, m, ok, e1, e2, _, e3⟩ := desc_eq2 (k := k) (a := a) (n := n) hk (by omega) (by omega)
    cases hz : zer a with
    | true => exact ⟨n, true, rfl, rfl, rfl, fun _ => Int.le_refl _⟩
    | false =>
      simp only [Bool.false_eq_true, if_false]
      rw [e1, e2]
      simp only [Option.bind_some]
      cases r with
      | zero =>
        refine ⟨0, false, ?_, ?_, by rw [if_pos (by omega)], fun h => by cases h⟩
        · cases ok with
          | true => rw [if_pos rfl, if_pos (by omega)]
          | false => rfl
        · cases ok with
          | true => rw [if_pos rfl, if_pos (by omega)]
          | false => rfl
      | succ r =>
        rw [if_neg (show ¬ ((r + 1 : Nat) : Int) = 0 by omega)]
        cases ok with
        | false => exact ⟨0, false, rfl, rfl, rfl, fun h => by cases h⟩
        | true =>
          obtain ⟨o1, _, o2, _, _⟩ := e3 rfl
          simp only [if_true]
          rw [if_neg (show ¬ j = most by omega), if_neg (show ¬ j' = most' by omega)]
          have w1 : IntKind.i64.wrap (j + 1) = j + 1 := wid (by omega) (by omega)
          have w1' : IntKind.i64.wrap (j' + 1) = j' + 1 := wid (by omega) (by omega)
          have w2 : IntKind.i64.wrap (((r + 1 : Nat) : Int) - 1) = (r : Int) := by rw [wid (by omega) (by omega)]; omega
          rw [w1, w1', w2]
          obtain ⟨v, ok, g1, g2, g3, g4⟩ := hardy_two hk r f f' t m (j + 1) (j' + 1) most most' o1 (by omega) (by omega) (by omega) (by omega) hm hm' (by omega) (by omega)
          exact ⟨v, ok, g1, g2, g3, fun h => by have := g4 h; omega⟩
/-- Both values; and when there is one, what is known of it. -/
theorem hardy_eq2 {k : Nat} {a : T} {n most : Int} (hk : 30000 < k) (ha : a.size < k) (hc : a.size + 2 ≤ cap) : ∃ (v : Int) (ok : Bool), impl_HardyValue k a.rows n most = some (v, ok) ∧ spec_HardyValue k a.rows n most = some (v, ok) ∧
    (ok = true → ordP a = true ∧ (0 ≤ n ∧ n ≤ 1000) ∧ (0 ≤ most ∧ most ≤ 200) ∧ impl_HardyValue_l0 k most (fun (v54 : Int) => (impl_HardyValue_p3 v54)) k n 0 a.rows = some (v, true)) := by
  unfold impl_HardyValue spec_HardyValue
  rw [IsOrdinal_eq k a ha (by omega), odGood_all k a ha (by omega), impl_in_eq, l1In_eq, impl_in_eq, l1In_eq]
  simp only [Option.bind_some]
  cases oa : ordP a with
  | false => exact ⟨0, false, rfl, rfl, fun h => by cases h⟩
  | true =>
    cases hn : (decide (0 ≤ n) && decide (n ≤ 1000)) with
    | false => exact ⟨0, false, rfl, rfl, fun h => by cases h⟩
    | true =>
      cases hm : (decide (0 ≤ most) && decide (most ≤ 200)) with
      | false => exact ⟨0, false, rfl, rfl, fun h => by cases h⟩
      | true =>
        simp only [Bool.and_eq_true, decide_eq_true_eq] at hm hn
        obtain ⟨r, rfl⟩ : ∃ r : Nat, most = r := ⟨most.toNat, by omega⟩
        simp only [if_true]
        obtain ⟨v, ok, g1, _, g3, _⟩ := hardy_two hk r k k a n 0 0 r r oa (by omega) (by omega) (by omega) (by omega) hm.2 hm.2 (by omega) (by omega)
        exact ⟨v, ok, g1, g3, fun h => ⟨trivial, hn, hm, by rw [h] at g1; exact g1⟩⟩
theorem hardy_at {k : Nat} {t : T} {m most : Int} {r : Nat} (hk : 30000 < k) (ot : ordP t = true) (hm : 0 ≤ m ∧ m ≤ 1000) (hr : (r : Int) + 1 = most) (hmo : most ≤ 200) {v : Int} (h : impl_HardyValue_l0 k most (fun (v54 : Int) => (impl_HardyValue_p3 v54)) (k - 1) m 1 t.rows = some (v, true)) : impl_HardyValue k t.rows m (most - 1) = some (v, true) ∧ m ≤ v := by
  have zt := ordP_size ot
  obtain ⟨v', ok, g1, g2, _, g4⟩ := hardy_two hk r (k - 1) k t m 1 0 most (most - 1) ot (by omega) (by omega) hr (by omega) hmo (by omega) (by omega) (by omega)
  rw [h] at g1
  simp only [Option.some.injEq, Prod.mk.injEq] at g1
  obtain ⟨rfl, rfl⟩ := g1
  refine ⟨?_, g4 rfl⟩
  have h3 : cap = 1099511627776 := rfl
  unfold impl_HardyValue
  rw [IsOrdinal_eq k t (by omega) (by omega), impl_in_eq, impl_in_eq, ot]
  simp only [Option.bind_some, if_true]
  rw [show (decide (0 ≤ m) && decide (m ≤ 1000)) = true by simp; omega, show (decide (0 ≤ most - 1) && decide (most - 1 ≤ 200)) = true by simp; omega]
  exact g2
/-! ### what is drawn -/
theorem form_drawn {k : Nat} {b : Int} {rec_ : Int → Int → Option Rw} {X : Int} {Z : Nat} (hb : 2 ≤ b ∧ b ≤ 10) (hX : X ≤ 100) (hZ : Z ≤ 100) (hr : ∀ x : Int, 0 ≤ x → x ≤ X → ∃ t : T, rec_ x b = some t.rows ∧ t.size ≤ Z) : ∀ (it n : Nat) (v e : Int) (acc : T), 0 ≤ v → v < 2 ^ it → v ≤ 1000 → 0 ≤ e → e + it ≤ X + 1 → it < n → acc.size + it * (Z + 1) ≤ 1000 →
    ∃ t : T, spec_deForm_l0 rec_ b (fun v => some v) n v e acc.rows = some t.rows ∧ t.size ≤ acc.size + it * (Z + 1)
  | _, 0, _, _, _, _, _, _, _, _, h, _ => absurd h (Nat.not_lt_zero _)
  | 0, n + 1, v, e, acc, h0, h1, _, _, _, _, _ => by
    have : v = 0 := by simp at h1; omega
    simp only [spec_deForm_l0]
    rw [if_neg (by omega)]
    exact ⟨acc, rfl, by omega⟩
  | it + 1, n + 1, v, e, acc, h0, h1, h9, he, hX2, hn, hs => by
    have h3 : cap = 1099511627776 := rfl
    have hp : (2 : Int) ^ (it + 1) = 2 * 2 ^ it := by rw [Int.pow_succ, Int.mul_comm]
    have hmul : (it + 1) * (Z + 1) = it * (Z + 1) + (Z + 1) := by rw [Nat.add_mul, Nat.one_mul]
    simp only [spec_deForm_l0]
    by_cases hv : 0 < v
    · have d1 : v.tdiv b = v / b := Int.tdiv_eq_ediv_of_nonneg h0
      have d2 : 0 ≤ v / b := Int.ediv_nonneg h0 (by omega)
      have d5 : b * (v / b) ≤ v := Int.mul_ediv_self_le (by omega)
      have d6 : 2 * (v / b) ≤ b * (v / b) := Int.mul_le_mul_of_nonneg_right hb.1 d2
      have d4 : v / b ≤ v := Int.ediv_le_self _ h0
      obtain ⟨t, e1, z1⟩ := hr e he (by omega)
      rw [if_pos hv, if_pos (by omega), wid (n := v.tdiv b) (by omega) (by rw [d1]; omega), wid (n := e + 1) (by omega) (by omega), d1]
      split
      · have hl := acc.len_size
        rw [e1, Option.bind_some, if_pos ⟨by simp only [List.length_cons, List.length_nil, rows_len]; omega, rowsWide acc⟩]
        obtain ⟨u, g1, g2⟩ := form_drawn (k := k) hb hX hZ hr it n (v / b) (e + 1) (cons t (v.tmod b) acc) d2 (by omega) (by omega) (by omega) (by omega) (by omega) (by simp only [size]; omega)
        exact ⟨u, g1, by simp only [size] at g2; omega⟩
      · obtain ⟨u, g1, g2⟩ := form_drawn (k := k) hb hX hZ hr it n (v / b) (e + 1) acc d2 (by omega) (by omega) (by omega) (by omega) (by omega) (by omega)
        exact ⟨u, g1, by omega⟩
    · rw [if_neg hv]
      exact ⟨acc, rfl, by omega⟩
theorem deForm_ok {k : Nat} {b n : Int} (hk : 100 < k) (hb : 2 ≤ b ∧ b ≤ 10) (hn : 0 ≤ n ∧ n ≤ 8) : ∃ t : T, spec_deForm k n b = some t.rows ∧ t.size ≤ 20 := by
  have step : ∀ (K it : Nat) (X : Int) (Z : Nat), 20 < K → it ≤ 4 → X ≤ 100 → Z ≤ 100 → (it : Int) ≤ X + 1 → (∀ x : Int, 0 ≤ x → x ≤ X → ∃ t : T, spec_deForm K x b = some t.rows ∧ t.size ≤ Z) → ∀ x : Int, 0 ≤ x → x < 2 ^ it → x ≤ 1000 → ∃ t : T, spec_deForm (K + 1) x b = some t.rows ∧ t.size ≤ it * (Z + 1) := by
    intro K it X Z hK hit hX hZ hiX hr x h0 h1 h9
    have hm : it * (Z + 1) ≤ 4 * 101 := Nat.mul_le_mul hit (by omega)
    obtain ⟨t, e, z⟩ := form_drawn (k := K) (rec_ := spec_deForm K) hb hX hZ hr it K x 0 nil h0 h1 h9 (by omega) (by omega) (by omega) (by simp only [size]; omega)
    exact ⟨t, e, by simp only [size] at z; omega⟩
  obtain ⟨j, rfl⟩ : ∃ j, k = j + 3 + 1 := ⟨k - 4, by omega⟩
  have l0 := step j 0 (-1) 0 (by omega) (by omega) (by omega) (by omega) (by omega) (fun x h0 h1 => by omega)
  have l1 := step (j + 1) 1 0 0 (by omega) (by omega) (by omega) (by omega) (by omega) (fun x h0 h1 => by obtain ⟨t, e, z⟩ := l0 x h0 (by simp; omega) (by omega); exact ⟨t, e, by omega⟩)
  have l2 := step (j + 2) 2 1 1 (by omega) (by omega) (by omega) (by omega) (by omega) (fun x h0 h1 => by obtain ⟨t, e, z⟩ := l1 x h0 (by simp; omega) (by omega); exact ⟨t, e, by omega⟩)
  have l3 := step (j + 3) 4 3 4 (by omega) (by omega) (by omega) (by omega) (by omega) (fun x h0 h1 => by obtain ⟨t, e, z⟩ := l2 x h0 (by simp; omega) (by omega); exact ⟨t, e, by omega⟩)
  obtain ⟨t, e, z⟩ := l3 n hn.1 (by simp; omega) (by omega)
  exact ⟨t, e, by omega⟩
theorem leaf_ok {k : Nat} {x : Rw} (hx : bytes x) (hk : 1000 < k) {a c n most : Int} (h0 : 0 ≤ a) (h1 : a ≤ 100) : ∃ t : T, ((spec_l1Cur_one x a c 2).bind fun y14 => (if y14.1 = true then ((spec_l1Cur_pick y14.2.1 y14.2.2.1 y14.2.2.2 9).bind fun y19 => ((spec_l1Cur_pick y19.2.1 y19.2.2.1 y19.2.2.2 3).bind fun y21 => ((spec_deForm k y19.1 (IntKind.i64.wrap (2 + y21.1))).bind fun y23 => some (y23, n, most)))) else ((spec_l1Cur_anyOrdinal k y14.2.1 y14.2.2.1 y14.2.2.2).bind fun y25 => some (y25.1, n, most)))) = some (t.rows, n, most) ∧ t.size ≤ 300 := by
  obtain ⟨v, a1, c1, e1, p1, p2, _⟩ := one_ok (m := 2) (c := c) hx h0 (by omega) (by omega)
  rw [e1, Option.bind_some]
  simp only
  cases v with
  | true =>
    simp only [if_true]
    obtain ⟨r, a2, c2, e2, p3, p4, q2⟩ := pick_ok (m := 9) (c := c1) hx p1 (by omega) (by omega)
    rw [e2, Option.bind_some]
    simp only
    obtain ⟨s, a3, c3, e3, p5, p6, q3⟩ := pick_ok (m := 3) (c := c2) hx p3 (by omega) (by omega)
    rw [e3, Option.bind_some]
    simp only
    rw [wid (by omega) (by omega)]
    obtain ⟨t, e4, z⟩ := deForm_ok (k := k) (b := 2 + s) (n := r) (by omega) (by omega) (by omega)
    rw [e4, Option.bind_some]
    exact ⟨t, rfl, by omega⟩
  | false =>
    simp only [Bool.false_eq_true, if_false]
    obtain ⟨r, a2, c2, e2, p3, p4, t, rfl, z, _⟩ := any_ok (k := k) (c := c1) hx (by omega) p1 (by omega)
    rw [e2, Option.bind_some]
    exact ⟨t, rfl, by omega⟩
theorem mid_ok {k : Nat} {x : Rw} (hx : bytes x) (hk : 1000 < k) {a c most : Int} (h0 : 0 ≤ a) (h1 : a ≤ 50) {F : (Int × Rw × Int × Int) → Option (Rw × Int × Int)} (hF : F = fun y9 => ((spec_l1Cur_one y9.2.1 y9.2.2.1 y9.2.2.2 8).bind fun y11 => (if y11.1 = true then ((spec_l1Cur_among y11.2.1 y11.2.2.1 y11.2.2.2 ([[D.int .i64 (-1)], [D.int .i64 999], [D.int .i64 1000], [D.int .i64 1001]] : Rw)).bind fun y14 => ((spec_l1Cur_one y14.2.1 y14.2.2.1 y14.2.2.2 2).bind fun y16 => (if y16.1 = true then ((spec_l1Cur_pick y16.2.1 y16.2.2.1 y16.2.2.2 9).bind fun y19 => ((spec_l1Cur_pick y19.2.1 y19.2.2.1 y19.2.2.2 3).bind fun y21 => ((spec_deForm k y19.1 (IntKind.i64.wrap (2 + y21.1))).bind fun y23 => some (y23, y14.1, most)))) else ((spec_l1Cur_anyOrdinal k y16.2.1 y16.2.2.1 y16.2.2.2).bind fun y25 => some (y25.1, y14.1, most))))) else ((spec_l1Cur_one y11.2.1 y11.2.2.1 y11.2.2.2 2).bind fun y27 => (if y27.1 = true then ((spec_l1Cur_pick y27.2.1 y27.2.2.1 y27.2.2.2 9).bind fun y30 => ((spec_l1Cur_pick y30.2.1 y30.2.2.1 y30.2.2.2 3).bind fun y32 => ((spec_deForm k y30.1 (IntKind.i64.wrap (2 + y32.1))).bind fun y34 => some (y34, y9.1, most)))) else ((spec_l1Cur_anyOrdinal k y27.2.1 y27.2.2.1 y27.2.2.2).bind fun y36 => some (y36.1, y9.1, most))))))) :
    ∃ (t : T) (n : Int), (spec_l1Cur_pick x a c 5).bind F = some (t.rows, n, most) ∧ t.size ≤ 300 := by
  subst hF
  obtain ⟨r, a1, c1, e1, p1, p2, q1⟩ := pick_ok (m := 5) (c := c) hx h0 (by omega) (by omega)
  rw [e1, Option.bind_some]
  simp only
  obtain ⟨v, a2, c2, e2, p3, p4, _⟩ := one_ok (m := 8) (c := c1) hx p1 (by omega) (by omega)
  rw [e2, Option.bind_some]
  simp only
  cases v with
  | true =>
    simp only [if_true]
    obtain ⟨s, a3, c3, e3, p5, p6, _⟩ := among_ok (x := x) (a := a2) (c := c2) (es := [[D.int .i64 (-1)], [D.int .i64 999], [D.int .i64 1000], [D.int .i64 1001]]) (Q := fun _ => True) hx p3 (by omega) (by simp) (fun r hr => by simp at hr; rcases hr with rfl | rfl | rfl | rfl <;> exact ⟨_, rfl, trivial⟩)
    rw [e3, Option.bind_some]
    simp only
    obtain ⟨t, g1, g2⟩ := leaf_ok (k := k) (c := c3) (n := s) (most := most) hx hk p5 (by omega)
    exact ⟨t, s, g1, g2⟩
  | false =>
    simp only [Bool.false_eq_true, if_false]
    obtain ⟨t, g1, g2⟩ := leaf_ok (k := k) (c := c2) (n := r) (most := most) hx hk p3 (by omega)
    exact ⟨t, r, g1, g2⟩
theorem drawHardy_ok {k : Nat} {x : Rw} (hx : bytes x) (hk : 1000 < k) : ∃ (t : T) (n most : Int), spec_DrawHardyValue k x = some (t.rows, n, most) ∧ t.size ≤ 300 := by
  unfold spec_DrawHardyValue
  obtain ⟨r, a1, c1, e1, p1, p2, q1⟩ := pick_ok (m := 60) (a := 0) (c := 0) hx (by omega) (by omega) (by omega)
  rw [e1, Option.bind_some]
  simp only
  obtain ⟨v, a2, c2, e2, p3, p4, _⟩ := one_ok (m := 6) (c := c1) hx p1 (by omega) (by omega)
  rw [e2, Option.bind_some]
  simp only
  cases v with
  | true =>
    simp only [if_true]
    obtain ⟨s, a3, c3, e3, p5, p6, _⟩ := among_ok (x := x) (a := a2) (c := c2) (es := [[D.int .i64 (-1)], [D.int .i64 0], [D.int .i64 200], [D.int .i64 201]]) (Q := fun _ => True) hx p3 (by omega) (by simp) (fun r hr => by simp at hr; rcases hr with rfl | rfl | rfl | rfl <;> exact ⟨_, rfl, trivial⟩)
    rw [e3, Option.bind_some]
    simp only
    obtain ⟨t, n, g1, g2⟩ := mid_ok (k := k) (c := c3) (most := s) hx hk p5 (by omega) rfl
    exact ⟨t, n, s, g1, g2⟩
  | false =>
    simp only [Bool.false_eq_true, if_false]
    obtain ⟨t, n, g1, g2⟩ := mid_ok (k := k) (c := c2) (most := r) hx hk p3 (by omega) rfl
    exact ⟨t, n, r, g1, g2⟩
end Go.Proofs.Try

namespace Go.Proofs.Try
open Go Go.AX T
/-- A product with a right ordinal w^a1 c1 + a', term by term. -/
def tmG (a1 : T) (c1 : Int) (a' : T) : T → T
  | nil => nil
  | cons nil d m => app (cons a1 (w (c1 * d)) a') (tmG a1 c1 a' m)
  | cons (cons x y z) d m => cons (plusT a1 (cons x y z)) d (tmG a1 c1 a' m)
def timesT : T → T → T
  | nil, _ => nil
  | cons a1 c1 a', b => tmG a1 c1 a' b
theorem tmG_size (a1 : T) (c1 : Int) (a' : T) : ∀ b : T, (tmG a1 c1 a' b).size ≤ b.size * (a1.size + a'.size + 2)
  | nil => by simp [tmG, size]
  | cons nil d m => by
    have ih := tmG_size a1 c1 a' m
    simp only [tmG, size_app, size]
    rw [show 0 + m.size + 1 = m.size + 1 by omega, Nat.add_mul, Nat.one_mul]
    omega
  | cons (cons x y z) d m => by
    have ih := tmG_size a1 c1 a' m
    have h1 := plusT_size a1 (cons x y z)
    simp only [tmG]
    rw [show (cons (plusT a1 (cons x y z)) d (tmG a1 c1 a' m)).size = (plusT a1 (cons x y z)).size + (tmG a1 c1 a' m).size + 1 from rfl, show (cons (cons x y z) d m).size = (cons x y z).size + m.size + 1 from rfl, Nat.add_mul, Nat.add_mul, Nat.one_mul]
    have : (cons x y z).size ≤ (cons x y z).size * (a1.size + a'.size + 2) := Nat.le_mul_of_pos_right _ (by omega)
    omega
theorem posT_app {a b : T} : posT (app a b) ↔ posT a ∧ posT b := by
  induction a with
  | nil => simp [app, posT]
  | cons e c l _ ih => simp only [app, posT, ih, and_assoc]
theorem mul_in {a b B C : Int} (ha : 0 ≤ a ∧ a ≤ B) (hb : 0 ≤ b ∧ b ≤ C) : 0 ≤ a * b ∧ a * b ≤ B * C :=
  ⟨Int.mul_nonneg ha.1 hb.1, Int.mul_le_mul ha.2 hb.2 hb.1 (by omega)⟩
theorem tmG_sm {B C D : Int} {a1 a' : T} {c1 : Int} (s1 : sm B a1) (hc : 0 ≤ c1 ∧ c1 ≤ B) (s' : sm B a') (hB : 0 ≤ B ∧ 0 ≤ C ∧ B + C ≤ D ∧ B * C ≤ D ∧ D ≤ 1000000000000000) : ∀ b : T, sm C b → posT b → sm D (tmG a1 c1 a' b)
  | nil, _, _ => trivial
  | cons nil d m, hs, hp => by
    have ih := tmG_sm s1 hc s' hB m hs.2.2 hp.2
    have hm := mul_in hc ⟨by have := hp.1; omega, hs.2.1.2⟩
    simp only [tmG, sm_app]
    refine ⟨⟨sm_mono s1 (by omega), ?_, sm_mono s' (by omega)⟩, ih⟩
    rw [show w (c1 * d) = c1 * d from wid (by omega) (by omega)]; omega
  | cons (cons x y z) d m, hs, hp => by
    have ih := tmG_sm s1 hc s' hB m hs.2.2 hp.2
    have h1 := hs.2.1
    exact ⟨sm_mono (plusT_sm s1 hs.1 ⟨by omega, by omega, by omega⟩) (by omega), ⟨by omega, by omega⟩, ih⟩
theorem tmG_pos {B C : Int} {a1 a' : T} {c1 : Int} (hc : 1 ≤ c1 ∧ c1 ≤ B) (p' : posT a') (hB : B * C ≤ 1000000000000000) : ∀ b : T, sm C b → posT b → posT (tmG a1 c1 a' b)
  | nil, _, _ => trivial
  | cons nil d m, hs, hp => by
    have ih := tmG_pos (a1 := a1) hc p' hB m hs.2.2 hp.2
    have hm := mul_in (B := B) ⟨by omega, hc.2⟩ ⟨by have := hp.1; omega, hs.2.1.2⟩
    have h1 : 1 * 1 ≤ c1 * d := Int.mul_le_mul hc.1 hp.1 (by omega) (by omega)
    have e1 : w (c1 * d) = c1 * d := wid (by omega) (by omega)
    simp only [tmG, posT_app]
    exact ⟨⟨by omega, p'⟩, ih⟩
  | cons (cons x y z) d m, hs, hp => ⟨hp.1, tmG_pos hc p' hB m hs.2.2 hp.2⟩
theorem tmG_exOk {B C D : Int} {a1 a' : T} {c1 : Int} (f1 : falls none a1 ∧ posT a1 ∧ sm B a1) (e' : exOk D a') (hB : 0 ≤ B ∧ 0 ≤ C ∧ B ≤ 1000000000 ∧ C ≤ 1000000000 ∧ B + C ≤ D) : ∀ b : T, exOk C b → exOk D (tmG a1 c1 a' b)
  | nil, _ => trivial
  | cons nil d m, hb => by
    have ih := tmG_exOk (c1 := c1) f1 e' hB m hb.2
    simp only [tmG, exOk_app]
    exact ⟨⟨⟨f1.1, f1.2.1, sm_mono f1.2.2 (by omega)⟩, e'⟩, ih⟩
  | cons (cons x y z) d m, hb => by
    have ih := tmG_exOk (c1 := c1) f1 e' hB m hb.2
    have h1 := hb.1
    refine ⟨⟨falls_plusT f1.1 h1.1, posT_plus (sm_mono f1.2.2 (by omega)) (sm_mono h1.2.2 (by omega)) f1.2.1 h1.2.1, ?_⟩, ih⟩
    exact sm_mono (plusT_sm f1.2.2 h1.2.2 ⟨by omega, by omega, by omega⟩) (by omega)
theorem falls_low {m : T} (h : falls (some nil) m) : m = nil := by
  cases m with
  | nil => rfl
  | cons e c l => exfalso; have := h.1 nil rfl; cases e <;> simp [cmpT] at this
theorem tmG_falls {a1 a' : T} {c1 : Int} (f1 : falls none a1) (s1 : sm 1000000000 a1) (fa : falls (some a1) a') : ∀ (b : T) (q : Option T), (∀ r, q = some r → posT r ∧ sm 1000000000 r) → falls q b → exOk 1000000000 b → falls (q.map (plusT a1)) (tmG a1 c1 a' b)
  | nil, _, _, _, _ => trivial
  | cons nil d m, q, hq, hf, he => by
    have hm := falls_low hf.2
    subst hm
    simp only [tmG, T.app_nil]
    refine ⟨fun r hr => ?_, fa⟩
    cases q with
    | none => cases hr
    | some q =>
      have := plusT_cmp (y := nil) f1 s1 (hq q rfl).1 trivial (hq q rfl).2 trivial
      have h0 := hf.1 q rfl
      obtain rfl : plusT a1 q = r := Option.some.inj hr
      rw [show plusT a1 nil = a1 from rfl] at this
      omega
  | cons (cons x y z) d m, q, hq, hf, he => by
    have ih := tmG_falls (c1 := c1) f1 s1 fa m (some (cons x y z)) (fun r hr => by cases hr; exact ⟨he.1.2.1, he.1.2.2⟩) hf.2 he.2
    refine ⟨fun r hr => ?_, ih⟩
    cases q with
    | none => cases hr
    | some q =>
      have := plusT_cmp (y := cons x y z) f1 s1 (hq q rfl).1 he.1.2.1 (hq q rfl).2 he.1.2.2
      have h0 := hf.1 q rfl
      obtain rfl : plusT a1 q = r := Option.some.inj hr
      omega
/-! ### impl's product -/
/-! ### the reference's product -/
/-- What is less than all ahead of it is only added at the end. -/
theorem splus_at {acc p : T} (h : acc = nil ∨ ∃ l y c, acc = app l (cons y c nil) ∧ falls (some y) p) (hp : falls none p) : splus acc p = app acc p := by
  rcases h with rfl | ⟨l, y, c, rfl, h⟩
  · rw [splus_plus (a := nil) trivial hp, plusT_nilL]; rfl
  · exact splus_end h
theorem falls_app1 {p : Option T} {l x : T} (h : falls p (app l x)) : falls p l := by
  induction l generalizing p with
  | nil => trivial
  | cons e c l _ ih => exact ⟨h.1, ih h.2⟩
theorem falls_none {p : Option T} {l : T} (h : falls p l) : falls none l := by
  cases l with
  | nil => trivial
  | cons e c l => exact ⟨fun _ h => (by cases h), h.2⟩
end Go.Proofs.Try

namespace Go.Proofs.Try
open Go Go.AX T
theorem tm_head {a1 a' : T} {c1 : Int} (f : T) (d : Int) (m : T) : ∃ d' m', tmG a1 c1 a' (cons f d m) = cons (plusT a1 f) d' m' := by
  cases f with
  | nil => exact ⟨w (c1 * d), app a' (tmG a1 c1 a' m), rfl⟩
  | cons x y z => exact ⟨d, tmG a1 c1 a' m, rfl⟩
theorem plusT_c (a f : T) (d : Int) (m : T) : plusT a (cons f d m) = goP a f d m := rfl
theorem tm_dist {a1 a' : T} {c1 : Int} (f1 : falls none a1) (s1 : sm 1000000000 a1) (fa : falls (some a1) a') (hc1 : 0 ≤ c1 ∧ c1 ≤ 1000000000) {f : T} {d : Int} {m : T} (fc : falls none (cons f d m)) (sc : sm 1000000000 (cons f d m)) (ec : exOk 1000000000 (cons f d m)) (pc : posT (cons f d m)) :
    ∀ (b : T) (p : Option T), falls p b → sm 1000000000 b → exOk 1000000000 b → posT b → tmG a1 c1 a' (goP b f d m) = plusT (tmG a1 c1 a' b) (tmG a1 c1 a' (cons f d m))
  | nil, _, _, _, _, _ => by simp only [goP]; rw [show tmG a1 c1 a' nil = nil from rfl, plusT_nilL]
  | cons e c l, p, fb, sb, eb, pb => by
    obtain ⟨d', m', hX⟩ := tm_head (a1 := a1) (a' := a') (c1 := c1) f d m
    have hcmp := plusT_cmp (y := f) f1 s1 eb.1.2.1 ec.1.2.1 eb.1.2.2 ec.1.2.2
    by_cases q : cmpT e f = 1
    · have ih := tm_dist f1 s1 fa hc1 fc sc ec pc l (some e) fb.2 sb.2.2 eb.2 pb.2
      have hne : ∃ x y z, e = cons x y z := by
        cases e with
        | nil => cases f <;> simp [cmpT] at q
        | cons x y z => exact ⟨x, y, z, rfl⟩
      obtain ⟨x, y, z, rfl⟩ := hne
      simp only [goP, if_pos q, tmG]
      rw [ih, hX, plusT_c _ (plusT a1 f) d' m', plusT_c _ (plusT a1 f) d' m']
      have hg : cmpT (plusT a1 (cons x y z)) (plusT a1 f) = 1 := by omega
      simp only [goP, if_pos hg]
    · by_cases q0 : cmpT e f = 0
      · obtain rfl := cmpT_eq.1 q0
        have hb := sb.2.1
        have hd := sc.2.1
        have p1 := pb.1
        have p2 := pc.1
        simp only [goP, if_neg q, if_pos q0]
        cases e with
        | nil =>
          obtain rfl := falls_low fb.2
          obtain rfl := falls_low fc.2
          have e1 : w (c + d) = c + d := wid (by omega) (by omega)
          have m1 := mul_in hc1 (show 0 ≤ c ∧ c ≤ 1000000000 by omega)
          have m2 := mul_in hc1 (show 0 ≤ d ∧ d ≤ 1000000000 by omega)
          simp only [tmG, T.app_nil, plusT, goP, cmpT_refl]
          rw [if_neg (by omega), if_pos trivial, e1, show w (c1 * c) = c1 * c from wid (by omega) (by omega), show w (c1 * d) = c1 * d from wid (by omega) (by omega), Int.mul_add]
        | cons x y z =>
          simp only [tmG]
          rw [show ∀ t u v s, plusT (cons (plusT a1 (cons x y z)) t u) (cons (plusT a1 (cons x y z)) v s) = goP (cons (plusT a1 (cons x y z)) t u) (plusT a1 (cons x y z)) v s from fun _ _ _ _ => rfl]
          simp only [goP, cmpT_refl]
          rw [if_neg (by omega), if_pos trivial]
      · have lt := gt_of q q0
        have e1 : goP (cons e c l) f d m = cons f d m := by simp only [goP, if_neg q, if_neg q0]; exact goP_low fb.2 lt
        rw [e1, hX]
        obtain ⟨c', l', hY⟩ := tm_head (a1 := a1) (a' := a') (c1 := c1) e c l
        have hfy := tmG_falls (c1 := c1) f1 s1 fa (cons e c l) none (fun r h => (by cases h)) ⟨fun r h => (by cases h), fb.2⟩ eb
        rw [hY] at hfy ⊢
        rw [plusT_c _ (plusT a1 f) d' m']
        have hg : cmpT (plusT a1 e) (plusT a1 f) < 0 := by omega
        simp only [goP]
        rw [if_neg (by omega), if_neg (by omega), goP_low hfy.2 hg]
theorem times_dist {a b c : T} (fa : falls none a) (pa : posT a) (sa : sm 1000000000 a) (ea : exOk 1000000000 a) (fb : falls none b) (sb : sm 1000000000 b) (eb : exOk 1000000000 b) (pb : posT b) (fc : falls none c) (sc : sm 1000000000 c) (ec : exOk 1000000000 c) (pc : posT c) : timesT a (plusT b c) = plusT (timesT a b) (timesT a c) := by
  cases a with
  | nil => rfl
  | cons a1 c1 a' =>
    cases c with
    | nil => rfl
    | cons f d m => exact tm_dist ea.1.1 ea.1.2.2 fa.2 ⟨by have := pa.1; omega, sa.2.1.2⟩ fc sc ec pc b none fb sb eb pb
theorem falls_less {l : T} : ∀ {e m x : T} {y : Int} {z : T}, falls (some e) l → lessT l m = cons x y z → 0 < cmpT e x := by
  induction l with
  | nil => intro e m x y z _ h; cases m <;> simp [lessT] at h
  | cons a c l _ ih =>
    intro e m x y z hf h
    have h1 := hf.1 e rfl
    cases m with
    | nil => rw [lessT_nil] at h; injection h with h2; rw [← h2]; exact h1
    | cons f d m =>
      simp only [lessT] at h
      split at h
      · split at h
        · have := ih hf.2 h
          have q1 : cmpT x a < 0 := by rw [cmpT_neg a x]; omega
          have q2 : cmpT a e < 0 := by rw [cmpT_neg e a]; omega
          have := cmpT_trans q1 q2
          rw [cmpT_neg x e]; omega
        · injection h with h2; rw [← h2]; exact h1
      · injection h with h2; rw [← h2]; exact h1
/-- What is left, added again. -/
theorem plus_lessX {a : T} : ∀ {b : T} {p q : Option T}, falls p a → falls q b → posT a → posT b → sm 1000000000000000 a → sm 1000000000000000 b → 0 ≤ cmpT a b → plusT b (lessT a b) = a := by
  induction a with
  | nil =>
    intro b p q _ _ _ _ _ _ h
    cases b with
    | nil => rfl
    | cons f d m => simp [cmpT] at h
  | cons e c l _ ih =>
    intro b p q fa fb pa pb sa sb h
    cases b with
    | nil => rw [lessT_nil, plusT_nilL]
    | cons f d m =>
      simp only [cmpT] at h
      simp only [lessT]
      by_cases q1 : cmpT e f = 0
      · obtain rfl := cmpT_eq.1 q1
        rw [if_pos q1] at h ⊢
        by_cases q2 : c = d
        · subst q2
          rw [cmpI_refl, if_pos rfl] at h
          rw [if_pos rfl]
          have ih := ih fa.2 fb.2 pa.2 pb.2 sa.2.2 sb.2.2 h
          obtain ⟨h1, h2, h3⟩ := less_parts (B := 1000000000000000) (by omega) fa.2 pa.2 pb.2 sa.2.2 h
          cases hx : lessT l m with
          | nil =>
            rw [hx] at ih
            show cons e c m = cons e c l
            rw [show plusT m nil = m from rfl] at ih
            rw [ih]
          | cons x y z =>
            rw [hx] at ih
            have hxe : cmpT e x = 1 := by
              have := (falls_less fa.2 hx)
              have := cmpT_range e x
              omega
            simp only [plusT] at ih ⊢
            simp only [goP, if_pos hxe]
            rw [ih]
        · rw [if_neg (fun z => q2 (cmpI_eq.1 z))] at h
          have hcd : d < c := by
            unfold cmpI at h
            split at h
            · omega
            · omega
          rw [if_neg q2]
          have b1 := sa.2.1
          have b2 := sb.2.1
          have p2 := pb.1
          have e1 : w (c - d) = c - d := wid (by omega) (by omega)
          simp only [plusT, goP, cmpT_refl]
          rw [if_neg (by omega), if_pos trivial, e1, show w (d + (c - d)) = d + (c - d) from wid (by omega) (by omega)]
          rw [show d + (c - d) = c by omega]
      · rw [if_neg q1] at h ⊢
        have hfe : cmpT f e < 0 := by rw [cmpT_neg e f]; have := cmpT_range e f; omega
        simp only [plusT]
        simp only [goP]
        rw [if_neg (by omega), if_neg (by omega), goP_low fb.2 hfe]
theorem plus_less {a b : T} {p q : Option T} (fa : falls p a) (fb : falls q b) (pa : posT a) (pb : posT b) (sa : sm 1000000000 a) (sb : sm 1000000000 b) (h : 0 ≤ cmpT a b) : plusT b (lessT a b) = a :=
  plus_lessX fa fb pa pb (sm_mono sa (by omega)) (sm_mono sb (by omega)) h
end Go.Proofs.Try

namespace Go.Proofs.Try
open Go Go.AX T
def pwT (e : T) (n : Int) : T := if n = 0 then nil else cons e n nil
theorem ipower_eq (e : T) (n : Int) : impl_power e.rows n = some (pwT e n).rows := by
  unfold impl_power pwT
  split <;> rfl
theorem sTerm_eq (e : T) (n : Int) : spec_odTerm e.rows n = some (pwT e n).rows := by
  unfold spec_odTerm pwT
  split <;> rfl
theorem ifinite_eq (n : Int) : impl_finite n = some (pwT nil n).rows := by
  unfold impl_finite pwT
  split <;> rfl
theorem sInt_eq (n : Int) : spec_odInt n = some (pwT nil n).rows := by
  unfold spec_odInt
  rw [show ([] : Rw) = nil.rows from rfl, sTerm_eq]; rfl
theorem exOk_less {B : Int} {a : T} : ∀ {b : T}, exOk B a → exOk B (lessT a b) := by
  induction a with
  | nil => intro b _; cases b <;> exact trivial
  | cons e c l _ ih =>
    intro b h
    cases b with
    | nil => rw [lessT_nil]; exact h
    | cons f d m =>
      simp only [lessT]
      split
      · split
        · exact ih h.2
        · exact h
      · exact h
/-- A right ordinal but for its nodes: terms and exponents. -/
def rt (B : Int) (Z : Nat) (n : T) : Prop := okT B Z n ∧ exOk B n
theorem ordP_rt {t : T} (h : ordP t = true) : rt 1000000 30 t := ⟨ordP_okT h, form_exOk (ordP_form h)⟩
/-- The next part of a quotient. -/
def nextT : T → T → T
  | cons s c l, cons t d m => if cmpT s t = 0 then (if 0 < cmpT (timesT (cons t d m) (pwT nil (w (c.tdiv d)))) (cons s c l) then pwT nil (w (w (c.tdiv d) - 1)) else pwT nil (w (c.tdiv d))) else pwT (lessT s t) c
  | _, _ => nil
theorem times_int {t m : T} {d k : Int} (hk : k ≠ 0) : timesT (cons t d m) (pwT nil k) = cons t (w (d * k)) m := by
  unfold pwT
  rw [if_neg hk]
  simp only [timesT, tmG, T.app_nil]
theorem times_pow {t e m : T} {d k : Int} (he : e ≠ nil) (hk : k ≠ 0) : timesT (cons t d m) (pwT e k) = cons (plusT t e) k nil := by
  unfold pwT
  rw [if_neg hk]
  cases e with
  | nil => exact absurd rfl he
  | cons x y z => simp only [timesT, tmG]
theorem cmp_gtI {c d : Int} (h : d < c) : cmpI c d = 1 := by unfold cmpI; rw [if_neg (by omega), if_pos h]
theorem cmp_ltI {c d : Int} (h : c < d) : cmpI c d = -1 := by unfold cmpI; rw [if_pos h]
theorem cmp_sameE {s l m : T} {c d : Int} : cmpT (cons s c l) (cons s d m) = if cmpI c d = 0 then cmpT l m else cmpI c d := by simp only [cmpT, cmpT_refl, if_true]
/-- One round: what is next, and what is left. -/
theorem div_round {a b : T} (ra : rt 1000000 30 a) (rb : rt 1000000 30 b) (hb : b ≠ nil) (h : 0 ≤ cmpT a b) :
    rt 1000000 31 (nextT a b) ∧ 0 ≤ cmpT a (timesT b (nextT a b)) ∧ rt 1000000 30 (lessT a (timesT b (nextT a b))) ∧ rt 1000000000000 1000 (timesT b (nextT a b)) ∧
    ((lessT a (timesT b (nextT a b))).len < a.len ∨ cmpT (lessT a (timesT b (nextT a b))) b < 0) := by
  obtain ⟨⟨fa, pa, sa, za⟩, ea⟩ := ra
  obtain ⟨⟨fb, pb, sb, zb⟩, eb⟩ := rb
  cases b with
  | nil => exact absurd rfl hb
  | cons t d m =>
    cases a with
    | nil => simp [cmpT] at h
    | cons s c l =>
      have ec := sa.2.1
      have ed := sb.2.1
      have c1 := pa.1
      have d1 := pb.1
      simp only [size] at za zb
      -- whatever is next: it is enough to know that it is right and no more than a
      have key : ∀ x : T, rt 1000000 31 x → 0 ≤ cmpT (cons s c l) (timesT (cons t d m) x) → ((lessT (cons s c l) (timesT (cons t d m) x)).len < (cons s c l).len ∨ cmpT (lessT (cons s c l) (timesT (cons t d m) x)) (cons t d m) < 0) →
          rt 1000000 31 x ∧ 0 ≤ cmpT (cons s c l) (timesT (cons t d m) x) ∧ rt 1000000 30 (lessT (cons s c l) (timesT (cons t d m) x)) ∧ rt 1000000000000 1000 (timesT (cons t d m) x) ∧
          ((lessT (cons s c l) (timesT (cons t d m) x)).len < (cons s c l).len ∨ cmpT (lessT (cons s c l) (timesT (cons t d m) x)) (cons t d m) < 0) := by
        intro x rx hx hl
        obtain ⟨⟨fx, px, sx, zx⟩, ex⟩ := rx
        have o1 : okT 1000000000000 1000 (timesT (cons t d m) x) := by
          refine ⟨?_, ?_, ?_, ?_⟩
          · exact tmG_falls (c1 := d) eb.1.1 (sm_mono eb.1.2.2 (by omega)) fb.2 x none (fun r h => by cases h) fx (exOk_mono ex (by omega))
          · exact tmG_pos (B := 1000000) (C := 1000000) ⟨d1, ed.2⟩ pb.2 (by omega) x sx px
          · exact tmG_sm (B := 1000000) (C := 1000000) (sm_mono eb.1.2.2 (by omega)) ⟨by omega, ed.2⟩ sb.2.2 (by omega) x sx px
          · have := tmG_size t d m x
            have h2 : x.size * (t.size + m.size + 2) ≤ 31 * 31 := Nat.mul_le_mul zx (by omega)
            show (tmG t d m x).size ≤ 1000
            omega
        refine ⟨⟨⟨fx, px, sx, zx⟩, ex⟩, hx, ⟨less_ok (C := 1000000000000) (Y := 1000) (by omega) ⟨fa, pa, sa, by simp only [size]; omega⟩ o1 hx, exOk_less ea⟩, ⟨o1, ?_⟩, hl⟩
        exact tmG_exOk (B := 1000000) (C := 1000000) (D := 1000000000000) ⟨eb.1.1, eb.1.2.1, eb.1.2.2⟩ (exOk_mono eb.2 (by omega)) (by omega) x ex
      by_cases q : cmpT s t = 0
      · obtain rfl := cmpT_eq.1 q
        have hint : ∀ k : Int, 1 ≤ k ∧ k ≤ 1000000 → rt 1000000 31 (pwT nil k) := by
          intro k hk
          unfold pwT
          rw [if_neg (by omega)]
          exact ⟨⟨⟨fun _ h => (by cases h), trivial⟩, ⟨hk.1, trivial⟩, ⟨trivial, by omega, trivial⟩, by simp [size]⟩, ⟨⟨trivial, trivial, trivial⟩, trivial⟩⟩
        rw [cmp_sameE] at h
        have hcd : d ≤ c := by
          rcases Int.lt_or_le c d with x | x
          · rw [cmp_ltI x] at h; simp at h
          · exact x
        have hdiv : c.tdiv d = c / d := Int.tdiv_eq_ediv_of_nonneg (by omega)
        have hk1 : 1 ≤ c / d := Int.le_ediv_of_mul_le (by omega) (by omega)
        have hk2 : c / d ≤ c := Int.ediv_le_self _ (by omega)
        have hmd := Int.mul_ediv_add_emod c d
        have hm0 := Int.emod_nonneg c (show d ≠ 0 by omega)
        have hm1 := Int.emod_lt_of_pos c (show 0 < d by omega)
        obtain ⟨k, hk⟩ : ∃ k, c / d = k := ⟨_, rfl⟩
        obtain ⟨dk, hdk⟩ : ∃ x, d * k = x := ⟨_, rfl⟩
        rw [hk] at hmd hk1 hk2
        rw [hdk] at hmd
        have wk : w (c.tdiv d) = k := by rw [hdiv, hk]; exact wid (by omega) (by omega)
        have wk1 : w (k - 1) = k - 1 := wid (by omega) (by omega)
        have wdk : w (d * k) = dk := by rw [hdk]; exact wid (by omega) (by omega)
        have hdk1 : d * (k - 1) = dk - d := by rw [Int.mul_sub, hdk]; omega
        have wdk1 : w (d * (k - 1)) = dk - d := by rw [hdk1]; exact wid (by omega) (by omega)
        simp only [nextT, if_pos q, wk, wk1]
        have ht := times_int (t := s) (m := m) (d := d) (k := k) (by omega)
        rw [wdk] at ht
        by_cases g : 0 < cmpT (timesT (cons s d m) (pwT nil k)) (cons s c l)
        · rw [if_pos g]
          rw [ht, cmp_sameE] at g
          have hdc : dk = c := by
            rcases Int.lt_or_le dk c with x | x
            · rw [cmp_ltI x] at g; simp at g
            · omega
          subst hdc
          rw [cmpI_refl, if_pos rfl] at g
          have hlm : cmpT l m < 0 := by rw [cmpT_neg m l]; omega
          have hk3 : 2 ≤ k := by
            rcases Int.lt_or_le k 2 with x | x
            · have : k = 1 := by omega
              subst this
              rw [Int.mul_one] at hdk
              subst hdk
              rw [cmpI_refl, if_pos rfl] at h
              omega
            · exact x
          have ht2 := times_int (t := s) (m := m) (d := d) (k := k - 1) (by omega)
          rw [wdk1] at ht2
          have hc2 : cmpI dk (dk - d) = 1 := cmp_gtI (by omega)
          refine key _ (hint (k - 1) (by omega)) ?_ (.inr ?_)
          · rw [ht2, cmp_sameE, hc2]; simp
          · rw [ht2]
            simp only [lessT, cmpT_refl, if_true]
            rw [if_neg (by omega), show w (dk - (dk - d)) = d from by rw [show dk - (dk - d) = d by omega]; exact wid (by omega) (by omega), cmp_sameE, cmpI_refl, if_pos rfl]
            exact hlm
        · rw [if_neg g]
          have hge : 0 ≤ cmpT (cons s c l) (timesT (cons s d m) (pwT nil k)) := by rw [cmpT_neg (timesT (cons s d m) (pwT nil k))]; omega
          refine key _ (hint k (by omega)) hge (.inr ?_)
          rw [ht] at hge ⊢
          rw [cmp_sameE] at hge
          simp only [lessT, cmpT_refl, if_true]
          by_cases x : c = dk
          · rw [if_pos x]
            cases hx : lessT l m with
            | nil => simp [cmpT]
            | cons e y z =>
              have := falls_less fa.2 hx
              have hes : cmpT e s < 0 := by rw [cmpT_neg s e]; omega
              simp only [cmpT]
              rw [if_neg (by omega)]
              exact hes
          · rw [if_neg x, cmp_sameE, show w (c - dk) = c - dk from wid (by omega) (by omega), cmp_ltI (by omega)]
            simp
      · have hst : cmpT s t = 1 := by
          simp only [cmpT] at h
          rw [if_neg q] at h
          have := cmpT_range s t
          omega
        have hps := plus_less ea.1.1 eb.1.1 ea.1.2.1 eb.1.2.1 (sm_mono ea.1.2.2 (by omega)) (sm_mono eb.1.2.2 (by omega)) (by omega : 0 ≤ cmpT s t)
        have hne : lessT s t ≠ nil := by
          intro z
          rw [z] at hps
          have : t = s := hps
          rw [this, cmpT_refl] at hst
          omega
        simp only [nextT, if_neg q]
        have ht := times_pow (t := t) (m := m) (d := d) (k := c) hne (by omega)
        rw [hps] at ht
        refine key _ ?_ ?_ (.inl ?_)
        · unfold pwT
          rw [if_neg (by omega)]
          obtain ⟨g1, g2, g3⟩ := less_parts (B := 1000000) (by omega) ea.1.1 ea.1.2.1 eb.1.2.1 ea.1.2.2 (by omega : 0 ≤ cmpT s t)
          have := lessT_size s t
          exact ⟨⟨⟨fun _ h => (by cases h), trivial⟩, ⟨c1, trivial⟩, ⟨g3, ec, trivial⟩, by simp only [size]; omega⟩, ⟨⟨g1, g2, g3⟩, trivial⟩⟩
        · rw [ht, cmp_sameE, cmpI_refl, if_pos rfl]
          cases l <;> simp [cmpT]
        · rw [ht]
          simp only [lessT, cmpT_refl, if_true, lessT_nil, len]
          omega
end Go.Proofs.Try

namespace Go.Proofs.Try
open Go Go.AX T
/-- A term put in its place among falling ones. -/
def meetT (e : T) (c : Int) : T → T
  | nil => cons e c nil
  | cons x d l => if cmpT x e = 1 then cons x d (meetT e c l) else if cmpT x e = 0 then cons e (w (c + d)) l else cons e c (cons x d l)
/-- The coefficient at an exponent. -/
def coef : T → T → Int
  | nil, _ => 0
  | cons e c l, x => (if cmpT e x = 0 then c else 0) + coef l x
theorem falls_meet {p : Option T} {t e : T} {c : Int} (h : falls p t) (hp : ∀ q, p = some q → 0 < cmpT q e) : falls p (meetT e c t) := by
  induction t generalizing p with
  | nil => exact ⟨hp, trivial⟩
  | cons x d l _ ih =>
    simp only [meetT]
    split
    · rename_i q
      exact ⟨h.1, ih h.2 fun r hr => by cases hr; omega⟩
    · split
      · rename_i q; obtain rfl := cmpT_eq.1 q; exact ⟨h.1, h.2⟩
      · rename_i q q0
        refine ⟨hp, fun r hr => ?_, h.2⟩
        cases hr
        have := cmpT_range x e
        have := cmpT_neg x e
        omega
theorem coef_meet {t e x : T} {c : Int} (hw : ∀ y d l l', t = app l (cons y d l') → w (c + d) = c + d) : coef (meetT e c t) x = coef t x + (if cmpT e x = 0 then c else 0) := by
  induction t with
  | nil => simp [meetT, coef]
  | cons y d l _ ih =>
    have hy := hw y d nil l rfl
    have ih := ih fun z g m m' hm => hw z g (cons y d m) m' (by rw [hm]; rfl)
    simp only [meetT]
    split
    · simp only [coef, ih]; omega
    · split
      · rename_i q; obtain rfl := cmpT_eq.1 q
        simp only [coef, hy]
        split <;> omega
      · simp only [coef]; omega
end Go.Proofs.Try

namespace Go.Proofs.Try
open Go Go.AX T
/-- Coefficients above nothing. -/
def pos : T → Prop
  | nil => True
  | cons _ c l => 1 ≤ c ∧ pos l
theorem form_pos {p : Option T} {t : T} (h : formA p t = true) : pos t := by
  induction t generalizing p with
  | nil => trivial
  | cons e c l _ ih =>
    simp only [formA, Bool.and_eq_true, decide_eq_true_eq] at h
    exact ⟨h.1.1.1.1, ih h.2⟩
theorem coef_above {t x : T} : ∀ {e : T}, falls (some e) t → 0 ≤ cmpT x e → coef t x = 0 := by
  induction t with
  | nil => intro e _ _; rfl
  | cons y c l _ ih =>
    intro e h hx
    have h1 := h.1 e rfl
    have h2 : 0 < cmpT x y := by
      have r := cmpT_range x e
      rcases (show cmpT x e = 0 ∨ cmpT x e = 1 by omega) with q | q
      · obtain rfl := cmpT_eq.1 q; exact h1
      · exact cmp_lt_of (b := e) (by omega) (by have := cmpT_range e y; omega)
    have h3 := cmpT_neg x y
    simp only [coef]
    rw [if_neg (by omega), ih h.2 (by omega)]; rfl
theorem coef_nonneg {t x : T} (h : pos t) : 0 ≤ coef t x := by
  induction t with
  | nil => simp [coef]
  | cons e c l _ ih =>
    have := ih h.2
    have := h.1
    simp only [coef]
    split <;> omega
theorem coef_head {e l : T} {c : Int} (h : falls (some e) l) : coef (cons e c l) e = c := by
  simp only [coef, cmpT_refl, if_true]
  rw [coef_above h (by rw [cmpT_refl]; omega)]; omega
theorem coef_top {f m x : T} {d : Int} (h : falls (some f) m) (hx : 0 < cmpT x f) : coef (cons f d m) x = 0 := by
  have := cmpT_neg f x
  simp only [coef]
  rw [if_neg (by omega), coef_above h (by omega)]; rfl
/-- The first difference decides. -/
theorem cmp_of_coef {s t x : T} : ∀ {p q : Option T}, falls p s → falls q t → pos s → pos t → coef s x < coef t x → (∀ y, 0 < cmpT y x → coef s y = coef t y) → cmpT s t < 0 := by
  induction s generalizing t with
  | nil =>
    intro p q _ _ _ _ h _
    cases t with
    | nil => simp [coef] at h
    | cons => simp [cmpT]
  | cons e c l _ ih =>
    intro p q fs ft ps pt h hy
    cases t with
    | nil => have := coef_nonneg (x := x) ps; simp only [coef] at h this; omega
    | cons f d m =>
      have he := coef_head (c := c) fs.2
      have hf := coef_head (c := d) ft.2
      have n1 := cmpT_neg e f
      simp only [cmpT]
      rcases cmpT_range e f with r | r | r
      · rw [if_neg (by omega)]; omega
      · obtain rfl := cmpT_eq.1 r
        rw [if_pos r]
        by_cases g : 0 < cmpT e x
        · have := hy e g
          rw [he, hf] at this
          subst this
          rw [cmpI_refl, if_pos rfl]
          have key : ∀ y, coef (cons e c l) y = (if cmpT e y = 0 then c else 0) + coef l y := fun y => rfl
          have key2 : ∀ y, coef (cons e c m) y = (if cmpT e y = 0 then c else 0) + coef m y := fun y => rfl
          refine ih fs.2 ft.2 ps.2 pt.2 ?_ fun y hyx => ?_
          · rw [key, key2] at h; omega
          · have := hy y hyx; rw [key, key2] at this; omega
        · by_cases g0 : cmpT e x = 0
          · obtain rfl := cmpT_eq.1 g0
            rw [he, hf] at h
            have : cmpI c d = -1 := by unfold cmpI; rw [if_pos h]
            rw [this, if_neg (by decide)]; decide
          · exfalso
            have n2 := cmpT_neg e x
            have z1 : coef (cons e d m) x = 0 := coef_top ft.2 (by have := cmpT_range e x; omega)
            have := coef_nonneg (x := x) ps
            omega
      · exfalso
        have he' := coef_head (c := c) fs.2
        have z : coef (cons f d m) e = 0 := coef_top ft.2 (by omega)
        have pc := ps.1
        by_cases g : 0 < cmpT e x
        · have := hy e g; omega
        · by_cases g0 : cmpT e x = 0
          · obtain rfl := cmpT_eq.1 g0
            omega
          · have n2 := cmpT_neg e x
            have r2 := cmpT_range e x
            have z1 : coef (cons f d m) x = 0 := coef_top ft.2 (cmp_lt_of (b := e) (by omega) (Or.inl r))
            have := coef_nonneg (x := x) ps
            omega
theorem eq_of_coef {s t : T} : ∀ {p q : Option T}, falls p s → falls q t → pos s → pos t → (∀ y, coef s y = coef t y) → s = t := by
  induction s generalizing t with
  | nil =>
    intro p q _ ft _ pt h
    cases t with
    | nil => rfl
    | cons f d m =>
      have h1 := coef_head (c := d) ft.2
      have h2 := h f
      have h3 := pt.1
      simp only [coef] at h2 h1
      omega
  | cons e c l _ ih =>
    intro p q fs ft ps pt h
    have he := coef_head (c := c) fs.2
    have pc := ps.1
    cases t with
    | nil =>
      have h2 := h e
      rw [he] at h2
      simp only [coef] at h2
      omega
    | cons f d m =>
      have hf := coef_head (c := d) ft.2
      have pd := pt.1
      rcases cmpT_range e f with r | r | r
      · have z : coef (cons e c l) f = 0 := coef_top fs.2 (by have := cmpT_neg e f; omega)
        have := h f
        omega
      · obtain rfl := cmpT_eq.1 r
        have := h e
        rw [he, hf] at this
        subst this
        have : l = m := ih fs.2 ft.2 ps.2 pt.2 fun y => by
          have := h y
          simp only [coef] at this
          omega
        rw [this]
      · have z : coef (cons f d m) e = 0 := coef_top ft.2 (by omega)
        have := h e
        omega
end Go.Proofs.Try

namespace Go.Proofs.Try
open Go Go.AX T
theorem coef_goP {a f m x : T} {d : Int} (hw : ∀ y g l l', a = app l (cons y g l') → w (g + d) = g + d) : ∀ {p : Option T}, falls p a → falls (some f) m →
    coef (goP a f d m) x = (if 0 ≤ cmpT x f then coef a x else 0) + coef (cons f d m) x := by
  induction a with
  | nil => intro p _ _; simp [goP, coef]
  | cons e c l _ ih =>
    intro p ha hm
    have hc := hw e c nil l rfl
    have ih := ih (fun y g q q' hq => hw y g (cons e c q) q' (by rw [hq]; rfl)) ha.2 hm
    have r1 := cmpT_range e f
    have r2 := cmpT_range x f
    have n1 := cmpT_neg e x
    have n2 := cmpT_neg e f
    simp only [goP]
    by_cases q : cmpT e f = 1
    · rw [if_pos q]
      have key : coef (cons e c (goP l f d m)) x = (if cmpT e x = 0 then c else 0) + coef (goP l f d m) x := rfl
      have key2 : coef (cons e c l) x = (if cmpT e x = 0 then c else 0) + coef l x := rfl
      rw [key, key2, ih]
      by_cases g : cmpT e x = 0
      · obtain rfl := cmpT_eq.1 g
        rw [if_pos (by omega), if_pos (by omega), if_pos (by omega)]; omega
      · rw [if_neg g]
        split <;> omega
    · rw [if_neg q]
      have key2 : coef (cons e c l) x = (if cmpT e x = 0 then c else 0) + coef l x := rfl
      by_cases q0 : cmpT e f = 0
      · obtain rfl := cmpT_eq.1 q0
        rw [if_pos q0, hc, key2]
        have key : ∀ g : Int, coef (cons e g m) x = (if cmpT e x = 0 then g else 0) + coef m x := fun g => rfl
        rw [key, key]
        by_cases g : 0 ≤ cmpT x e
        · have z := coef_above (x := x) ha.2 g
          rw [if_pos g, z]
          split <;> omega
        · rw [if_neg g, if_neg (by omega), if_neg (by omega)]; omega
      · rw [if_neg q0, ih, key2]
        by_cases g : 0 ≤ cmpT x f
        · have h1 : ¬ cmpT e x = 0 := by
            intro h
            obtain rfl := cmpT_eq.1 h
            omega
          rw [if_pos g, if_pos g, if_neg h1]; omega
        · rw [if_neg g, if_neg g]
end Go.Proofs.Try

namespace Go.Proofs.Try
open Go Go.AX T
def joinT : T → T → T
  | a, nil => a
  | a, cons e c l => joinT (meetT e c a) l
theorem sm_at {B : Int} {t y : T} {g : Int} {l l' : T} (h : sm B t) (e : t = app l (cons y g l')) : -B ≤ g ∧ g ≤ B := by
  rw [e, sm_app] at h; exact h.2.2.1
theorem meetT_sm {B C : Int} {t e : T} {c : Int} (h : sm B t) (he : sm C e) (hc : -C ≤ c ∧ c ≤ C) (hB : 0 ≤ B ∧ 0 ≤ C ∧ B + C ≤ 1000000000000000) : sm (B + C) (meetT e c t) := by
  induction t with
  | nil => exact ⟨sm_mono he (by omega), by omega, trivial⟩
  | cons x d l _ ih =>
    obtain ⟨h1, h2, h3⟩ := h
    simp only [meetT]
    split
    · exact ⟨sm_mono h1 (by omega), by omega, ih h3⟩
    · split
      · refine ⟨sm_mono he (by omega), ?_, sm_mono h3 (by omega)⟩
        rw [show w (c + d) = c + d from wid (by omega) (by omega)]; omega
      · exact ⟨sm_mono he (by omega), by omega, sm_mono h1 (by omega), by omega, sm_mono h3 (by omega)⟩
theorem meetT_pos {t e : T} {c : Int} (h : pos t) (hc : 1 ≤ c) (hw : ∀ y d l l', t = app l (cons y d l') → w (c + d) = c + d) : pos (meetT e c t) := by
  induction t with
  | nil => exact ⟨hc, trivial⟩
  | cons x d l _ ih =>
    have hy := hw x d nil l rfl
    have h1 := h.1
    simp only [meetT]
    split
    · exact ⟨h.1, ih h.2 fun z g m m' hm => hw z g (cons x d m) m' (by rw [hm]; rfl)⟩
    · split
      · exact ⟨by rw [hy]; omega, h.2⟩
      · exact ⟨hc, h⟩
theorem join_all {B : Int} : ∀ (b a : T) (C : Int), sm C a → sm B b → 0 ≤ B → 0 ≤ C → C + B * b.len ≤ 1000000000000000 → falls none a → pos a → pos b →
    falls none (joinT a b) ∧ pos (joinT a b) ∧ sm (C + B * b.len) (joinT a b) ∧ ∀ x, coef (joinT a b) x = coef a x + coef b x
  | nil, a, C, sa, _, _, _, _, fa, pa, _ => ⟨fa, pa, sm_mono sa (by simp [len]), fun x => by simp [joinT, coef]⟩
  | cons e c l, a, C, sa, sb, hB, hC, hs, fa, pa, pb => by
    have e1 : B * ((l.len + 1 : Nat) : Int) = B * l.len + B := by rw [Int.natCast_add, Int.mul_add]; omega
    simp only [len] at hs ⊢
    have hnn : 0 ≤ B * (l.len : Int) := Int.mul_nonneg hB (by omega)
    rw [e1] at hs ⊢
    have hcB := sb.2.1
    have hw : ∀ y d m m', a = app m (cons y d m') → w (c + d) = c + d := fun y d m m' h => by
      have := sm_at sa h
      exact wid (by omega) (by omega)
    have hm := meetT_sm (B := C) (C := B) sa sb.1 sb.2.1 (by omega)
    obtain ⟨q1, q2, q3, q4⟩ := join_all l (meetT e c a) (C + B) hm sb.2.2 hB (by omega) (by omega) (falls_meet fa fun q hq => (by cases hq)) (meetT_pos pa pb.1 hw) pb.2
    refine ⟨q1, q2, sm_mono q3 (by omega), fun x => ?_⟩
    show coef (joinT (meetT e c a) l) x = _
    rw [q4, coef_meet hw]
    simp only [coef]; omega
theorem join_comm {a b : T} {B : Int} (sa : sm B a) (sb : sm B b) (hB : 0 ≤ B) (ha : B + B * a.len ≤ 1000000000000000) (hb : B + B * b.len ≤ 1000000000000000) (fa : falls none a) (fb : falls none b) (pa : pos a) (pb : pos b) : joinT a b = joinT b a := by
  obtain ⟨q1, q2, _, q4⟩ := join_all b a B sa sb hB hB hb fa pa pb
  obtain ⟨r1, r2, _, r4⟩ := join_all a b B sb sa hB hB ha fb pb pa
  exact eq_of_coef q1 r1 q2 r2 fun y => by rw [q4, r4]; omega
end Go.Proofs.Try

namespace Go.Proofs.Try
open Go Go.AX T
theorem meetT_size (e : T) (c : Int) (t : T) : (meetT e c t).size ≤ t.size + e.size + 1 := by
  induction t with
  | nil => simp [meetT, size]
  | cons x d l _ ih =>
    simp only [meetT]
    split
    · simp only [size]; omega
    · split <;> simp only [size] <;> omega
theorem joinT_size (a b : T) : (joinT a b).size ≤ a.size + b.size := by
  induction b generalizing a with
  | nil => simp [joinT, size]
  | cons e c l _ ih =>
    have := ih (meetT e c a)
    have := meetT_size e c a
    simp only [joinT, size]; omega
/-! ### the reference -/
theorem nrows_snoc (l e : T) (c : Int) : l.rows ++ [[D.sl e.rows, D.int .i64 c]] = (app l (cons e c nil)).rows := by rw [rows_app]; rfl
theorem nsnoc_len (l e : T) (c : Int) : (app l (cons e c nil)).len = l.len + 1 := by rw [len_app]; rfl
theorem meet_done {k : Nat} {a e : T} {c : Int} {K : Rw → Bool → Option Rw} (qe : calm e) : ∀ (t acc : T), t.size < k → acc.size + t.size ≤ cap → calm t → spec_odMeet_l0 k a.rows e.rows c K t.rows true acc.rows = K (app acc t).rows true
  | nil, acc, _, _, _ => by simp only [rows, spec_odMeet_l0, cond_true, T.app_nil]
  | cons x d l, acc, hk, hc, qt => by
    simp only [size] at hk hc
    have hl := acc.len_size
    simp only [rows, spec_odMeet_l0, cond_true, cell_T]
    rw [odCmp_eq k x e qt.1 qe (by omega) (by omega), Option.bind_some, if_pos (by rw [rows_len]; omega), nrows_snoc, meet_done qe l _ (by omega) (by rw [size_app]; simp only [size]; omega) qt.2.2, app_assoc]
    rfl
theorem meet_go {k : Nat} {a e : T} {c : Int} (qe : calm e) : ∀ (t acc : T), t.size < k → acc.size + t.size + e.size + 2 ≤ cap → calm t →
    spec_odMeet_l0 k a.rows e.rows c (fun v b => cond b (spec_odMeet_p4 e.rows c v true) (spec_odMeet_p4 e.rows c v false)) t.rows false acc.rows = some (app acc (meetT e c t)).rows
  | nil, acc, hk, hc, _ => by
    have hl := acc.len_size
    simp only [rows, spec_odMeet_l0, cond_false, spec_odMeet_p4]
    rw [if_pos (by rw [rows_len]; simp only [size] at hc; omega), nrows_snoc]; rfl
  | cons x d l, acc, hk, hc, qt => by
    simp only [size] at hk hc
    have hl := acc.len_size
    have hr := cmpT_range x e
    simp only [rows, spec_odMeet_l0, cond_false, cell_T]
    rw [odCmp_eq k x e qt.1 qe (by omega) (by omega), Option.bind_some]
    by_cases q1 : cmpT x e = 1
    · rw [if_neg (by omega), if_pos (by rw [rows_len]; omega), nrows_snoc, meet_go qe l _ (by omega) (by rw [size_app]; simp only [size]; omega) qt.2.2, app_assoc]
      simp only [meetT, if_pos q1]; rfl
    · rw [if_pos (by omega)]
      by_cases q2 : cmpT x e = 0
      · rw [if_pos q2, if_pos (by rw [rows_len]; omega), nrows_snoc, meet_done qe l _ (by omega) (by rw [size_app]; simp only [size]; omega) qt.2.2, app_assoc]
        simp only [meetT, if_neg q1, if_pos q2]; rfl
      · rw [if_neg q2, if_pos (by rw [rows_len]; omega), nrows_snoc, if_pos (by rw [rows_len, nsnoc_len]; omega), nrows_snoc, meet_done qe l _ (by omega) (by rw [size_app, size_app]; simp only [size]; omega) qt.2.2, app_assoc, app_assoc]
        simp only [meetT, if_neg q1, if_neg q2]; rfl
theorem odMeet_eq {k : Nat} {a e : T} {c : Int} (hk : a.size < k) (hc : a.size + e.size + 2 ≤ cap) (qa : calm a) (qe : calm e) : spec_odMeet k a.rows e.rows c = some (meetT e c a).rows := by
  have hl := a.len_size
  unfold spec_odMeet
  rw [if_pos (by rw [rows_len]; omega)]
  have := meet_go (k := k) (a := a) (c := c) qe a nil hk (by simp only [size]; omega) qa
  exact this
/-! ### impl -/
def aboveT (e : T) : T → Prop
  | nil => True
  | cons x _ l => cmpT e x = 1 ∧ aboveT e l
theorem above_transT {e f : T} (h : cmpT e f = 1) : ∀ {r : T}, aboveT f r → aboveT e r
  | nil, _ => trivial
  | cons _ _ _, hr => ⟨gt_trans h hr.1, above_transT h hr.2⟩
theorem falls_above : ∀ {l e : T}, falls (some e) l → aboveT e l
  | nil, _, _ => trivial
  | cons x c l, e, h => by
    have h1 := h.1 e rfl
    have := cmpT_range e x
    exact ⟨by omega, above_transT (by omega) (falls_above h.2)⟩
theorem join_above {e : T} {c : Int} : ∀ (r l : T), aboveT e r → joinT (cons e c l) r = cons e c (joinT l r)
  | nil, _, _ => rfl
  | cons f d r, l, h => by
    simp only [joinT, meetT]
    rw [if_pos h.1, join_above r _ h.2]
theorem join_nil : ∀ (b : T), falls none b → joinT nil b = b
  | nil, _ => rfl
  | cons f d r, h => by
    have h2 := falls_above h.2
    simp only [joinT, meetT]
    rw [join_above r nil h2, join_nil r (falls_none h.2)]
theorem falls_dropT {t : T} : ∀ {p : Option T}, falls p t → ∀ {i : Nat}, falls none (drop t i) := by
  induction t with
  | nil => intro p _ i; simp [falls]
  | cons e c l _ ih => intro p h i; cases i with
    | zero => exact ⟨fun _ h => (by cases h), h.2⟩
    | succ i => exact ih h.2
theorem sm_dropT {B : Int} {t : T} (h : sm B t) : ∀ {i : Nat}, sm B (drop t i) := by
  induction t with
  | nil => intro i; simp [sm]
  | cons e c l _ ih => intro i; cases i with
    | zero => simpa using h
    | succ i => exact ih h.2.2
theorem nat_loop {k : Nat} {a b : T} {B C : Int} (sa : sm C a) (sb : sm B b) (hB : 0 ≤ B ∧ B ≤ 1000000000000000) (hC : 0 ≤ C ∧ C ≤ 1000000000000000) (fb : falls none b) (hk : a.size + b.size + 3 < k) (hc : a.size + b.size + 2 ≤ cap) : ∀ (n i j : Nat) (acc : T), i ≤ a.len → j ≤ b.len → (a.len - i) + (b.len - j) + 1 ≤ n → acc.len ≤ i + j →
    impl_naturalSum_l0 k a.rows b.rows (fun v => impl_naturalSum_p4 v) n i acc.rows j = some (app acc (joinT (drop a i) (drop b j))).rows
  | 0, _, _, _, _, _, h, _ => absurd h (by omega)
  | n + 1, i, j, acc, hi, hj, hn, hacc => by
    have hla := a.len_size
    have hlb := b.len_size
    have h3 : cap = 1099511627776 := rfl
    have f2 := falls_dropT fb (i := j)
    have s1 := sm_dropT sa (i := i)
    have s2 := sm_dropT sb (i := j)
    simp only [impl_naturalSum_l0]
    cases hda : drop a i with
    | nil =>
      have h1 := drop_ge hda
      rw [if_neg (by rw [lenI]; omega)]
      cases hdb : drop b j with
      | nil =>
        have h2 := drop_ge hdb
        rw [if_neg (by rw [lenI]; omega)]
        simp only [joinT, T.app_nil]; rfl
      | cons f d r =>
        have h2 := drop_lt hdb
        rw [hdb] at f2 s2
        have hd := s2.2.1
        rw [if_pos (by rw [lenI]; omega), if_neg (by rw [lenI]; omega), if_pos (by rw [lenI]; omega), row_T rfl hdb, if_pos (by rw [rows_len]; omega), wid (n := 0 + d) (by omega) (by omega), show (0 : Int) + d = d by omega, nrows_snoc, wid (n := (j : Int) + 1) (by omega) (by omega)]
        have := nat_loop sa sb hB hC fb hk hc n i (j + 1) (app acc (cons f d nil)) hi (by omega) (by omega) (by rw [nsnoc_len]; omega)
        rw [drop_succ hdb, hda] at this
        refine this.trans ?_
        rw [join_nil _ (falls_none f2.2), join_nil _ f2]
        simp only [app_assoc]; rfl
    | cons e c l =>
      have h1 := drop_lt hda
      have hsa := drop_cons_size hda
      rw [hda] at s1
      have hcc := s1.2.1
      rw [if_pos (by rw [lenI]; omega)]
      cases hdb : drop b j with
      | nil =>
        have h2 := drop_ge hdb
        rw [if_pos (by rw [lenI]; omega), row_T rfl hda, if_pos (by rw [rows_len]; omega), nrows_snoc, wid (n := (i : Int) + 1) (by omega) (by omega)]
        have := nat_loop sa sb hB hC fb hk hc n (i + 1) j (app acc (cons e c nil)) (by omega) hj (by omega) (by rw [nsnoc_len]; omega)
        rw [drop_succ hda, hdb] at this
        refine this.trans ?_
        simp only [joinT, app_assoc]; rfl
      | cons f d r =>
        have h2 := drop_lt hdb
        rw [hdb] at f2 s2
        have hd := s2.2.1
        have hr := cmpT_range e f
        have r1 := row_T (α := Rw) (i := i) rfl hda
        have r2 := row_T (α := Rw) (i := j) rfl hdb
        rw [if_neg (by rw [lenI]; omega), if_neg (by rw [lenI]; omega)]
        simp only [r1, r2]
        rw [impl_cmp_eq k e f (by omega) (by omega), Option.bind_some]
        by_cases q1 : cmpT e f = 1
        · rw [if_pos (by omega), if_neg (by omega), if_pos (by rw [rows_len]; omega), nrows_snoc, wid (n := (i : Int) + 1) (by omega) (by omega)]
          have := nat_loop sa sb hB hC fb hk hc n (i + 1) j (app acc (cons e c nil)) (by omega) hj (by omega) (by rw [nsnoc_len]; omega)
          rw [drop_succ hda, hdb] at this
          refine this.trans ?_
          rw [join_above (cons f d r) l ⟨q1, above_transT q1 (falls_above f2.2)⟩]
          simp only [app_assoc]; rfl
        · by_cases q2 : cmpT e f = 0
          · rw [if_pos (by omega), if_pos (by omega), if_pos (by rw [rows_len]; omega), nrows_snoc, wid (n := (i : Int) + 1) (by omega) (by omega), wid (n := (j : Int) + 1) (by omega) (by omega)]
            have := nat_loop sa sb hB hC fb hk hc n (i + 1) (j + 1) (app acc (cons f (IntKind.i64.wrap (c + d)) nil)) (by omega) (by omega) (by omega) (by rw [nsnoc_len]; omega)
            rw [drop_succ hda, drop_succ hdb] at this
            refine this.trans ?_
            simp only [joinT, meetT]
            rw [if_neg q1, if_pos q2, join_above r l (falls_above f2.2), Int.add_comm d c]
            simp only [app_assoc]; rfl
          · rw [if_neg (by omega), if_pos (by omega), if_pos (by rw [rows_len]; omega), wid (n := 0 + d) (by omega) (by omega), show (0 : Int) + d = d by omega, nrows_snoc, wid (n := (j : Int) + 1) (by omega) (by omega)]
            have := nat_loop sa sb hB hC fb hk hc n i (j + 1) (app acc (cons f d nil)) hi (by omega) (by omega) (by rw [nsnoc_len]; omega)
            rw [drop_succ hdb, hda] at this
            refine this.trans ?_
            simp only [joinT, meetT]
            rw [if_neg q1, if_neg q2, join_above r _ (falls_above f2.2)]
            simp only [app_assoc]; rfl
theorem natural_eq {k : Nat} {a b : T} {B C : Int} (sa : sm C a) (sb : sm B b) (hB : 0 ≤ B ∧ B ≤ 1000000000000000) (hC : 0 ≤ C ∧ C ≤ 1000000000000000) (fb : falls none b) (hk : a.size + b.size + 3 < k) (hc : a.size + b.size + 2 ≤ cap) : impl_naturalSum k a.rows b.rows = some (joinT a b).rows := by
  have hla := a.len_size
  have hlb := b.len_size
  unfold impl_naturalSum
  have := nat_loop sa sb hB hC fb hk hc k 0 0 nil (by omega) (by omega) (by omega) (by simp [len])
  rw [drop_zero, drop_zero] at this
  exact this
end Go.Proofs.Try

namespace Go.Proofs.Try
open Go Go.AX T
def natT (a b : T) : T × Bool := if ordP a && ordP b then toldT (joinT a b) else (nil, false)
/-- A term times all terms, put in their places. -/
def rowX (e : T) (c : Int) : T → T → T
  | acc, nil => acc
  | acc, cons f d r => rowX e c (meetT (joinT e f) (w (c * d)) acc) r
def crossG (b : T) : T → T → T
  | acc, nil => acc
  | acc, cons e c l => crossG b (rowX e c acc b) l
def crossT (a b : T) : T := crossG b nil a
/-- Terms and exponents that are right and small. -/
def rtL : T → Prop
  | nil => True
  | cons e c l => (falls none e ∧ pos e ∧ sm 1000000 e ∧ e.size ≤ 30) ∧ (1 ≤ c ∧ c ≤ 1000000) ∧ rtL l
theorem form_rtL {p : Option T} {t : T} (h : formA p t = true) (hz : t.size ≤ 30) : rtL t := by
  induction t generalizing p with
  | nil => trivial
  | cons e c l _ ih =>
    simp only [size] at hz
    simp only [formA, Bool.and_eq_true, decide_eq_true_eq] at h
    exact ⟨⟨form_falls h.1.1.2, form_pos h.1.1.2, form_sm h.1.1.2, by omega⟩, h.1.1.1, ih h.2 (by omega)⟩
theorem join_exp {e f : T} (he : falls none e ∧ pos e ∧ sm 1000000 e ∧ e.size ≤ 30) (hf : falls none f ∧ pos f ∧ sm 1000000 f ∧ f.size ≤ 30) : falls none (joinT e f) ∧ pos (joinT e f) ∧ sm 1000000000000 (joinT e f) ∧ (joinT e f).size ≤ 60 := by
  have hl := f.len_size
  obtain ⟨q1, q2, q3, _⟩ := join_all f e 1000000 he.2.2.1 hf.2.2.1 (by omega) (by omega) (by omega) he.1 he.2.1 hf.2.1
  have := joinT_size e f
  exact ⟨q1, q2, sm_mono q3 (by omega), by omega⟩
theorem cd_in {c d : Int} (hc : 1 ≤ c ∧ c ≤ 1000000) (hd : 1 ≤ d ∧ d ≤ 1000000) : w (c * d) = c * d ∧ 1 ≤ c * d ∧ c * d ≤ 1000000000000 := by
  have h1 := mul_in (B := 1000000) (C := 1000000) (show 0 ≤ c ∧ c ≤ 1000000 by omega) (show 0 ≤ d ∧ d ≤ 1000000 by omega)
  have h2 : 1 * 1 ≤ c * d := Int.mul_le_mul hc.1 hd.1 (by omega) (by omega)
  exact ⟨wid (by omega) (by omega), by omega, by omega⟩
theorem rowX_all {e : T} {c : Int} (he : falls none e ∧ pos e ∧ sm 1000000 e ∧ e.size ≤ 30) (hc : 1 ≤ c ∧ c ≤ 1000000) : ∀ (t acc : T) (A : Int), rtL t → falls none acc → pos acc → sm A acc → 0 ≤ A → A + 1000000000000 * t.len ≤ 990000000000000 →
    falls none (rowX e c acc t) ∧ pos (rowX e c acc t) ∧ sm (A + 1000000000000 * t.len) (rowX e c acc t) ∧ (rowX e c acc t).size ≤ acc.size + 61 * t.len
  | nil, acc, A, _, fa, pa, sa, _, _ => ⟨fa, pa, sm_mono sa (by simp [len]), by simp [rowX, len]⟩
  | cons f d r, acc, A, ht, fa, pa, sa, h0, hA => by
    simp only [len] at hA
    obtain ⟨j1, j2, j3, j4⟩ := join_exp he ht.1
    obtain ⟨w1, w2, w3⟩ := cd_in hc ht.2.1
    have hm := meetT_size (joinT e f) (w (c * d)) acc
    have hw : ∀ y g l l', acc = app l (cons y g l') → w (w (c * d) + g) = w (c * d) + g := fun y g l l' hq => by
      have := sm_at sa hq
      exact wid (by omega) (by omega)
    obtain ⟨q1, q2, q3, q4⟩ := rowX_all he hc r (meetT (joinT e f) (w (c * d)) acc) (A + 1000000000000) ht.2.2 (falls_meet fa fun q hq => by cases hq) (meetT_pos pa (by omega) hw) (meetT_sm sa j3 (by omega) (by omega)) (by omega) (by omega)
    simp only [rowX, len]
    exact ⟨q1, q2, sm_mono q3 (by omega), by omega⟩
def natP (a b : T) : T × Bool := if ordP a && ordP b then toldT (crossT a b) else (nil, false)
theorem cross_ok {a b : T} (ha : ordP a = true) (hb : ordP b = true) : falls none (crossT a b) ∧ pos (crossT a b) ∧ sm 950000000000000 (crossT a b) ∧ (crossT a b).size ≤ 90000 := by
  have za := ordP_size ha
  have zb := ordP_size hb
  have la := a.len_size
  have lb := b.len_size
  have key : ∀ (t acc : T) (A : Int), rtL t → falls none acc → pos acc → sm A acc → 0 ≤ A → A + 30000000000000 * t.len ≤ 950000000000000 → acc.size + 1830 * t.len ≤ 90000 → falls none (crossG b acc t) ∧ pos (crossG b acc t) ∧ sm 950000000000000 (crossG b acc t) ∧ (crossG b acc t).size ≤ 90000 := by
    intro t
    induction t with
    | nil => intro acc A _ fa pa sa _ hA hz; exact ⟨fa, pa, sm_mono sa (by simp only [len] at hA; omega), by simp only [len] at hz; exact hz⟩
    | cons e c l _ ih =>
      intro acc A ht fa pa sa h0 hA hz
      simp only [len] at hA hz
      obtain ⟨q1, q2, q3, q4⟩ := rowX_all ht.1 ht.2.1 b acc A (form_rtL (ordP_form hb) zb) fa pa sa h0 (by omega)
      exact ih (rowX e c acc b) (A + 30000000000000) ht.2.2 q1 q2 (sm_mono q3 (by omega)) (by omega) (by omega) (by omega)
  exact key a nil 0 (form_rtL (ordP_form ha) za) trivial trivial trivial (by omega) (by omega) (by simp only [size]; omega)
end Go.Proofs.Try

namespace Go.Proofs.Try
open Go Go.AX T
/-- The coefficients of a row of products. -/
def rs (e : T) (c : Int) : T → T → Int
  | nil, _ => 0
  | cons f d r, y => (if cmpT (joinT e f) y = 0 then c * d else 0) + rs e c r y
def cs (b : T) : T → T → Int
  | nil, _ => 0
  | cons e c l, y => rs e c b y + cs b l y
theorem rowX_coef {e : T} {c : Int} (he : falls none e ∧ pos e ∧ sm 1000000 e ∧ e.size ≤ 30) (hc : 1 ≤ c ∧ c ≤ 1000000) : ∀ (t acc : T) (A : Int), rtL t → sm A acc → 0 ≤ A → A + 1000000000000 * t.len ≤ 990000000000000 → ∀ y, coef (rowX e c acc t) y = coef acc y + rs e c t y
  | nil, acc, A, _, _, _, _, y => by simp [rowX, rs]
  | cons f d r, acc, A, ht, sa, h0, hA, y => by
    simp only [len] at hA
    obtain ⟨j1, j2, j3, j4⟩ := join_exp he ht.1
    obtain ⟨w1, w2, w3⟩ := cd_in hc ht.2.1
    have hw : ∀ y g l l', acc = app l (cons y g l') → w (w (c * d) + g) = w (c * d) + g := fun y g l l' hq => by
      have := sm_at sa hq
      exact wid (by omega) (by omega)
    have := rowX_coef he hc r (meetT (joinT e f) (w (c * d)) acc) (A + 1000000000000) ht.2.2 (meetT_sm sa j3 (by omega) (by omega)) (by omega) (by omega) y
    simp only [rowX, rs]
    rw [this, coef_meet hw, w1]; omega
theorem crossG_coef {b : T} (hb : rtL b) (zb : b.len ≤ 30) : ∀ (t acc : T) (A : Int), rtL t → falls none acc → pos acc → sm A acc → 0 ≤ A → A + 30000000000000 * t.len ≤ 950000000000000 → ∀ y, coef (crossG b acc t) y = coef acc y + cs b t y
  | nil, acc, A, _, _, _, _, _, _, y => by simp [crossG, cs]
  | cons e c l, acc, A, ht, fa, pa, sa, h0, hA, y => by
    simp only [len] at hA
    obtain ⟨q1, q2, q3, _⟩ := rowX_all ht.1 ht.2.1 b acc A hb fa pa sa h0 (by omega)
    have h1 := crossG_coef hb zb l (rowX e c acc b) (A + 30000000000000) ht.2.2 q1 q2 (sm_mono q3 (by omega)) (by omega) (by omega) y
    have h2 := rowX_coef ht.1 ht.2.1 b acc A hb sa h0 (by omega) y
    simp only [crossG, cs]
    rw [h1, h2]; omega
theorem rtL_comm {e f : T} (he : falls none e ∧ pos e ∧ sm 1000000 e ∧ e.size ≤ 30) (hf : falls none f ∧ pos f ∧ sm 1000000 f ∧ f.size ≤ 30) : joinT e f = joinT f e := by
  have h1 := e.len_size
  have h2 := f.len_size
  exact join_comm (B := 1000000) he.2.2.1 hf.2.2.1 (by omega) (by omega) (by omega) he.1 hf.1 he.2.1 hf.2.1
theorem cs_split {e : T} {c : Int} (he : falls none e ∧ pos e ∧ sm 1000000 e ∧ e.size ≤ 30) (l : T) (y : T) : ∀ b : T, rtL b → cs (cons e c l) b y = rs e c b y + cs l b y
  | nil, _ => rfl
  | cons f d r, hb => by
    have ih := cs_split (c := c) he l y r hb.2.2
    simp only [cs, rs, ih, rtL_comm he hb.1, Int.mul_comm c d]
    omega
theorem cs_nil (y : T) : ∀ b : T, cs nil b y = 0
  | nil => rfl
  | cons f d r => by simp only [cs, rs, cs_nil y r]; rfl
theorem cs_comm (y : T) {b : T} (hb : rtL b) : ∀ a : T, rtL a → cs b a y = cs a b y
  | nil, _ => by rw [cs_nil]; rfl
  | cons e c l, ha => by
    rw [cs_split ha.1 l y b hb, ← cs_comm y hb l ha.2.2]; rfl
theorem cross_comm {a b : T} (ha : ordP a = true) (hb : ordP b = true) : crossT a b = crossT b a := by
  have za := ordP_size ha
  have zb := ordP_size hb
  have la := a.len_size
  have lb := b.len_size
  have ra := form_rtL (ordP_form ha) za
  have rb := form_rtL (ordP_form hb) zb
  obtain ⟨p1, p2, _, _⟩ := cross_ok ha hb
  obtain ⟨q1, q2, _, _⟩ := cross_ok hb ha
  refine eq_of_coef p1 q1 p2 q2 fun y => ?_
  unfold crossT
  rw [crossG_coef rb (by omega) a nil 0 ra trivial trivial trivial (by omega) (by omega) y, crossG_coef ra (by omega) b nil 0 rb trivial trivial trivial (by omega) (by omega) y, cs_comm y rb a ra]
/-! ### no less -/
theorem le_trans3 {a b c : T} (h1 : cmpT a b ≤ 0) (h2 : cmpT b c ≤ 0) : cmpT a c ≤ 0 := by
  have r1 := cmpT_range a b
  have r2 := cmpT_range b c
  by_cases q : cmpT a b = 0
  · obtain rfl := cmpT_eq.1 q; exact h2
  · by_cases q2 : cmpT b c = 0
    · obtain rfl := cmpT_eq.1 q2; exact h1
    · have := cmpT_trans (a := a) (b := b) (c := c) (by omega) (by omega); omega
/-- Where two differ first. -/
theorem diff_at {s : T} : ∀ {t : T} {p q : Option T}, falls p s → falls q t → pos s → pos t → cmpT s t < 0 → ∃ x, coef s x < coef t x ∧ ∀ y, 0 < cmpT y x → coef s y = coef t y := by
  induction s with
  | nil =>
    intro t p q _ ft _ pt h
    cases t with
    | nil => simp [cmpT] at h
    | cons f d m =>
      refine ⟨f, ?_, fun y hy => ?_⟩
      · rw [coef_head ft.2]; have := pt.1; simp only [coef]; omega
      · rw [coef_top ft.2 hy]; rfl
  | cons e c l _ ih =>
    intro t p q fs ft ps pt h
    cases t with
    | nil => simp [cmpT] at h
    | cons f d m =>
      simp only [cmpT] at h
      by_cases q0 : cmpT e f = 0
      · obtain rfl := cmpT_eq.1 q0
        rw [if_pos q0] at h
        by_cases q1 : cmpI c d = 0
        · rw [if_pos q1] at h
          obtain rfl := cmpI_eq.1 q1
          obtain ⟨x, h1, h2⟩ := ih fs.2 ft.2 ps.2 pt.2 h
          refine ⟨x, by simp only [coef]; omega, fun y hy => by have := h2 y hy; simp only [coef]; omega⟩
        · rw [if_neg q1] at h
          have hcd : c < d := by
            unfold cmpI at h
            split at h
            · assumption
            · split at h <;> omega
          refine ⟨e, by rw [coef_head fs.2, coef_head ft.2]; exact hcd, fun y hy => by rw [coef_top fs.2 hy, coef_top ft.2 hy]⟩
      · rw [if_neg q0] at h
        have hfe : 0 < cmpT f e := by rw [cmpT_neg e f]; omega
        refine ⟨f, ?_, fun y hy => ?_⟩
        · rw [coef_head ft.2, coef_top fs.2 hfe]; have := pt.1; omega
        · rw [coef_top ft.2 hy]
          refine coef_top fs.2 ?_
          have h1 : cmpT f y < 0 := by rw [cmpT_neg y f]; omega
          have := cmpT_trans h h1
          rw [cmpT_neg e y]; omega
/-- Falling terms above nothing, within a bound. -/
def gd (B : Int) (t : T) : Prop := falls none t ∧ pos t ∧ sm B t
theorem gd_meet {B C : Int} {t e : T} {c : Int} (h : gd B t) (he : sm C e) (hc : 1 ≤ c ∧ c ≤ C) (hB : 0 ≤ B ∧ 0 ≤ C ∧ B + C ≤ 1000000000000000) : gd (B + C) (meetT e c t) ∧ ∀ y, coef (meetT e c t) y = coef t y + (if cmpT e y = 0 then c else 0) := by
  have hw : ∀ y g l l', t = app l (cons y g l') → w (c + g) = c + g := fun y g l l' hq => by
    have := sm_at h.2.2 hq
    exact wid (by omega) (by omega)
  exact ⟨⟨falls_meet h.1 (fun q hq => by cases hq), meetT_pos h.2.1 hc.1 hw, meetT_sm h.2.2 he (by omega) hB⟩, fun y => coef_meet hw⟩
/-- The same term put into no less. -/
theorem meet_mono {B B' C C' : Int} {s t e f : T} {c d : Int} (hs : gd B s) (ht : gd B' t) (he : sm C e) (hf : sm C' f) (hc : 1 ≤ c ∧ c ≤ C) (hd : 1 ≤ d ∧ d ≤ C') (hB : 0 ≤ B ∧ 0 ≤ C ∧ B + C ≤ 1000000000000000) (hB' : 0 ≤ B' ∧ 0 ≤ C' ∧ B' + C' ≤ 1000000000000000) (h : cmpT s t ≤ 0) (hef : cmpT e f < 0 ∨ e = f ∧ c ≤ d) : cmpT (meetT e c s) (meetT f d t) ≤ 0 := by
  obtain ⟨⟨a1, a2, a3⟩, k1⟩ := gd_meet hs he hc hB
  obtain ⟨⟨b1, b2, b3⟩, k2⟩ := gd_meet ht hf hd hB'
  have hr := cmpT_range s t
  -- first the same place
  have key : ∀ x, coef s x < coef t x ∨ s = t → (∀ y, 0 < cmpT y x → coef s y = coef t y) → cmpT (meetT e c s) (meetT f d t) ≤ 0 := by
    intro x hx hy
    rcases hef with hlt | ⟨rfl, hcd⟩
    · -- e < f: look at the greater of f and x
      by_cases hxf : 0 < cmpT x f
      · by_cases hst : s = t
        · subst hst
          refine Int.le_of_lt (cmp_of_coef (x := f) a1 b1 a2 b2 ?_ fun y h1 => ?_)
          · rw [k1, k2, if_neg (by omega), cmpT_refl, if_pos rfl]; omega
          · have h2 : ¬ cmpT f y = 0 := fun q => by rw [cmpT_eq.1 q, cmpT_refl] at h1; omega
            have h3 : ¬ cmpT e y = 0 := fun q => by rw [← cmpT_eq.1 q] at h1; omega
            rw [k1, k2, if_neg h2, if_neg h3]
        · have hx := hx.resolve_right hst
          refine Int.le_of_lt (cmp_of_coef (x := x) a1 b1 a2 b2 ?_ fun y h1 => ?_)
          · have h2 : ¬ cmpT f x = 0 := fun q => by rw [cmpT_eq.1 q, cmpT_refl] at hxf; omega
            have h3 : ¬ cmpT e x = 0 := fun q => by rw [← cmpT_eq.1 q] at hxf; omega
            rw [k1, k2, if_neg h2, if_neg h3]; omega
          · have hyf : 0 < cmpT y f := by
              have z1 : cmpT f x < 0 := by rw [cmpT_neg x f]; omega
              have z2 : cmpT x y < 0 := by rw [cmpT_neg y x]; omega
              have := cmpT_trans z1 z2
              rw [cmpT_neg f y]; omega
            have h2 : ¬ cmpT f y = 0 := fun q => by rw [cmpT_eq.1 q, cmpT_refl] at hyf; omega
            have h3 : ¬ cmpT e y = 0 := fun q => by rw [← cmpT_eq.1 q] at hyf; omega
            rw [k1, k2, if_neg h2, if_neg h3, hy y h1]
      · refine Int.le_of_lt (cmp_of_coef (x := f) a1 b1 a2 b2 ?_ fun y h1 => ?_)
        · have hge : coef s f ≤ coef t f := by
            by_cases q : cmpT x f = 0
            · obtain rfl := cmpT_eq.1 q
              rcases hx with hx | rfl
              · omega
              · exact Int.le_refl _
            · have : 0 < cmpT f x := by rw [cmpT_neg x f]; have := cmpT_range x f; omega
              rw [hy f this]; exact Int.le_refl _
          rw [k1, k2, if_neg (by omega), cmpT_refl, if_pos rfl]; omega
        · have h2 : ¬ cmpT f y = 0 := fun q => by rw [cmpT_eq.1 q, cmpT_refl] at h1; omega
          have h3 : ¬ cmpT e y = 0 := fun q => by rw [← cmpT_eq.1 q] at h1; omega
          have hyx : 0 < cmpT y x := by
            by_cases q : cmpT x f = 0
            · obtain rfl := cmpT_eq.1 q; exact h1
            · have z1 : cmpT x f < 0 := by have := cmpT_range x f; omega
              have z2 : cmpT f y < 0 := by rw [cmpT_neg y f]; omega
              have := cmpT_trans z1 z2
              rw [cmpT_neg x y]; omega
          rw [k1, k2, if_neg h2, if_neg h3, hy y hyx]
    · -- the same exponent
      by_cases hst : s = t
      · subst hst
        by_cases hcd2 : c = d
        · subst hcd2; rw [cmpT_refl]; exact Int.le_refl _
        · refine Int.le_of_lt (cmp_of_coef (x := e) a1 b1 a2 b2 ?_ fun y h1 => ?_)
          · rw [k1, k2, cmpT_refl, if_pos rfl, if_pos rfl]; omega
          · have h2 : ¬ cmpT e y = 0 := fun q => by rw [cmpT_eq.1 q, cmpT_refl] at h1; omega
            rw [k1, k2, if_neg h2, if_neg h2]
      · have hx := hx.resolve_right hst
        by_cases hex : 0 < cmpT e x
        · by_cases hcd2 : c = d
          · subst hcd2
            refine Int.le_of_lt (cmp_of_coef (x := x) a1 b1 a2 b2 ?_ fun y h1 => ?_)
            · rw [k1, k2]; omega
            · rw [k1, k2, hy y h1]
          · refine Int.le_of_lt (cmp_of_coef (x := e) a1 b1 a2 b2 ?_ fun y h1 => ?_)
            · rw [k1, k2, cmpT_refl, if_pos rfl, if_pos rfl, hy e hex]; omega
            · have hyx : 0 < cmpT y x := by
                have z1 : cmpT x e < 0 := by rw [cmpT_neg e x]; omega
                have z2 : cmpT e y < 0 := by rw [cmpT_neg y e]; omega
                have := cmpT_trans z1 z2
                rw [cmpT_neg x y]; omega
              have h2 : ¬ cmpT e y = 0 := fun q => by rw [cmpT_eq.1 q, cmpT_refl] at h1; omega
              rw [k1, k2, if_neg h2, if_neg h2, hy y hyx]
        · refine Int.le_of_lt (cmp_of_coef (x := x) a1 b1 a2 b2 ?_ fun y h1 => ?_)
          · rw [k1, k2]; split <;> omega
          · have h2 : ¬ cmpT e y = 0 := fun q => by rw [cmpT_eq.1 q] at hex; omega
            rw [k1, k2, if_neg h2, if_neg h2, hy y h1]
  by_cases q : cmpT s t = 0
  · exact key nil (.inr (cmpT_eq.1 q)) fun y _ => by rw [cmpT_eq.1 q]
  · obtain ⟨x, h1, h2⟩ := diff_at hs.1 ht.1 hs.2.1 ht.2.1 (by omega)
    exact key x (.inl h1) h2
end Go.Proofs.Try

namespace Go.Proofs.Try
open Go Go.AX T
theorem le_of_coef {s t : T} {p q : Option T} (fs : falls p s) (ft : falls q t) (ps : pos s) (pt : pos t) (h : ∀ y, coef s y ≤ coef t y) : cmpT s t ≤ 0 := by
  have hr := cmpT_range s t
  have hn := cmpT_neg s t
  rcases hr with hr | hr | hr
  · omega
  · omega
  · obtain ⟨x, h1, _⟩ := diff_at ft fs pt ps (by omega)
    have := h x; omega
theorem join_gd {A B : Int} {a b : T} (ha : gd A a) (hb : falls none b ∧ pos b ∧ sm B b) (hB : 0 ≤ B) (hA : 0 ≤ A) (hs : A + B * b.len ≤ 1000000000000000) : gd (A + B * b.len) (joinT a b) ∧ ∀ y, coef (joinT a b) y = coef a y + coef b y := by
  obtain ⟨q1, q2, q3, q4⟩ := join_all b a A ha.2.2 hb.2.2 hB hA hs ha.1 ha.2.1 hb.2.1
  exact ⟨⟨q1, q2, q3⟩, q4⟩
theorem pos_posT {t : T} : pos t ↔ posT t := by
  induction t with
  | nil => exact Iff.rfl
  | cons e c l _ ih => exact and_congr Iff.rfl ih
/-- A sum is no more than the natural one. -/
theorem plus_le_join {A B : Int} {f : T} {d : Int} {m : T} (hP : falls none (cons f d m) ∧ pos (cons f d m) ∧ sm B (cons f d m)) (hB : 0 ≤ B) (hA : 0 ≤ A) : ∀ (X : T) (p : Option T), falls p X → pos X → sm A X → A + B * (m.len + 1 : Nat) ≤ 1000000000000000 → cmpT (goP X f d m) (joinT X (cons f d m)) ≤ 0
  | nil, _, _, _, _, _ => by
    rw [join_nil _ hP.1, show goP nil f d m = cons f d m from rfl, cmpT_refl]; exact Int.le_refl _
  | cons e c l, p, fX, pX, sX, hs => by
    have e0 : B * ((m.len + 1 : Nat) : Int) = B * m.len + B := by rw [Int.natCast_add, Int.mul_add]; omega
    rw [e0] at hs
    have hnn : 0 ≤ B * (m.len : Int) := Int.mul_nonneg hB (by omega)
    have hm : falls none m ∧ pos m ∧ sm B m := ⟨falls_none hP.1.2, hP.2.1.2, hP.2.2.2.2⟩
    have hab := falls_above hP.1.2
    have right : ∀ z : T, gd A z → cmpT m (joinT z m) ≤ 0 := by
      intro z hz
      obtain ⟨⟨g1, g2, _⟩, g4⟩ := join_gd hz hm hB hA (by omega)
      exact le_of_coef hm.1 g1 hm.2.1 g2 fun y => by rw [g4]; have := coef_nonneg (x := y) hz.2.1; omega
    by_cases q : cmpT e f = 1
    · have ih := plus_le_join hP hB hA l (some e) fX.2 pX.2 sX.2.2 (by rw [e0]; omega)
      rw [join_above (cons f d m) l ⟨q, above_transT q hab⟩]
      simp only [goP, if_pos q]
      rw [cmpT_cons_eq]; exact ih
    · by_cases q0 : cmpT e f = 0
      · obtain rfl := cmpT_eq.1 q0
        have hgl : gd A l := ⟨falls_none fX.2, pX.2, sX.2.2⟩
        simp only [joinT, meetT, goP, if_neg q, if_pos q0]
        rw [join_above m l hab, Int.add_comm d c, cmpT_cons_eq]
        exact right l hgl
      · have lt := gt_of q q0
        have hga : gd A (cons e c l) := ⟨falls_none fX, pX, sX⟩
        have e1 : goP (cons e c l) f d m = cons f d m := by simp only [goP, if_neg q, if_neg q0]; exact goP_low fX.2 lt
        rw [e1]
        simp only [joinT, meetT, if_neg q, if_neg q0]
        rw [join_above m _ hab, cmpT_cons_eq]
        exact right _ hga
theorem plus_le {e f : T} (he : falls none e ∧ pos e ∧ sm 1000000 e ∧ e.size ≤ 30) (hf : falls none f ∧ pos f ∧ sm 1000000 f ∧ f.size ≤ 30) : cmpT (plusT e f) (joinT e f) ≤ 0 := by
  cases f with
  | nil => show cmpT e e ≤ 0; rw [cmpT_refl]; exact Int.le_refl _
  | cons g h n =>
    have := n.len_size
    have hz := hf.2.2.2
    simp only [size] at hz
    exact plus_le_join (B := 1000000) (A := 1000000) ⟨hf.1, hf.2.1, hf.2.2.1⟩ (by omega) (by omega) e none he.1 he.2.1 he.2.2.1 (by omega)
theorem rs_nonneg {e : T} {c : Int} (hc : 1 ≤ c ∧ c ≤ 1000000) (y : T) : ∀ t : T, rtL t → 0 ≤ rs e c t y
  | nil, _ => Int.le_refl _
  | cons f d r, h => by
    have := rs_nonneg (e := e) hc y r h.2.2
    have := (cd_in hc h.2.1).2.1
    simp only [rs]; split <;> omega
theorem le_row {e : T} {c : Int} (he : falls none e ∧ pos e ∧ sm 1000000 e ∧ e.size ≤ 30) (hc : 1 ≤ c ∧ c ≤ 1000000) {t acc : T} {A : Int} (ht : rtL t) (ga : gd A acc) (h0 : 0 ≤ A) (hA : A + 1000000000000 * t.len ≤ 990000000000000) : cmpT acc (rowX e c acc t) ≤ 0 := by
  obtain ⟨q1, q2, _, _⟩ := rowX_all he hc t acc A ht ga.1 ga.2.1 ga.2.2 h0 hA
  exact le_of_coef ga.1 q1 ga.2.1 q2 fun y => by
    rw [rowX_coef he hc t acc A ht ga.2.2 h0 hA y]
    have := rs_nonneg (e := e) hc y t ht; omega
theorem nil_ex : falls none nil ∧ pos nil ∧ sm 1000000 nil ∧ nil.size ≤ 30 := ⟨trivial, trivial, trivial, by simp [size]⟩
theorem one_le {c d : Int} (hc : 1 ≤ c) (hd : 1 ≤ d) : c ≤ d * c := by
  have : 1 * c ≤ d * c := Int.mul_le_mul_of_nonneg_right hd (by omega)
  omega
/-- Terms put in once, and a number of times. -/
theorem join_le_row {d : Int} (hd : 1 ≤ d ∧ d ≤ 1000000) : ∀ (l s t : T) (A : Int), rtL l → gd A s → gd A t → 0 ≤ A → A + 1000000000000 * l.len ≤ 990000000000000 → cmpT s t ≤ 0 → cmpT (joinT s l) (rowX nil d t l) ≤ 0
  | nil, s, t, A, _, _, _, _, _, h => h
  | cons e c l, s, t, A, hl, gs, gt, h0, hA, h => by
    simp only [len] at hA
    obtain ⟨w1, w2, w3⟩ := cd_in hd hl.2.1
    have hje : joinT nil e = e := join_nil e hl.1.1
    have h1 := one_le hl.2.1.1 hd.1
    have hm := meet_mono (C := 1000000000000) (C' := 1000000000000) (c := c) (d := d * c) (e := e) (f := e) gs gt (sm_mono hl.1.2.2.1 (by omega)) (sm_mono hl.1.2.2.1 (by omega)) ⟨hl.2.1.1, by omega⟩ ⟨by omega, w3⟩ (by omega) (by omega) h (.inr ⟨rfl, h1⟩)
    obtain ⟨g1, _⟩ := gd_meet (C := 1000000000000) (c := c) gs (sm_mono hl.1.2.2.1 (by omega) : sm 1000000000000 e) ⟨hl.2.1.1, by omega⟩ (by omega)
    obtain ⟨g2, _⟩ := gd_meet (C := 1000000000000) (c := d * c) gt (sm_mono hl.1.2.2.1 (by omega) : sm 1000000000000 e) ⟨by omega, w3⟩ (by omega)
    simp only [joinT, rowX]
    rw [hje, w1]
    exact join_le_row hd l _ _ (A + 1000000000000) hl.2.2 g1 g2 (by omega) (by omega) hm
theorem pos_goP {A B : Int} {a f m : T} {d : Int} (pa : pos a) (sa : sm A a) (hd : 1 ≤ d ∧ d ≤ B) (pm : pos m) (hB : 0 ≤ A ∧ A + B ≤ 1000000000000000) : pos (goP a f d m) := by
  induction a with
  | nil => exact ⟨hd.1, pm⟩
  | cons e c l _ ih =>
    have := ih pa.2 sa.2.2
    simp only [goP]
    split
    · exact ⟨pa.1, this⟩
    · split
      · have b1 := sa.2.1
        have b2 := pa.1
        refine ⟨?_, pm⟩
        rw [show w (c + d) = c + d from wid (by omega) (by omega)]; omega
      · exact this
theorem pos_plusX {A : Int} {a b : T} (pa : pos a) (pb : pos b) (sa : sm A a) (sb : sm 1000000000000 b) (hA : 0 ≤ A ∧ A + 1000000000000 ≤ 1000000000000000) : pos (plusT a b) := by
  cases b with
  | nil => exact pa
  | cons f d m => exact pos_goP pa sa ⟨pb.1, sb.2.1.2⟩ pb.2 hA
/-- A product with one term, added. -/
theorem step_le {a1 a' X acc : T} {c1 : Int} {f : T} {d : Int} {A : Int} (h1 : falls none a1 ∧ pos a1 ∧ sm 1000000 a1 ∧ a1.size ≤ 30) (hc1 : 1 ≤ c1 ∧ c1 ≤ 1000000) (ha' : rtL a') (la' : a'.len ≤ 30) (fa : falls (some a1) a') (hf : falls none f ∧ pos f ∧ sm 1000000 f ∧ f.size ≤ 30) (hd : 1 ≤ d ∧ d ≤ 1000000) (gX : gd A X) (gacc : gd A acc) (h0 : 0 ≤ A) (hA : A + 40000000000000 ≤ 980000000000000) (h : cmpT X acc ≤ 0) :
    cmpT (plusT X (tmG a1 c1 a' (cons f d nil))) (rowX f d acc (cons a1 c1 a')) ≤ 0 := by
  obtain ⟨w1, w2, w3⟩ := cd_in hd hc1
  obtain ⟨w1', w2', w3'⟩ := cd_in hc1 hd
  obtain ⟨j1, j2, j3, j4⟩ := join_exp hf h1
  cases f with
  | nil =>
    have hje : joinT nil a1 = a1 := join_nil a1 h1.1
    simp only [tmG, T.app_nil, w1']
    have hsa : sm 1000000 a' ∧ pos a' := by
      clear fa la'
      induction a' with
      | nil => exact ⟨trivial, trivial⟩
      | cons e c l _ ih => obtain ⟨i1, i2⟩ := ih ha'.2.2; exact ⟨⟨ha'.1.2.2.1, by have := ha'.2.1; omega, i1⟩, ha'.2.1.1, i2⟩
    have hP : falls none (cons a1 (c1 * d) a') ∧ pos (cons a1 (c1 * d) a') ∧ sm 1000000000000 (cons a1 (c1 * d) a') := ⟨⟨fun _ h => (by cases h), fa⟩, ⟨by omega, hsa.2⟩, sm_mono h1.2.2.1 (by omega), by omega, sm_mono hsa.1 (by omega)⟩
    have p1 := plus_le_join hP (by omega) h0 X none gX.1 gX.2.1 gX.2.2 (by omega)
    refine le_trans3 p1 ?_
    have hm := meet_mono (C := 1000000000000) (C' := 1000000000000) (c := c1 * d) (d := d * c1) (e := a1) (f := a1) gX gacc (sm_mono h1.2.2.1 (by omega)) (sm_mono h1.2.2.1 (by omega)) ⟨by omega, w3'⟩ ⟨by omega, w3⟩ (by omega) (by omega) h (.inr ⟨rfl, by rw [Int.mul_comm]; exact Int.le_refl _⟩)
    obtain ⟨g1, _⟩ := gd_meet (C := 1000000000000) (c := c1 * d) gX (sm_mono h1.2.2.1 (by omega) : sm 1000000000000 a1) ⟨by omega, w3'⟩ (by omega)
    obtain ⟨g2, _⟩ := gd_meet (C := 1000000000000) (c := d * c1) gacc (sm_mono h1.2.2.1 (by omega) : sm 1000000000000 a1) ⟨by omega, w3⟩ (by omega)
    simp only [joinT, rowX]
    rw [hje, w1]
    exact join_le_row hd a' _ _ (A + 1000000000000) ha' g1 g2 (by omega) (by omega) hm
  | cons x y z =>
    simp only [tmG]
    have hps := plusT_sm (B := 1000000) (C := 1000000) h1.2.2.1 hf.2.2.1 (by omega)
    have hP : falls none (cons (plusT a1 (cons x y z)) d nil) ∧ pos (cons (plusT a1 (cons x y z)) d nil) ∧ sm 1000000000000 (cons (plusT a1 (cons x y z)) d nil) := ⟨⟨fun _ h => (by cases h), trivial⟩, ⟨hd.1, trivial⟩, sm_mono hps (by omega), by omega, trivial⟩
    have p1 := plus_le_join hP (by omega) h0 X none gX.1 gX.2.1 gX.2.2 (by simp only [len]; omega)
    refine le_trans3 p1 ?_
    have pl := plus_le h1 hf
    rw [rtL_comm h1 hf] at pl
    have hr := cmpT_range (plusT a1 (cons x y z)) (joinT (cons x y z) a1)
    have h2 := one_le hd.1 hc1.1
    have hm := meet_mono (C := 1000000000000) (C' := 1000000000000) (c := d) (d := d * c1) (e := plusT a1 (cons x y z)) (f := joinT (cons x y z) a1) gX gacc (sm_mono hps (by omega)) j3 ⟨hd.1, by omega⟩ ⟨by omega, w3⟩ (by omega) (by omega) h (by
      by_cases q : cmpT (plusT a1 (cons x y z)) (joinT (cons x y z) a1) = 0
      · exact .inr ⟨cmpT_eq.1 q, by rw [Int.mul_comm]; exact h2⟩
      · exact .inl (by omega))
    obtain ⟨g2, _⟩ := gd_meet (C := 1000000000000) (c := d * c1) gacc j3 ⟨by omega, w3⟩ (by omega)
    simp only [joinT, rowX]
    rw [w1]
    exact le_trans3 hm (le_row hf hd ha' g2 (by omega) (by omega))
theorem times_le {a1 a' : T} {c1 : Int} (h1 : falls none a1 ∧ pos a1 ∧ sm 1000000 a1 ∧ a1.size ≤ 30) (hc1 : 1 ≤ c1 ∧ c1 ≤ 1000000) (ha' : rtL a') (sa' : sm 1000000 a') (pa' : pos a') (la' : a'.len ≤ 29) (fa : falls (some a1) a') : ∀ (t X acc : T) (A : Int), rtL t → falls none t → sm 1000000 t → exOk 1000000 t → pos t → gd A X → gd A acc → 0 ≤ A → A + 31000000000000 * t.len ≤ 940000000000000 → cmpT X acc ≤ 0 → cmpT (plusT X (tmG a1 c1 a' t)) (crossG (cons a1 c1 a') acc t) ≤ 0
  | nil, X, acc, A, _, _, _, _, _, _, _, _, _, h => h
  | cons f d r, X, acc, A, ht, ft, st, et, pt, gX, gacc, h0, hA, h => by
    simp only [len] at hA
    have hs := step_le h1 hc1 ha' (by omega) fa ht.1 ht.2.1 gX gacc h0 (by omega) h
    obtain ⟨q1, q2, q3, _⟩ := rowX_all ht.1 ht.2.1 (cons a1 c1 a') acc A ⟨h1, hc1, ha'⟩ gacc.1 gacc.2.1 gacc.2.2 h0 (by simp only [len]; omega)
    -- the product with this term alone
    have sP : sm 1000000000000 (tmG a1 c1 a' (cons f d nil)) := tmG_sm (B := 1000000) (C := 1000000) h1.2.2.1 ⟨by omega, hc1.2⟩ sa' (by omega) (cons f d nil) ⟨st.1, st.2.1, trivial⟩ ⟨pt.1, trivial⟩
    have pP : posT (tmG a1 c1 a' (cons f d nil)) := tmG_pos (B := 1000000) (C := 1000000) hc1 (pos_posT.1 pa') (by omega) (cons f d nil) ⟨st.1, st.2.1, trivial⟩ ⟨pt.1, trivial⟩
    have fP : falls none (tmG a1 c1 a' (cons f d nil)) := tmG_falls (c1 := c1) h1.1 (sm_mono h1.2.2.1 (by omega)) fa (cons f d nil) none (fun r h => by cases h) ⟨fun _ h => (by cases h), trivial⟩ ⟨⟨et.1.1, et.1.2.1, sm_mono et.1.2.2 (by omega)⟩, trivial⟩
    have sR : sm 1000000000000 (tmG a1 c1 a' r) := tmG_sm (B := 1000000) (C := 1000000) h1.2.2.1 ⟨by omega, hc1.2⟩ sa' (by omega) r st.2.2 (pos_posT.1 pt.2)
    have e1 : tmG a1 c1 a' (cons f d r) = plusT (tmG a1 c1 a' (cons f d nil)) (tmG a1 c1 a' r) := by
      cases r with
      | nil => rfl
      | cons g u n =>
        have hgt : cmpT f g = 1 := by have := ft.2.1 f rfl; have := cmpT_range f g; omega
        have := tm_dist (c1 := c1) h1.1 (sm_mono h1.2.2.1 (by omega)) fa ⟨by omega, by omega⟩ (falls_none ft.2) (sm_mono st.2.2 (by omega)) (exOk_mono et.2 (by omega)) (pos_posT.1 pt.2) (cons f d nil) none ⟨fun _ h => (by cases h), trivial⟩ ⟨sm_mono st.1 (by omega), by have := st.2.1; omega, trivial⟩ ⟨⟨et.1.1, et.1.2.1, sm_mono et.1.2.2 (by omega)⟩, trivial⟩ ⟨pt.1, trivial⟩
        simp only [goP, if_pos hgt] at this
        exact this
    rw [e1, plusT_assocX (sm_mono gX.2.2 (by omega)) (sm_mono sP (by omega)) (sm_mono sR (by omega)) gX.1 fP]
    have gX' : gd (A + 30000000000000 + 1000000000000) (plusT X (tmG a1 c1 a' (cons f d nil))) :=
      ⟨falls_plusT gX.1 fP, pos_plusX gX.2.1 (pos_posT.2 pP) gX.2.2 sP ⟨h0, by omega⟩, sm_mono (plusT_sm gX.2.2 sP ⟨h0, by omega, by omega⟩) (by omega)⟩
    have gr : gd (A + 30000000000000 + 1000000000000) (rowX f d acc (cons a1 c1 a')) := ⟨q1, q2, sm_mono q3 (by simp only [len]; omega)⟩
    exact times_le h1 hc1 ha' sa' pa' la' fa r _ _ (A + 30000000000000 + 1000000000000) ht.2.2 (falls_none ft.2) st.2.2 et.2 pt.2 gX' gr (by omega) (by omega) hs
end Go.Proofs.Try

namespace Go.Proofs.Try
open Go Go.AX T
theorem goP_ne2 (a f : T) (d : Int) (m : T) : ∃ x y z, goP a f d m = cons x y z := by
  induction a with
  | nil => exact ⟨f, d, m, rfl⟩
  | cons e c l ih1 ih =>
    simp only [goP]
    split
    · exact ⟨_, _, _, rfl⟩
    · split
      · exact ⟨_, _, _, rfl⟩
      · exact ih
/-- Nothing of a vanishes before b. -/
def headGe (a b : T) : Prop := ∀ f d m, b = cons f d m → a ≠ nil → 0 ≤ cmpT (lastE a) f
theorem snoc_ne (l e : T) (c : Int) (m : T) : app l (cons e c m) ≠ nil := by cases l <;> simp [app]
theorem goP_last {e m : T} {c d : Int} : ∀ {l : T} {p : Option T}, falls p (app l (cons e c nil)) → goP (app l (cons e c nil)) e d m = app l (cons e (w (c + d)) m)
  | nil, _, _ => by
    simp only [app, goP, cmpT_refl]
    rw [if_neg (by omega), if_pos trivial]
  | cons y g r, p, h => by
    have h1 := falls_gt h.2
    have h2 := cmpT_range y e
    simp only [app, goP]
    rw [if_pos (by omega), goP_last h.2]
theorem plus_app {a g0 r y : T} {h0 : Int} : plusT a (app (cons g0 h0 r) y) = app (plusT a (cons g0 h0 r)) y := by
  show goP a g0 h0 (app r y) = app (goP a g0 h0 r) y
  rw [goP_app, goP_app (m := r), app_assoc]
theorem bef_plus {a b : T} (ha : ordP a = true) (hb : ordP b = true) (hz : b ≠ nil) (hg : headGe a b) : befT (plusT a b) = plusT a (befT b) ∧ lastE (plusT a b) = lastE b := by
  rcases T.snoc b with rfl | ⟨b0, g, h, rfl⟩
  · exact absurd rfl hz
  · have fa := form_falls (ordP_form ha)
    have hh := form_snoc (ordP_form hb)
    rw [befT_snoc, lastE_snoc]
    cases b0 with
    | nil =>
      rcases T.snoc a with rfl | ⟨a0, e, c, rfl⟩
      · rw [plusT_nilL, plusT_nilL, befT_snoc, lastE_snoc]; exact ⟨rfl, rfl⟩
      · have hc := form_snoc (ordP_form ha)
        have q := hg g h nil rfl (snoc_ne _ _ _ _)
        rw [lastE_snoc] at q
        by_cases q0 : cmpT e g = 0
        · obtain rfl := cmpT_eq.1 q0
          have e1 : plusT (app a0 (cons e c nil)) (app nil (cons e h nil)) = app a0 (cons e (w (c + h)) nil) := goP_last fa
          rw [e1, befT_snoc, lastE_snoc, show w (c + h) = c + h from wid (by omega) (by omega), if_pos (by omega)]
          refine ⟨?_, rfl⟩
          by_cases g1 : 1 < h
          · rw [if_pos g1]
            have e2 : plusT (app a0 (cons e c nil)) (app nil (cons e (w (h - 1)) nil)) = app a0 (cons e (w (c + w (h - 1))) nil) := goP_last fa
            rw [e2, show w (h - 1) = h - 1 from wid (by omega) (by omega), show c + h - 1 = c + (h - 1) by omega]
          · rw [if_neg g1, show c + h - 1 = c by omega, show w c = c from wid (by omega) (by omega)]; rfl
        · have r := cmpT_range e g
          have up : ∀ d : Int, plusT (app a0 (cons e c nil)) (cons g d nil) = app (app a0 (cons e c nil)) (cons g d nil) := fun d => goP_above fa fun _ => by rw [lastE_snoc]; omega
          have e1 : plusT (app a0 (cons e c nil)) (app nil (cons g h nil)) = app (app a0 (cons e c nil)) (cons g h nil) := up h
          rw [e1, befT_snoc, lastE_snoc]
          refine ⟨?_, rfl⟩
          by_cases g1 : 1 < h
          · rw [if_pos g1]; exact (up _).symm
          · rw [if_neg g1, T.app_nil]; rfl
    | cons g0 h0 b1 =>
      rw [plus_app, befT_snoc, lastE_snoc, plus_app]; exact ⟨rfl, rfl⟩
/-- The head of what is before. -/
theorem bef_head {b f m : T} {d : Int} (h : befT b = cons f d m) : ∃ d' m', b = cons f d' m' := by
  cases b with
  | nil => cases h
  | cons e c l =>
    cases l with
    | nil =>
      simp only [befT] at h
      split at h
      · injection h with h1; exact ⟨c, nil, by rw [h1]⟩
      · cases h
    | cons x y z => simp only [befT] at h; injection h with h1; exact ⟨c, cons x y z, by rw [h1]⟩
theorem head_bef {a b : T} (h : headGe a b) : headGe a (befT b) := fun f d m e hz => by
  obtain ⟨d', m', e'⟩ := bef_head e
  exact h f d' m' e' hz
theorem fexp_lt (n : Int) {k : Nat} {a : T} (hl : limT a = true) (hf : formA none a = true) (hk : a.size < k) : cmpT (fexp k n a) (lastE a) < 0 := by
  obtain ⟨hz, hx⟩ := lim_ne hl
  have h2 := lastE_size hz
  have fx := form_lastE hf
  unfold fexp
  cases q : limT (lastE a) with
  | true => exact (fund_lt n k (lastE a) q fx (by omega)).1
  | false => exact bef_lt hx fx
theorem lastE_le_head {b f m : T} {d : Int} {p : Option T} (fb : falls p b) (h : b = cons f d m) : 0 ≤ cmpT f (lastE b) := by
  subst h
  rcases T.snoc m with rfl | ⟨l, e, c, rfl⟩
  · show 0 ≤ cmpT f f
    rw [cmpT_refl]; omega
  · have h1 := falls_gt fb.2
    rw [show cons f d (app l (cons e c nil)) = app (cons f d l) (cons e c nil) from rfl, lastE_snoc]
    omega
theorem fund_plus (n : Int) {k : Nat} {a b : T} (ha : ordP a = true) (hb : ordP b = true) (hs : ordP (plusT a b) = true) (hl : limT b = true) (hg : headGe a b) (hk : 40 < k) : limT (plusT a b) = true ∧ fund k n (plusT a b) = plusT a (fund k n b) ∧ headGe a (fund k n b) := by
  obtain ⟨hz, hx⟩ := lim_ne hl
  obtain ⟨e1, e2⟩ := bef_plus ha hb hz hg
  have fb := ordP_form hb
  have fa := form_falls (ordP_form ha)
  have zb := ordP_size hb
  have zs := ordP_size hs
  have l1 : limT (plusT a b) = true := by unfold limT at hl ⊢; rw [e2]; exact hl
  have lt := fexp_lt n (k := k - 1) hl fb (by omega)
  have f1 := (fund_lt n k b hl fb (by omega)).2
  have f2 := (fund_lt n k _ l1 (ordP_form hs) (by omega)).2
  have e3 : fexp (k - 1) n (plusT a b) = fexp (k - 1) n b := by unfold fexp; rw [e2]
  have e4 : fcoe n (plusT a b) = fcoe n b := by unfold fcoe; rw [e2]
  rw [e1, e3, e4] at f2
  have hlow : ∀ f d m, b = cons f d m → 0 < cmpT f (fexp (k - 1) n b) := fun f d m e => by
    have h1 := lastE_le_head (form_falls fb) e
    have h2 := cmpT_neg (fexp (k - 1) n b) (lastE b)
    have h3 := cmpT_range f (lastE b)
    have h4 := cmpT_range (lastE b) (fexp (k - 1) n b)
    rcases h3 with q | q | q
    · omega
    · rw [cmpT_eq.1 q]; omega
    · exact cmp_lt_of (b := lastE b) (by omega) (by omega)
  refine ⟨l1, ?_, ?_⟩
  · rw [f2, f1]
    cases hb0 : befT b with
    | cons g0 h0 r => rw [plus_app]
    | nil =>
      rw [show plusT a nil = a from rfl, show app nil (powT (fexp (k - 1) n b) (fcoe n b)) = powT (fexp (k - 1) n b) (fcoe n b) from rfl]
      unfold powT
      split
      · rw [T.app_nil]; rfl
      · refine (goP_above fa fun hn => ?_).symm
        cases b with
        | nil => exact absurd rfl hz
        | cons f d m =>
          have h1 := hg f d m rfl hn
          have h2 := hlow f d m rfl
          have h3 := cmpT_range (lastE a) f
          rcases h3 with q | q | q
          · omega
          · rw [cmpT_eq.1 q]; exact h2
          · have := cmpT_range f (fexp (k - 1) n (cons f d m))
            exact cmp_lt_of (b := f) (by omega) (by omega)
  · rw [f1]
    intro f d m e hn
    cases hb0 : befT b with
    | cons g0 h0 r =>
      rw [hb0] at e
      injection e with e5
      obtain ⟨d', m', e6⟩ := bef_head hb0
      rw [← e5]
      exact hg g0 d' m' e6 hn
    | nil =>
      rw [hb0] at e
      rw [show app nil (powT (fexp (k - 1) n b) (fcoe n b)) = powT (fexp (k - 1) n b) (fcoe n b) from rfl] at e
      unfold powT at e
      split at e
      · cases e
      · injection e with e5
        cases b with
        | nil => exact absurd rfl hz
        | cons x y z =>
          have h1 := hg x y z rfl hn
          have h2 := hlow x y z rfl
          rw [e5] at h2
          have h3 := cmpT_range (lastE a) x
          rcases h3 with q | q | q
          · omega
          · rw [cmpT_eq.1 q]; omega
          · have := cmpT_range x f
            have := cmp_lt_of (a := lastE a) (b := x) (c := f) (by omega) (by omega)
            omega
/-- Where a sum is the natural one, nothing vanishes. -/
theorem head_of_natural {a b : T} (ha : ordP a = true) (hb : ordP b = true) (h : plusT a b = joinT a b) : headGe a b := by
  intro f d m e hn
  subst e
  rcases T.snoc a with rfl | ⟨a0, x, c, rfl⟩
  · exact absurd rfl hn
  · rw [lastE_snoc]
    rcases Int.lt_or_le (cmpT x f) 0 with q | q
    · exfalso
      have fa := form_falls (ordP_form ha)
      have fb := form_falls (ordP_form hb)
      have sa := form_sm (ordP_form ha)
      have sb := form_sm (ordP_form hb)
      have pa := pos_posT.2 (form_posT (ordP_form ha))
      have pb := pos_posT.2 (form_posT (ordP_form hb))
      have zb := ordP_size hb
      have lb := (cons f d m).len_size
      have hmul : (1000000 : Int) * ((cons f d m).len : Int) ≤ 1000000 * 30 := Int.mul_le_mul_of_nonneg_left (by omega) (by omega)
      have hd := sb.2.1
      obtain ⟨_, _, _, j4⟩ := join_all (cons f d m) (app a0 (cons x c nil)) 1000000 sa sb (by omega) (by omega) (by omega) fa pa pb
      have c1 := coef_goP (x := x) (d := d) (m := m) (f := f) (a := app a0 (cons x c nil)) (fun y g l l' hq => by have := sm_at sa hq; exact wid (by omega) (by omega)) fa fb.2
      have c2 := j4 x
      rw [← h, show plusT (app a0 (cons x c nil)) (cons f d m) = goP (app a0 (cons x c nil)) f d m from rfl, c1, if_neg (by omega)] at c2
      have c3 : 1 ≤ coef (app a0 (cons x c nil)) x := by
        have hc := form_snoc (ordP_form ha)
        have key : ∀ (l : T), pos (app l (cons x c nil)) → 1 ≤ coef (app l (cons x c nil)) x := by
          intro l
          induction l with
          | nil => intro _; simp only [app, coef, cmpT_refl]; simp; omega
          | cons y g r _ ih =>
            intro hp
            have := ih hp.2
            have := hp.1
            simp only [app, coef]
            split <;> omega
        exact key a0 pa
      omega
    · exact q
end Go.Proofs.Try

namespace Go.Proofs.Try
open Go Go.AX T
/-- The number behind all steps. -/
inductive Hd (k : Nat) : T → Int → Int → Prop
  | stop (n : Int) : Hd k nil n n
  | go {a t : T} {n m v : Int} (hz : a ≠ nil) (h : impl_DescendOnce k a.rows n = some (t.rows, m, true)) (r : Hd k t m v) : Hd k a n v
theorem hd_fun {k : Nat} {a : T} {n v : Int} (h : Hd k a n v) : ∀ {v' : Int}, Hd k a n v' → v = v' := by
  induction h with
  | stop n =>
    intro v' h'
    cases h' with
    | stop => rfl
    | go hz => exact absurd rfl hz
  | go hz h r ih =>
    intro v' h'
    cases h' with
    | stop => exact absurd rfl hz
    | go hz' h' r' =>
      rw [h] at h'
      simp only [Option.some.injEq, Prod.mk.injEq, and_true] at h'
      obtain ⟨e1, rfl⟩ := h'
      obtain rfl := rows_inj e1
      exact ih r'
theorem hd_of {k : Nat} (hk : 30000 < k) {most : Int} : ∀ (f : Nat) (a : T) (n j v : Int), ordP a = true → impl_HardyValue_l0 k most (fun (v54 : Int) => (impl_HardyValue_p3 v54)) f n j a.rows = some (v, true) → Hd k a n v
  | 0, _, _, _, _, _, h => by simp [impl_HardyValue_l0] at h
  | f + 1, a, n, j, v, oa, h => by
    have h3 : cap = 1099511627776 := rfl
    have hs := ordP_size oa
    obtain ⟨t, m, ok, e1, _, _, e3⟩ := desc_eq2 (k := k) (a := a) (n := n) hk (by omega) (by omega)
    simp only [impl_HardyValue_l0] at h
    rw [isZ] at h
    simp only [Option.bind_some] at h
    cases hz : zer a with
    | true =>
      rw [hz] at h
      simp only [if_true] at h
      unfold impl_HardyValue_p3 at h
      simp only [Option.some.injEq, Prod.mk.injEq, and_true] at h
      have han : a = nil := by cases a with | nil => rfl | cons _ _ _ => cases hz
      subst han
      rw [h]
      exact Hd.stop v
    | false =>
      rw [hz, e1] at h
      simp only [Bool.false_eq_true, if_false, Option.bind_some] at h
      cases ok with
      | false => simp at h
      | true =>
        obtain ⟨o1, _, _, _, o5⟩ := e3 rfl
        simp only [if_true] at h
        split at h
        · simp at h
        · exact Hd.go o5 e1 (hd_of hk f t m _ v o1 h)
theorem desc_val {k : Nat} {a t : T} {n m : Int} (hk : 30000 < k) (oa : ordP a = true) (h : impl_DescendOnce k a.rows n = some (t.rows, m, true)) : ((limT a = true ∧ t = fund k n a ∧ m = n) ∨ (limT a = false ∧ t = befT a ∧ m = IntKind.i64.wrap (n + 1))) ∧ ordP t = true := by
  have h3 : cap = 1099511627776 := rfl
  have hf := ordP_form oa
  have hs := ordP_size oa
  have hal := a.len_size
  obtain ⟨t', m', ok', e1, _, _, e3⟩ := desc_eq2 (k := k) (a := a) (n := n) hk (by omega) (by omega)
  have e4 := e1
  rw [h] at e4
  simp only [Option.some.injEq, Prod.mk.injEq] at e4
  obtain ⟨q1, rfl, rfl⟩ := e4
  obtain rfl := rows_inj q1
  obtain ⟨ot, _, _, hn, hz⟩ := e3 rfl
  refine ⟨?_, ot⟩
  unfold impl_DescendOnce at h
  rw [IsOrdinal_eq k a (by omega) (by omega), isZ, impl_in_eq] at h
  have hn' : (decide (0 ≤ n) && decide (n ≤ 1000)) = true := by simp; omega
  have z0 : zer a = false := by cases a with | nil => exact absurd rfl hz | cons _ _ _ => rfl
  rw [oa, hn', z0, isLimit_eq (by omega) hf] at h
  simp only [Option.bind_some, Bool.false_eq_true, if_false, if_true] at h
  cases hl : limT a with
  | true =>
    have mm : (a.size + 1) * (a.size + 1) ≤ 31 * 31 := Nat.mul_le_mul (by omega) (by omega)
    have fs := fund_size k n a
    rw [hl, fundamental_eq n hn k a hl hf (by omega) (by omega)] at h
    simp only [if_true, Option.bind_some] at h
    rw [told_eq k _ (by omega) (by omega)] at h
    simp only [Option.bind_some] at h
    cases ho : (toldT (fund k n a)).2 with
    | false => rw [ho] at h; simp at h
    | true =>
      rw [ho] at h
      simp only [if_true, Option.some.injEq, Prod.mk.injEq, and_true] at h
      rw [told_one ho] at h
      exact .inl ⟨rfl, (rows_inj h.1).symm, h.2.symm⟩
  | false =>
    have bs := befT_size a
    rw [hl] at h
    simp only [Bool.false_eq_true, if_false] at h
    rw [before_eq hz hl (by omega) (by omega) hf] at h
    simp only [Option.bind_some] at h
    rw [told_eq k _ (by omega) (by omega)] at h
    simp only [Option.bind_some] at h
    cases ho : (toldT (befT a)).2 with
    | false => rw [ho] at h; simp at h
    | true =>
      rw [ho] at h
      simp only [if_true, Option.some.injEq, Prod.mk.injEq, and_true] at h
      rw [told_one ho] at h
      exact .inr ⟨rfl, (rows_inj h.1).symm, h.2.symm⟩
theorem hd_plus {k : Nat} (hk : 30000 < k) {b : T} {n i : Int} (hb : Hd k b n i) : ∀ {a : T} {o v : Int}, ordP a = true → ordP b = true → ordP (plusT a b) = true → headGe a b → Hd k a i o → Hd k (plusT a b) n v → v = o := by
  induction hb with
  | stop n =>
    intro a o v _ _ _ _ h1 h2
    exact hd_fun h2 h1
  | @go b t n m i hz h r ih =>
    intro a o v oa ob os hg h1 h2
    have hne : plusT a b ≠ nil := by
      cases b with
      | nil => exact absurd rfl hz
      | cons f d l =>
        obtain ⟨x, y, z, e⟩ := goP_ne2 a f d l
        show goP a f d l ≠ nil
        rw [e]; simp
    generalize hs : plusT a b = s at h2 os hne
    cases h2 with
    | stop => exact absurd rfl hne
    | @go _ t' _ m' _ _ h' r' =>
      subst hs
      obtain ⟨c1, ot⟩ := desc_val hk ob h
      obtain ⟨c2, ot'⟩ := desc_val hk os h'
      obtain ⟨b1, b2⟩ := bef_plus oa ob hz hg
      have hlim : limT (plusT a b) = limT b := by unfold limT; rw [b2]
      rcases c1 with ⟨l1, e1, e2⟩ | ⟨l1, e1, e2⟩
      · rcases c2 with ⟨l2, e3, e4⟩ | ⟨l2, e3, e4⟩
        · obtain ⟨_, g2, g3⟩ := fund_plus n (k := k) oa ob os l1 hg (by omega)
          rw [e3, g2, ← e1] at r' ot'
          rw [e4, ← e2] at r'
          rw [← e1] at g3
          exact ih oa ot ot' g3 h1 r'
        · rw [hlim, l1] at l2; cases l2
      · rcases c2 with ⟨l2, e3, e4⟩ | ⟨l2, e3, e4⟩
        · rw [hlim, l1] at l2; cases l2
        · rw [e3, b1, ← e1] at r' ot'
          rw [e4, ← e2] at r'
          exact ih oa ot ot' (by rw [e1]; exact head_bef hg) h1 r'
/-! ### two ordinals compared by the law -/
theorem qs_loop {rec_ : Rw → Rw → Option Bool} {a b : T} (hl : a.len = b.len) (hr : ∀ e f : T, e.size < a.size → ∃ r, rec_ e.rows f.rows = some r ∧ (r = true → e = f)) : ∀ (t : T) (i : Nat), drop a i = t → ∃ r, laws_qSameOrdinal_l0 rec_ a.rows b.rows (some true) t.rows i = some r ∧ (r = true → drop a i = drop b i)
  | nil, i, h => ⟨true, rfl, fun _ => by
      have h1 := drop_ge h
      rw [h, drop_of_ge (by omega)]⟩
  | cons e c l, i, h => by
    have h1 := drop_lt h
    have hz := drop_cons_size h
    cases hq : drop b i with
    | nil => have := drop_ge hq; omega
    | cons f d m =>
      obtain ⟨r1, e1, e2⟩ := hr e f (by omega)
      obtain ⟨r2, e3, e4⟩ := qs_loop hl hr l (i + 1) (drop_succ h)
      simp only [rows, laws_qSameOrdinal_l0, cell_T]
      rw [row_T (t := b) (i := (i : Int)) (n := i) rfl hq]
      by_cases g : c = d
      · rw [if_pos g, e1, Option.bind_some]
        cases r1 with
        | false => exact ⟨false, rfl, fun h => by cases h⟩
        | true =>
          rw [if_pos rfl, e3]
          refine ⟨r2, rfl, fun h2 => ?_⟩
          have h3 := e4 h2
          rw [drop_succ h, drop_succ hq] at h3
          rw [h, e2 rfl, g, h3]
      · rw [if_neg g]; exact ⟨false, rfl, fun h => by cases h⟩
theorem qsame_eq : ∀ (k : Nat) (a b : T), a.size < k → a.size ≤ cap → ∃ r, laws_qSameOrdinal k a.rows b.rows = some r ∧ (r = true → a = b)
  | 0, _, _, h, _ => absurd h (Nat.not_lt_zero _)
  | k + 1, a, b, h, hc => by
    have hal := a.len_size
    show ∃ r, laws_qSameOrdinal_b (laws_qSameOrdinal k) a.rows b.rows = some r ∧ _
    unfold laws_qSameOrdinal_b
    by_cases g : a.len = b.len
    · rw [if_pos (by rw [rows_len, rows_len, g]), if_pos (by rw [rows_len]; omega)]
      obtain ⟨r, e1, e2⟩ := qs_loop (rec_ := laws_qSameOrdinal k) g (fun e f he => qsame_eq k e f (by omega) (by omega)) a 0 (drop_zero a)
      exact ⟨r, e1, fun h => by have := e2 h; rwa [drop_zero, drop_zero] at this⟩
    · rw [if_neg (by rw [rows_len, rows_len]; omega)]
      exact ⟨false, rfl, fun h => by cases h⟩
theorem natsum_i {k : Nat} {a b : T} (hk : a.size + b.size + 3 < k) (hc : a.size + b.size + 2 ≤ cap) : impl_NaturalSum k a.rows b.rows = some ((natT a b).1.rows, (natT a b).2) := by
  unfold impl_NaturalSum natT
  rw [both_eq k a b (by omega) (by omega) (by omega) (by omega)]
  simp only [Option.bind_some]
  cases ha : ordP a with
  | false => rfl
  | true =>
    cases hb : ordP b with
    | false => rfl
    | true =>
      have oa := ordP_okT ha
      have ob := ordP_okT hb
      have zb := b.len_size
      have hz := joinT_size a b
      have z1 := oa.2.2.2
      have z2 := ob.2.2.2
      simp only [Bool.and_self, if_true]
      rw [natural_eq (B := 1000000) (C := 1000000) oa.2.2.1 ob.2.2.1 (by omega) (by omega) ob.1 (by omega) (by omega)]
      simp only [Option.bind_some]
      rw [told_eq k _ (by omega) (by omega)]
      simp only [Option.bind_some]
      cases (toldT (joinT a b)).2 <;> rfl
/-! ### the law -/
theorem adds_p13 {k : Nat} {a b : T} {most n less outer : Int} (hk : 40000 < k) (za : a.size ≤ 300) (zb : b.size ≤ 300) (hm : 0 ≤ most ∧ most ≤ 200) (hl : 0 ≤ less ∧ less ≤ 200) {inner : Int} (hb : Hd k b n inner) {ok : Bool} (ha : ok = true → Hd k a inner outer) : laws_FnHardyAdds_p13 k most n less outer (addT a b).1.rows (natT a b).1.rows (natT a b).2 ok (addT a b).2 = some true := by
  have h3 : cap = 1099511627776 := rfl
  unfold laws_FnHardyAdds_p13
  cases hn : (natT a b).2 with
  | false => cases ok <;> cases (addT a b).2 <;> rfl
  | true =>
    cases hok : ok with
    | false => cases (addT a b).2 <;> rfl
    | true =>
      cases hs : (addT a b).2 with
      | false => rfl
      | true =>
        obtain ⟨oa, ob, os, es⟩ := addT_ok hs
        have zs := ordP_size os
        simp only [cond]
        rw [es]
        have en : (natT a b).1 = joinT a b := by
          unfold natT at hn ⊢
          rw [oa, ob] at hn ⊢
          simp only [Bool.and_self, if_true] at hn ⊢
          unfold toldT at hn ⊢
          split at hn
          · rename_i g; rw [if_pos g]
          · cases hn
        obtain ⟨r, e1, e2⟩ := qsame_eq k (plusT a b) (natT a b).1 (by omega) (by omega)
        rw [e1]
        simp only [Option.bind_some]
        cases r with
        | false => rfl
        | true =>
          rw [if_pos rfl]
          have hg := head_of_natural oa ob (by rw [← en]; exact e2 rfl)
          unfold laws_FnHardyAdds_p14
          rw [wid (n := most + less) (by omega) (by omega)]
          obtain ⟨v, ok3, f1, _, f3⟩ := hardy_eq2 (k := k) (a := plusT a b) (n := n) (most := most + less) (by omega) (by omega) (by omega)
          rw [f1]
          simp only [Option.bind_some]
          cases ok3 with
          | false => rfl
          | true =>
            obtain ⟨_, _, _, f4⟩ := f3 rfl
            have h1 := hd_of (by omega) k _ n 0 v os f4
            have h2 := hd_plus (by omega) hb oa ob os hg (ha hok) h1
            simp only [if_true]
            unfold laws_FnHardyAdds_p15
            simp only [cond]
            rw [if_pos h2]
theorem adds_p4 {k : Nat} {a b : T} {most n less : Int} (hk : 40000 < k) (za : a.size ≤ 300) (zb : b.size ≤ 300) : laws_FnHardyAdds_p4 k most n less a.rows b.rows = some true := by
  have h3 : cap = 1099511627776 := rfl
  obtain ⟨inner, ok, e1, e2, e3⟩ := hardy_eq2 (k := k) (a := b) (n := n) (most := less) (by omega) (by omega) (by omega)
  have p6 : laws_FnHardyAdds_p6 k most n less inner inner a.rows b.rows ok ok = some true := by
    unfold laws_FnHardyAdds_p6
    cases ok with
    | false => simp [cond]
    | true =>
      obtain ⟨ob, hn, hl, hlb⟩ := e3 rfl
      have hb := hd_of (by omega) k b n 0 inner ob hlb
      simp only [cond, if_true]
      by_cases g1 : 1000 < inner
      · rw [if_pos g1]
      · rw [if_neg g1]
        by_cases g2 : 200 < IntKind.i64.wrap (most + less)
        · rw [if_pos g2]
        · rw [if_neg g2]
          obtain ⟨outer, ok2, f1, f2, f3⟩ := hardy_eq2 (k := k) (a := a) (n := inner) (most := most) (by omega) (by omega) (by omega)
          have za' : a.size + b.size < k := by omega
          have ea := AddOrdinals_eq k a b (by omega) (by omega)
          have en := natsum_i (k := k) (a := a) (b := b) (by omega) (by omega)
          have p13 : ∀ x : Bool, x = ok2 → laws_FnHardyAdds_p13 k most n less outer (addT a b).1.rows (natT a b).1.rows (natT a b).2 x (addT a b).2 = some true := by
            intro x hx
            subst hx
            cases x with
            | true =>
              obtain ⟨oa, _, hm, hla⟩ := f3 rfl
              exact adds_p13 hk za zb hm hl hb fun _ => hd_of (by omega) k a inner 0 outer oa hla
            | false =>
              unfold laws_FnHardyAdds_p13
              cases (natT a b).2 <;> cases (addT a b).2 <;> rfl
          have p12 : ∀ (x y : Bool), x = (addT a b).2 → y = ok2 → laws_FnHardyAdds_p12 k most n less outer a.rows b.rows (addT a b).1.rows x y = some true := by
            intro x y hx hy
            unfold laws_FnHardyAdds_p12
            rw [en]
            simp only [Option.bind_some]
            have p := p13 y hy
            rw [← hx] at p
            cases hnn : (natT a b).2 <;> rw [hnn] at p <;> cases x <;> cases y <;> simp only [cond, if_true, Bool.false_eq_true, if_false] <;> exact p
          have p10 : laws_FnHardyAdds_p10 k most n less outer outer a.rows b.rows ok2 ok2 = some true := by
            unfold laws_FnHardyAdds_p10
            rw [ea]
            simp only [Option.bind_some]
            have p := p12 _ ok2 rfl rfl
            cases hs : (addT a b).2 <;> rw [hs] at p <;> cases ok2 <;> simp only [cond, if_true, Bool.false_eq_true, if_false] <;> exact p
          have p9 : ∀ x : Bool, x = ok2 → laws_FnHardyAdds_p9 k most n less inner outer a.rows b.rows x = some true := by
            intro x hx
            subst hx
            unfold laws_FnHardyAdds_p9
            rw [f2]
            simp only [Option.bind_some]
            cases x <;> simp only [cond, if_true, Bool.false_eq_true, if_false] <;> exact p10
          rw [f1]
          simp only [Option.bind_some]
          cases ok2 <;> exact p9 _ rfl
  have p5 : laws_FnHardyAdds_p5 k most n less inner a.rows b.rows ok = some true := by
    unfold laws_FnHardyAdds_p5
    rw [e2]
    simp only [Option.bind_some]
    cases ok <;> exact p6
  unfold laws_FnHardyAdds_p4
  rw [e1]
  simp only [Option.bind_some]
  cases ok <;> exact p5
theorem FnHardyAdds_pure {x y : Rw} (hx : bytes x) (hy : bytes y) : laws_FnHardyAdds 40001 x y = some true := by
  unfold laws_FnHardyAdds laws_big
  obtain ⟨a, n', most, e, z⟩ := drawHardy_ok (k := 40001) hx (by omega)
  obtain ⟨b, n, less, e', z'⟩ := drawHardy_ok (k := 40001) hy (by omega)
  have p2 : laws_FnHardyAdds_p2 40001 x y = some true := by
    unfold laws_FnHardyAdds_p2
    rw [e, Option.bind_some]
    unfold laws_FnHardyAdds_p3
    rw [e', Option.bind_some]
    exact adds_p4 (by omega) z z'
  split
  · rfl
  · split
    · rfl
    · rw [Option.bind_some, if_neg (by decide)]; exact p2
end Go.Proofs.Try
