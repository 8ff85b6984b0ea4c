/- What the printed functions compute: plain data. -/
import Derived.Test.YtmihoieaiojbhaaGF0
import Derived.Lib.Strings
import Derived.Lib.Join
import Derived.Lib.ItoaLen
set_option linter.unusedVariables false
set_option linter.unusedSimpArgs false
namespace Go.Proofs.Try
open Go Go.AX

theorem wid {n : Int} (h1 : -9223372036854775808 ≤ n) (h2 : n < 9223372036854775808) : IntKind.i64.wrap n = n := wrap_in h1 h2
/-- An ordinal: its terms, exponents and coefficients. -/
inductive T where
  | nil
  | cons (e : T) (c : Int) (l : T)
namespace T
def rows : T → Rw
  | nil => []
  | cons e c l => [.sl (rows e), .int .i64 c] :: rows l
def size : T → Nat
  | nil => 0
  | cons e _ l => size e + size l + 1
def len : T → Nat
  | nil => 0
  | cons _ _ l => len l + 1
def drop : T → Nat → T
  | t, 0 => t
  | nil, _ + 1 => nil
  | cons _ _ l, n + 1 => drop l n
def app : T → T → T
  | nil, b => b
  | cons e c l, b => cons e c (app l b)
@[simp] theorem drop_zero (t : T) : drop t 0 = t := by cases t <;> rfl
@[simp] theorem drop_nil (n : Nat) : drop nil n = nil := by cases n <;> rfl
@[simp] theorem rows_len (t : T) : (rows t).length = len t := by
  induction t with
  | nil => rfl
  | cons e c l _ ih => simp [rows, len, ih]
theorem len_size (t : T) : len t ≤ size t := by
  induction t with
  | nil => simp [len]
  | cons e c l _ ih => simp [len, size]; omega
@[simp] theorem rows_app (a b : T) : rows (app a b) = rows a ++ rows b := by
  induction a with
  | nil => rfl
  | cons e c l _ ih => simp [app, rows, ih]
theorem rows_drop (t : T) (i : Nat) : rows (drop t i) = (rows t).drop i := by
  induction t generalizing i with
  | nil => cases i <;> simp [drop, rows]
  | cons e c l _ ih => cases i with
    | zero => simp [drop]
    | succ i => simp [drop, rows, ih]
theorem rowsWide (t : T) : ∀ cs ∈ rows t, cs.length = 2 := by
  induction t with
  | nil => intro cs h; cases h
  | cons e c l _ ih =>
    intro cs h
    simp only [rows, List.mem_cons] at h
    rcases h with rfl | h
    · rfl
    · exact ih cs h
theorem rowsWide_drop (t : T) (i : Nat) : ∀ cs ∈ (rows t).drop i, cs.length = 2 := fun cs h => rowsWide t cs (List.mem_of_mem_drop h)
theorem drop_len (t : T) (i : Nat) : len (drop t i) = len t - i := by rw [← rows_len, rows_drop, List.length_drop, rows_len]
theorem drop_succ {t : T} {i : Nat} {e : T} {c : Int} {l : T} (h : drop t i = cons e c l) : drop t (i + 1) = l := by
  induction t generalizing i with
  | nil => simp at h
  | cons e' c' l' _ ih =>
    cases i with
    | zero => simp only [drop, cons.injEq] at h ⊢; simp [h.2.2]
    | succ i => exact ih h
theorem drop_size {t : T} {i : Nat} : size (drop t i) ≤ size t := by
  induction t generalizing i with
  | nil => simp
  | cons e c l _ ih =>
    cases i with
    | zero => simp
    | succ i => simp only [drop, size]; have := ih (i := i); omega
theorem drop_cons_size {t : T} {i : Nat} {e : T} {c : Int} {l : T} (h : drop t i = cons e c l) : size e + size l + 1 ≤ size t := by
  have := drop_size (t := t) (i := i); rw [h] at this; exact this
theorem drop_lt {t : T} {i : Nat} {e : T} {c : Int} {l : T} (h : drop t i = cons e c l) : i < len t := by
  have := drop_len t i; rw [h] at this; simp only [len] at this; omega
theorem drop_ge {t : T} {i : Nat} (h : drop t i = nil) : len t ≤ i := by
  have := drop_len t i; rw [h] at this; simp only [len] at this; omega
theorem drop_of_ge {t : T} {i : Nat} (h : len t ≤ i) : drop t i = nil := by
  have := drop_len t i
  cases hd : drop t i with
  | nil => rfl
  | cons e c l => rw [hd] at this; simp only [len] at this; omega
theorem rows_get {t : T} {i : Nat} {e : T} {c : Int} {l : T} (h : drop t i = cons e c l) : (rows t)[i]? = some [.sl (rows e), .int .i64 c] := by
  have := rows_drop t i
  rw [h] at this
  have h2 : ((rows t).drop i)[0]? = some [.sl (rows e), .int .i64 c] := by rw [← this]; rfl
  rwa [List.getElem?_drop, Nat.add_zero] at h2
@[simp] theorem app_nil (t : T) : app t nil = t := by
  induction t with
  | nil => rfl
  | cons e c l _ ih => simp [app, ih]
theorem app_assoc (a b c : T) : app (app a b) c = app a (app b c) := by
  induction a with
  | nil => rfl
  | cons e k l _ ih => simp [app, ih]
theorem size_app (a b : T) : (app a b).size = a.size + b.size := by
  induction a with
  | nil => simp [app, size]
  | cons e c l _ ih => simp [app, size, ih]; omega
theorem len_app (a b : T) : (app a b).len = a.len + b.len := by
  induction a with
  | nil => simp [app, len]
  | cons e c l _ ih => simp [app, len, ih]; omega
theorem rows_inj : ∀ {a b : T}, rows a = rows b → a = b
  | nil, nil, _ => rfl
  | nil, cons _ _ _, h => by simp [rows] at h
  | cons _ _ _, nil, h => by simp [rows] at h
  | cons e c l, cons f d m, h => by
    simp only [rows, List.cons.injEq, D.sl.injEq, D.int.injEq, true_and, and_true] at h
    obtain ⟨⟨h1, h2⟩, h3⟩ := h
    rw [rows_inj h1, h2, rows_inj h3]
end T
open T
theorem row_rows {α : Type} {t : T} {i : Int} {n : Nat} (hi : i = n) {e : T} {c : Int} {l : T} (h : drop t n = cons e c l) (F : Rw → List D → Option α) : (if 0 ≤ i then (match (rows t)[i.toNat]? with | some cs => F (rows t) cs | none => none) else none) = F (rows t) [.sl (rows e), .int .i64 c] := by
  subst hi
  rw [if_pos (by omega), Int.toNat_natCast, rows_get h]

/-! ### the order -/
def cmpI (a b : Int) : Int := if a < b then -1 else if b < a then 1 else 0
def cmpT : T → T → Int
  | nil, nil => 0
  | nil, cons _ _ _ => -1
  | cons _ _ _, nil => 1
  | cons e c l, cons f d m => if cmpT e f = 0 then (if cmpI c d = 0 then cmpT l m else cmpI c d) else cmpT e f
theorem cmpI_refl (a : Int) : cmpI a a = 0 := by simp [cmpI]
theorem cmpI_eq {a b : Int} : cmpI a b = 0 ↔ a = b := by unfold cmpI; split <;> (try split) <;> simp <;> omega
theorem cmpI_neg (a b : Int) : cmpI b a = - cmpI a b := by unfold cmpI; split <;> split <;> (try split) <;> omega
theorem cmpT_range (a b : T) : cmpT a b = -1 ∨ cmpT a b = 0 ∨ cmpT a b = 1 := by
  induction a generalizing b with
  | nil => cases b <;> simp [cmpT]
  | cons e c l ihe ihl =>
    cases b with
    | nil => simp [cmpT]
    | cons f d m =>
      simp only [cmpT]
      split
      · split
        · exact ihl m
        · unfold cmpI; split <;> (try split) <;> simp
      · exact ihe f
theorem cmpT_refl (a : T) : cmpT a a = 0 := by
  induction a with
  | nil => rfl
  | cons e c l ihe ihl => simp [cmpT, ihe, ihl, cmpI_refl]
theorem cmpT_eq {a b : T} : cmpT a b = 0 ↔ a = b := by
  induction a generalizing b with
  | nil => cases b <;> simp [cmpT]
  | cons e c l ihe ihl =>
    cases b with
    | nil => simp [cmpT]
    | cons f d m =>
      simp only [cmpT, cons.injEq]
      constructor
      · intro h
        split at h
        · rename_i h1
          split at h
          · rename_i h2; exact ⟨ihe.1 h1, cmpI_eq.1 h2, ihl.1 h⟩
          · rename_i h2; exact absurd h h2
        · rename_i h1; exact absurd h h1
      · rintro ⟨rfl, rfl, rfl⟩
        rw [if_pos (cmpT_refl e), if_pos (cmpI_refl c)]; exact cmpT_refl l
theorem cmpT_neg (a b : T) : cmpT b a = - cmpT a b := by
  induction a generalizing b with
  | nil => cases b <;> simp [cmpT]
  | cons e c l ihe ihl =>
    cases b with
    | nil => simp [cmpT]
    | cons f d m =>
      simp only [cmpT, ihe f, ihl m, cmpI_neg c d]
      split <;> split <;> (try split) <;> (try split) <;> omega
theorem cmpI_trans {a b c : Int} (h1 : cmpI a b < 0) (h2 : cmpI b c < 0) : cmpI a c < 0 := by
  unfold cmpI at *
  split at h1 <;> (try split at h1) <;> split at h2 <;> (try split at h2) <;> split <;> (try split) <;> omega
theorem cmpT_trans {a b c : T} (h1 : cmpT a b < 0) (h2 : cmpT b c < 0) : cmpT a c < 0 := by
  induction a generalizing b c with
  | nil =>
    cases b with
    | nil => simp [cmpT] at h1
    | cons f d m => cases c with
      | nil => simp [cmpT] at h2
      | cons g k n => simp [cmpT]
  | cons e x l ihe ihl =>
    cases b with
    | nil => simp [cmpT] at h1
    | cons f y m =>
      cases c with
      | nil => simp [cmpT] at h2
      | cons g z n =>
        simp only [cmpT] at h1 h2 ⊢
        by_cases q1 : cmpT e f = 0
        · rw [if_pos q1] at h1
          obtain rfl := cmpT_eq.1 q1
          by_cases q2 : cmpT e g = 0
          · rw [if_pos q2] at h2 ⊢
            by_cases q3 : cmpI x y = 0
            · rw [if_pos q3] at h1
              obtain rfl := cmpI_eq.1 q3
              by_cases q4 : cmpI x z = 0
              · rw [if_pos q4] at h2 ⊢; exact ihl h1 h2
              · rw [if_neg q4] at h2 ⊢; exact h2
            · rw [if_neg q3] at h1
              by_cases q4 : cmpI y z = 0
              · rw [if_pos q4] at h2
                obtain rfl := cmpI_eq.1 q4
                rw [if_neg q3]; exact h1
              · rw [if_neg q4] at h2
                have := cmpI_trans h1 h2
                rw [if_neg (by omega)]; exact this
          · rw [if_neg q2] at h2 ⊢; exact h2
        · rw [if_neg q1] at h1
          by_cases q2 : cmpT f g = 0
          · obtain rfl := cmpT_eq.1 q2
            rw [if_neg q1]; exact h1
          · rw [if_neg q2] at h2
            have := ihe h1 h2
            rw [if_neg (by omega)]; exact this

/-! ### what is right -/
def nodesL : T → Nat
  | nil => 0
  | cons e _ l => 2 + nodesL e + nodesL l
def dp : T → Nat
  | nil => 0
  | cons e _ l => max (1 + dp e) (dp l)
/-- Coefficients in their range, exponents that fall; p: the exponent ahead. -/
def formA : Option T → T → Bool
  | _, nil => true
  | p, cons e c l => decide (1 ≤ c) && decide (c ≤ 1000000) && formA none e && (match p with | none => true | some q => decide (0 < cmpT q e)) && formA (some e) l
def ordP (t : T) : Bool := decide (1 + nodesL t ≤ 60) && decide (dp t ≤ 6) && formA none t
theorem nodes_size (t : T) : nodesL t = 2 * size t := by
  induction t with
  | nil => rfl
  | cons e c l ihe ihl => simp only [nodesL, size, ihe, ihl]; omega
theorem ordP_size {t : T} (h : ordP t = true) : size t ≤ 30 := by
  simp only [ordP, Bool.and_eq_true, decide_eq_true_eq] at h
  have := nodes_size t
  omega
end Go.Proofs.Try

namespace Go.Proofs.Try
theorem bind_of {α β : Type} {o : Option α} {y : α} {K : α → Option β} {r : Option β} (h : o = some y) (hk : K y = r) : o.bind K = r := by rw [h]; exact hk
theorem ite_pos {α : Type} {c : Prop} [Decidable c] {a b r : α} (h : c) (hk : a = r) : (if c then a else b) = r := by rw [if_pos h]; exact hk
theorem ite_neg {α : Type} {c : Prop} [Decidable c] {a b r : α} (h : ¬ c) (hk : b = r) : (if c then a else b) = r := by rw [if_neg h]; exact hk
theorem cond_tt {α : Type} {a b r : α} (h : a = r) : cond true a b = r := h
theorem cond_ff {α : Type} {a b r : α} (h : b = r) : cond false a b = r := h
end Go.Proofs.Try

namespace Go.Proofs.Try
open Go Go.AX T
/-! ### rows of terms -/
@[simp] theorem cell_T {α : Type} (x : Rw) (c : Int) (K : Rw → Int → Option α) : cell_si [.sl x, .int .i64 c] K = K x c := rfl
theorem row_T {α : Type} {t : T} {i : Int} {n : Nat} (hi : i = n) {e : T} {c : Int} {l : T} (h : drop t n = cons e c l) (K : Rw → Int → Option α) : row_si t.rows i K = K e.rows c := by
  subst hi
  unfold row_si
  rw [if_pos (by omega), Int.toNat_natCast, rows_get h]; rfl
@[simp] theorem row_T0 {α : Type} (e : T) (c : Int) (l : T) (K : Rw → Int → Option α) : row_si (cons e c l).rows 0 K = K e.rows c := row_T (n := 0) rfl rfl K
theorem lenI (t : T) : ((t.rows.length : Nat) : Int) = (t.len : Int) := by rw [rows_len]
/-! ### impl's order -/
theorem impl_compare_eq (a b : Int) : impl_compare a b = some (cmpI a b) := by unfold impl_compare cmpI; split <;> (try split) <;> rfl
theorem CompareFunc_loop {rec_ : Rw → Rw → Option Int} {a b : T} {K : Option Int} (hr : ∀ e f : T, e.size < a.size → rec_ e.rows f.rows = some (cmpT e f)) (hK : K = (if (a.len : Int) < b.len then some (-1) else some 0)) :
    ∀ (t : T) (i : Nat), drop a i = t → i ≤ a.len → i ≤ b.len → slices_CompareFunc__cmpTerms_l0 rec_ a.rows b.rows K t.rows i = some (cmpT t (drop b i))
  | nil, i, hd, ha', hb => by
    simp only [rows, slices_CompareFunc__cmpTerms_l0, hK]
    have h1 := drop_ge hd
    by_cases h2 : i < b.len
    · cases hq : drop b i with
      | nil => have := drop_ge hq; omega
      | cons f d m =>
        have : a.len = i ∨ a.len < i := by omega
        rw [if_pos (by omega)]; rfl
    · rw [drop_of_ge (t := b) (by omega), if_neg (by
        intro q
        omega)]; rfl
  | cons e c l, i, hd, ha', hb => by
    simp only [rows, slices_CompareFunc__cmpTerms_l0, cell_T]
    have hs := drop_cons_size hd
    by_cases h2 : b.len ≤ i
    · rw [if_pos (by rw [lenI]; omega), drop_of_ge h2]; rfl
    · rw [if_neg (by rw [lenI]; omega)]
      cases hq : drop b i with
      | nil => have := drop_ge hq; omega
      | cons f d m =>
        rw [row_T rfl hq]
        simp only [impl_cmpTerms, hr e f (by omega), Option.bind_some, impl_compare_eq]
        by_cases h3 : cmpT e f = 0
        · simp only [h3, if_true, Option.bind_some]
          by_cases h4 : cmpI c d = 0
          · rw [if_pos h4, CompareFunc_loop hr hK l (i + 1) (drop_succ hd) (drop_lt hd) (by omega), drop_succ hq]
            simp [cmpT, h3, h4]
          · rw [if_neg h4]; simp [cmpT, h3, h4]
        · simp only [if_neg h3, Option.bind_some]; simp [cmpT, h3]
theorem impl_cmp_eq : ∀ (k : Nat) (a b : T), a.size < k → a.size ≤ cap → impl_cmp k a.rows b.rows = some (cmpT a b)
  | 0, _, _, h, _ => absurd h (Nat.not_lt_zero _)
  | k + 1, a, b, h, hc => by
    have hl := a.len_size
    simp only [impl_cmp, impl_cmp_b, slices_CompareFunc__cmpTerms]
    rw [if_pos (by rw [rows_len]; omega)]
    rw [CompareFunc_loop (a := a) (b := b) (fun e f he => impl_cmp_eq k e f (by omega) (by omega)) (by rw [lenI, lenI]) a 0 (drop_zero a) (by omega) (by omega)]
    simp
/-! ### spec's order -/
/-- Coefficients whose differences do not run over. -/
def calm : T → Prop
  | nil => True
  | cons e c l => calm e ∧ (-1000000000000000 ≤ c ∧ c ≤ 1000000000000000) ∧ calm l
theorem calm_drop {t : T} (h : calm t) : ∀ {i : Nat}, calm (drop t i) := by
  induction t with
  | nil => intro i; simpa using h
  | cons e c l _ ih => intro i; cases i with
    | zero => simpa using h
    | succ i => exact ih h.2.2
theorem sign_eq {c d : Int} (hc : -1000000000000000 ≤ c ∧ c ≤ 1000000000000000) (hd : -1000000000000000 ≤ d ∧ d ≤ 1000000000000000) : spec_l1Sign (IntKind.i64.wrap (c - d)) = some (cmpI c d) := by
  rw [wid (by omega) (by omega)]
  unfold spec_l1Sign cmpI
  by_cases h1 : c < d
  · rw [if_neg (by omega), if_pos (by omega), if_pos h1]
  · by_cases h2 : d < c
    · rw [if_pos (by omega), if_neg h1, if_pos h2]
    · rw [if_neg (by omega), if_neg (by omega), if_neg h1, if_neg h2]
theorem odCmp_loop {rec_ : Rw → Rw → Option Int} {a b : T} {K : Option Int} (ha : calm a) (hb : calm b) (hr : ∀ e f : T, e.size < a.size → calm e → calm f → rec_ e.rows f.rows = some (cmpT e f)) (hK : K = (if (a.len : Int) < b.len then some (-1) else some 0)) :
    ∀ (t : T) (i : Nat), drop a i = t → i ≤ a.len → i ≤ b.len → spec_odCmp_l0 rec_ a.rows b.rows K t.rows i = some (cmpT t (drop b i))
  | nil, i, hd, ha', hb' => by
    simp only [rows, spec_odCmp_l0, hK]
    have h1 := drop_ge hd
    by_cases h2 : i < b.len
    · cases hq : drop b i with
      | nil => have := drop_ge hq; omega
      | cons f d m => rw [if_pos (by omega)]; rfl
    · rw [drop_of_ge (t := b) (by omega), if_neg (by
        intro q
        omega)]; rfl
  | cons e c l, i, hd, ha', hb' => by
    simp only [rows, spec_odCmp_l0, cell_T]
    have hs := drop_cons_size hd
    have hca := calm_drop ha (i := i)
    rw [hd] at hca
    by_cases h2 : i = b.len
    · rw [if_pos (by rw [lenI]; omega), drop_of_ge (by omega)]; rfl
    · rw [if_neg (by rw [lenI]; omega)]
      cases hq : drop b i with
      | nil => have := drop_ge hq; omega
      | cons f d m =>
        have hcb := calm_drop hb (i := i)
        rw [hq] at hcb
        rw [row_T rfl hq]
        simp only [hr e f (by omega) hca.1 hcb.1, Option.bind_some]
        by_cases h3 : cmpT e f = 0
        · rw [if_pos h3]
          by_cases h4 : c = d
          · subst h4
            rw [if_pos rfl, odCmp_loop ha hb hr hK l (i + 1) (drop_succ hd) (drop_lt hd) (drop_lt hq), drop_succ hq]
            simp [cmpT, h3, cmpI_refl]
          · rw [if_neg h4, sign_eq hca.2.1 hcb.2.1]
            have : cmpI c d ≠ 0 := fun q => h4 (cmpI_eq.1 q)
            simp [cmpT, h3, this]
        · rw [if_neg h3]; simp [cmpT, h3]
theorem odCmp_eq : ∀ (k : Nat) (a b : T), calm a → calm b → a.size < k → a.size ≤ cap → spec_odCmp k a.rows b.rows = some (cmpT a b)
  | 0, _, _, _, _, h, _ => absurd h (Nat.not_lt_zero _)
  | k + 1, a, b, ha, hb, h, hc => by
    have hl := a.len_size
    simp only [spec_odCmp, spec_odCmp_b]
    rw [if_pos (by rw [rows_len]; omega)]
    have := odCmp_loop (rec_ := spec_odCmp k) (a := a) (b := b) (K := spec_odCmp_p2 a.rows b.rows) ha hb (fun e f he h1 h2 => odCmp_eq k e f h1 h2 (by omega) (by omega)) (by unfold spec_odCmp_p2; rw [lenI, lenI]) a 0 (drop_zero a) (by omega) (by omega)
    rw [this, drop_zero]
end Go.Proofs.Try

namespace Go.Proofs.Try
open Go Go.AX T
theorem impl_in_eq (n a b : Int) : impl_in n a b = some (decide (a ≤ n) && decide (n ≤ b)) := by
  unfold impl_in
  by_cases h1 : a ≤ n <;> by_cases h2 : n ≤ b <;> simp [h1, h2]
theorem l1In_eq (n a b : Int) : spec_l1In n a b = some (decide (a ≤ n) && decide (n ≤ b)) := by
  unfold spec_l1In
  by_cases h1 : a ≤ n <;> by_cases h2 : n ≤ b <;> simp [h1, h2]
/-- The exponent of the term ahead of the i-th. -/
def ahead (t : T) : Nat → Option T
  | 0 => none
  | i + 1 => match drop t i with
    | cons e _ _ => some e
    | nil => none
theorem ahead_succ {t : T} {i : Nat} {e : T} {c : Int} {l : T} (h : drop t i = cons e c l) : ahead t (i + 1) = some e := by simp [ahead, h]
theorem ahead_some {t : T} {i : Nat} (h0 : 0 < i) (h : i ≤ t.len) : ∃ q c l, drop t (i - 1) = cons q c l ∧ ahead t i = some q := by
  obtain ⟨j, rfl⟩ : ∃ j, i = j + 1 := ⟨i - 1, by omega⟩
  cases hq : drop t j with
  | nil => have := drop_ge hq; omega
  | cons q c l => exact ⟨q, c, l, hq, ahead_succ hq⟩
theorem dp_drop {t : T} : ∀ {i : Nat}, dp (drop t i) ≤ dp t := by
  induction t with
  | nil => intro i; simp
  | cons e c l _ ih => intro i; cases i with
    | zero => simp
    | succ i => have := ih (i := i); simp only [drop, dp]; omega
/-- What a check of a tree tells. -/
def Tells (r : Bool × Int) (n : Int) (ok : Prop) (m : Int) : Prop := (r.1 = true ↔ ok) ∧ (r.1 = true → r.2 = m) ∧ 0 ≤ r.2 ∧ r.2 ≤ 61 ∧ n ≤ r.2
theorem at2_loop {k : Nat} {rec_ : Rw → Int → Int → Int → Option (Bool × Int)} {a : T} {d1 deep : Int} (hd : 0 ≤ deep ∧ deep ≤ 6) (hk : a.size ≤ k) (hc : a.size ≤ cap)
    (hr : ∀ (e : T) (x n : Int), e.size < a.size → 0 ≤ n → n ≤ 60 → ∃ r, rec_ e.rows x (deep + 1) n = some r ∧ Tells r n (n + 1 + nodesL e ≤ 60 ∧ deep + 1 + dp e ≤ 6 ∧ formA none e = true) (n + 1 + nodesL e)) :
    ∀ (t : T) (i : Nat) (m : Int), drop a i = t → i ≤ a.len → 0 ≤ m → m ≤ 60 → ∃ r, impl_ordinalAt_2_l0 k rec_ a.rows d1 deep (fun v => impl_ordinalAt_2_p3 v) t.rows i m = some r ∧ Tells r m (m + nodesL t ≤ 60 ∧ deep + dp t ≤ 6 ∧ formA (ahead a i) t = true) (m + nodesL t)
  | nil, i, m, hdr, hi, h0, h60 => by
    refine ⟨(true, m), rfl, ?_⟩
    simp only [Tells, nodesL, dp, formA]
    refine ⟨⟨fun _ => ⟨by omega, by omega, trivial⟩, fun _ => trivial⟩, fun _ => by omega, h0, by omega, by omega⟩
  | cons e c l, i, m, hdr, hi, h0, h60 => by
    have hs := drop_cons_size hdr
    simp only [rows, impl_ordinalAt_2_l0, cell_T]
    rw [wid (n := m + 1) (by omega) (by omega)]
    by_cases h1 : 60 < m + 1
    · rw [if_pos h1]
      refine ⟨_, rfl, ?_⟩
      simp only [Tells, nodesL]
      refine ⟨⟨fun h => (by cases h), fun h => by omega⟩, fun h => (by cases h), by omega, by omega, by omega⟩
    · rw [if_neg h1, impl_in_eq, Option.bind_some]
      by_cases h2 : (decide (1 ≤ c) && decide (c ≤ 1000000)) = true
      · rw [if_pos h2, wid (n := deep + 1) (by omega) (by omega)]
        obtain ⟨r1, e1, t1, t2, t3, t4, t5⟩ := hr e c (m + 1) (by omega) (by omega) (by omega)
        rw [e1, Option.bind_some]
        obtain ⟨b1, m1⟩ := r1
        dsimp only at t1 t2 t3 t4 t5 ⊢
        cases b1 with
        | false =>
          rw [if_neg (by simp)]
          refine ⟨_, rfl, ?_⟩
          simp only [Tells]
          refine ⟨⟨fun h => (by cases h), fun h => ?_⟩, fun h => (by cases h), t3, t4, by omega⟩
          obtain ⟨q1, q2, q3⟩ := h
          simp only [nodesL, dp, formA, Bool.and_eq_true] at q1 q2 q3
          exact t1.2 ⟨by omega, by omega, q3.1.1.2⟩
        | true =>
          obtain ⟨u1, u2, u3⟩ := t1.1 rfl
          obtain rfl := t2 rfl
          rw [if_pos rfl]
          have go : ∀ (hp : (match ahead a i with | none => true | some q => decide (0 < cmpT q e)) = true), ∃ r, impl_ordinalAt_2_l0 k rec_ a.rows d1 deep (fun v => impl_ordinalAt_2_p3 v) l.rows (i + 1) (m + 1 + 1 + nodesL e) = some r ∧ Tells r m (m + nodesL (cons e c l) ≤ 60 ∧ deep + dp (cons e c l) ≤ 6 ∧ formA (ahead a i) (cons e c l) = true) (m + nodesL (cons e c l)) := by
            intro hp
            obtain ⟨r, er, s1, s2, s3, s4, s5⟩ := at2_loop hd hk hc hr l (i + 1) (m + 1 + 1 + nodesL e) (drop_succ hdr) (drop_lt hdr) (by omega) (by omega)
            refine ⟨r, er, ?_⟩
            rw [ahead_succ hdr] at s1
            simp only [Tells, nodesL, dp, formA, Bool.and_eq_true]
            refine ⟨s1.trans ⟨fun q => ⟨by have := q.1; omega, by have := q.2.1; omega, ⟨⟨(by simpa using h2), u3⟩, hp⟩, q.2.2⟩, fun q => ⟨by have := q.1; omega, by have := q.2.1; omega, q.2.2.2⟩⟩, fun q => by rw [s2 q]; omega, s3, s4, by omega⟩
          by_cases h3 : (0 : Int) < (i : Int)
          · obtain ⟨q, qc, ql, hq, ha⟩ := ahead_some (t := a) (i := i) (by omega) hi
            have hqs := drop_cons_size hq
            rw [if_pos h3, wid (n := (i : Int) - 1) (by omega) (by have := a.len_size; have : cap = 1099511627776 := rfl; omega), row_T (n := i - 1) (by omega) hq, impl_cmp_eq k q e (by omega) (by omega), Option.bind_some]
            by_cases h4 : cmpT q e ≤ 0
            · rw [if_pos h4]
              refine ⟨_, rfl, ?_⟩
              simp only [Tells]
              refine ⟨⟨fun h => (by cases h), fun h => ?_⟩, fun h => (by cases h), t3, t4, by omega⟩
              obtain ⟨_, _, q3⟩ := h
              simp only [formA, ha, Bool.and_eq_true, decide_eq_true_eq] at q3
              have := q3.1.2
              omega
            · rw [if_neg h4]
              exact go (by rw [ha]; simp; omega)
          · rw [if_neg h3]
            have : i = 0 := by omega
            subst this
            exact go rfl
      · rw [if_neg h2]
        refine ⟨_, rfl, ?_⟩
        simp only [Tells]
        refine ⟨⟨fun h => (by cases h), fun h => ?_⟩, fun h => (by cases h), by omega, by omega, by omega⟩
        obtain ⟨_, _, q3⟩ := h
        simp only [formA, Bool.and_eq_true] at q3 h2
        exact absurd q3.1.1.1 h2
theorem at2_eq : ∀ (k : Nat) (a : T) (x deep n : Int), a.size < k → a.size ≤ cap → 0 ≤ deep → deep ≤ 7 → 0 ≤ n → n ≤ 60 →
    ∃ r, impl_ordinalAt_2 k a.rows x deep n = some r ∧ Tells r n (n + 1 + nodesL a ≤ 60 ∧ deep + dp a ≤ 6 ∧ formA none a = true) (n + 1 + nodesL a)
  | 0, _, _, _, _, h, _, _, _, _, _ => absurd h (Nat.not_lt_zero _)
  | k + 1, a, x, deep, n, h, hc, h0, h7, n0, n60 => by
    have hl := a.len_size
    simp only [impl_ordinalAt_2, impl_ordinalAt_2_b]
    rw [wid (n := n + 1) (by omega) (by omega)]
    by_cases h1 : 60 < n + 1
    · rw [if_pos h1]
      refine ⟨_, rfl, ?_⟩
      simp only [Tells]
      exact ⟨⟨fun h => (by cases h), fun h => by omega⟩, fun h => (by cases h), by omega, by omega, by omega⟩
    · rw [if_neg h1]
      by_cases h2 : 6 < deep
      · rw [if_pos h2]
        refine ⟨_, rfl, ?_⟩
        simp only [Tells]
        exact ⟨⟨fun h => (by cases h), fun h => by omega⟩, fun h => (by cases h), by omega, by omega, by omega⟩
      · rw [if_neg h2, if_pos (by rw [rows_len]; omega)]
        obtain ⟨r, e, s1, s2, s3, s4, s5⟩ := at2_loop (k := k) (rec_ := impl_ordinalAt_2 k) (a := a) (d1 := x) (deep := deep) (by omega) (by omega) hc (fun e y m he m0 m60 => at2_eq k e y (deep + 1) m (by omega) (by omega) (by omega) (by omega) m0 m60) a 0 (n + 1) (drop_zero a) (by omega) (by omega) (by omega)
        exact ⟨r, e, s1, s2, s3, s4, by omega⟩
theorem at1_loop {k : Nat} {a : T} (hk : a.size < k) (hc : a.size ≤ cap) :
    ∀ (t : T) (i : Nat) (m : Int), drop a i = t → i ≤ a.len → 0 ≤ m → m ≤ 60 → ∃ r : Bool × Int, impl_ordinalAt_l0 k a.rows 0 (fun v => impl_ordinalAt_p3 a.rows v) t.rows i m = some (r.1, a.rows, r.2) ∧ (r.1 = true ↔ m + nodesL t ≤ 60 ∧ dp t ≤ 6 ∧ formA (ahead a i) t = true) ∧ (r.1 = true → r.2 = m + nodesL t)
  | nil, i, m, hdr, hi, h0, h60 => by
    refine ⟨(true, m), rfl, ?_⟩
    simp only [nodesL, dp, formA]
    exact ⟨⟨fun _ => ⟨by omega, by omega, trivial⟩, fun _ => trivial⟩, fun _ => by omega⟩
  | cons e c l, i, m, hdr, hi, h0, h60 => by
    have hs := drop_cons_size hdr
    simp only [rows, impl_ordinalAt_l0, cell_T]
    rw [wid (n := m + 1) (by omega) (by omega)]
    by_cases h1 : 60 < m + 1
    · rw [if_pos h1]
      exact ⟨(false, _), rfl, ⟨fun h => (by cases h), fun h => by simp only [nodesL] at h; omega⟩, fun h => (by cases h)⟩
    · rw [if_neg h1, impl_in_eq, Option.bind_some]
      by_cases h2 : (decide (1 ≤ c) && decide (c ≤ 1000000)) = true
      · rw [if_pos h2, wid (n := 0 + 1) (by omega) (by omega)]
        obtain ⟨r1, e1, t1, t2, t3, t4, t5⟩ := at2_eq k e c (0 + 1) (m + 1) (by omega) (by omega) (by omega) (by omega) (by omega) (by omega)
        rw [e1, Option.bind_some]
        obtain ⟨b1, m1⟩ := r1
        dsimp only at t1 t2 t3 t4 t5 ⊢
        cases b1 with
        | false =>
          rw [if_neg (by simp)]
          refine ⟨(false, _), rfl, ⟨fun h => (by cases h), fun h => ?_⟩, fun h => (by cases h)⟩
          obtain ⟨q1, q2, q3⟩ := h
          simp only [nodesL, dp, formA, Bool.and_eq_true] at q1 q2 q3
          exact t1.2 ⟨by omega, by omega, q3.1.1.2⟩
        | true =>
          obtain ⟨u1, u2, u3⟩ := t1.1 rfl
          obtain rfl := t2 rfl
          rw [if_pos rfl]
          have go : ∀ (hp : (match ahead a i with | none => true | some q => decide (0 < cmpT q e)) = true), ∃ r : Bool × Int, impl_ordinalAt_l0 k a.rows 0 (fun v => impl_ordinalAt_p3 a.rows v) l.rows (i + 1) (m + 1 + 1 + nodesL e) = some (r.1, a.rows, r.2) ∧ (r.1 = true ↔ m + nodesL (cons e c l) ≤ 60 ∧ dp (cons e c l) ≤ 6 ∧ formA (ahead a i) (cons e c l) = true) ∧ (r.1 = true → r.2 = m + nodesL (cons e c l)) := by
            intro hp
            obtain ⟨r, er, s1, s2⟩ := at1_loop hk hc l (i + 1) (m + 1 + 1 + nodesL e) (drop_succ hdr) (drop_lt hdr) (by omega) (by omega)
            refine ⟨r, er, ?_⟩
            rw [ahead_succ hdr] at s1
            simp only [nodesL, dp, formA, Bool.and_eq_true]
            exact ⟨s1.trans ⟨fun q => ⟨by have := q.1; omega, by have := q.2.1; omega, ⟨⟨(by simpa using h2), u3⟩, hp⟩, q.2.2⟩, fun q => ⟨by have := q.1; omega, by have := q.2.1; omega, q.2.2.2⟩⟩, fun q => by rw [s2 q]; omega⟩
          by_cases h3 : (0 : Int) < (i : Int)
          · obtain ⟨q, qc, ql, hq, ha⟩ := ahead_some (t := a) (i := i) (by omega) hi
            have hqs := drop_cons_size hq
            rw [if_pos h3, wid (n := (i : Int) - 1) (by omega) (by have := a.len_size; have : cap = 1099511627776 := rfl; omega), row_T (n := i - 1) (by omega) hq, impl_cmp_eq k q e (by omega) (by omega), Option.bind_some]
            by_cases h4 : cmpT q e ≤ 0
            · rw [if_pos h4]
              refine ⟨(false, _), rfl, ⟨fun h => (by cases h), fun h => ?_⟩, fun h => (by cases h)⟩
              obtain ⟨_, _, q3⟩ := h
              simp only [formA, ha, Bool.and_eq_true, decide_eq_true_eq] at q3
              have := q3.1.2
              omega
            · rw [if_neg h4]
              exact go (by rw [ha]; simp; omega)
          · rw [if_neg h3]
            have : i = 0 := by omega
            subst this
            exact go rfl
      · rw [if_neg h2]
        refine ⟨(false, _), rfl, ⟨fun h => (by cases h), fun h => ?_⟩, fun h => (by cases h)⟩
        obtain ⟨_, _, q3⟩ := h
        simp only [formA, Bool.and_eq_true] at q3 h2
        exact absurd q3.1.1.1 h2
theorem at1_eq (k : Nat) (a : T) (hk : a.size < k) (hc : a.size ≤ cap) : ∃ r : Bool × Int, impl_ordinalAt k a.rows 0 0 = some (r.1, a.rows, r.2) ∧ (r.1 = true ↔ ordP a = true) ∧ (r.1 = true → r.2 = 1 + nodesL a) := by
  have hl := a.len_size
  unfold impl_ordinalAt
  rw [wid (n := 0 + 1) (by omega) (by omega), if_neg (by omega), if_neg (by omega), if_pos (by rw [rows_len]; omega)]
  obtain ⟨r, e, s, v⟩ := at1_loop hk hc a 0 (0 + 1) (drop_zero a) (by omega) (by omega) (by omega)
  refine ⟨r, e, s.trans ?_, fun q => by rw [v q]; omega⟩
  simp only [ordP, Bool.and_eq_true, decide_eq_true_eq, ahead]
  exact ⟨fun q => ⟨⟨by have := q.1; omega, q.2.1⟩, q.2.2⟩, fun q => ⟨by have := q.1.1; omega, q.1.2, q.2⟩⟩
theorem IsOrdinal_eq (k : Nat) (a : T) (hk : a.size < k) (hc : a.size ≤ cap) : impl_IsOrdinal k a.rows = some (ordP a) := by
  obtain ⟨r, e, s, _⟩ := at1_eq k a hk hc
  unfold impl_IsOrdinal
  rw [e, Option.bind_some]
  cases hb : ordP a with
  | true => rw [if_pos (s.2 hb)]
  | false => rw [if_neg (fun q => by rw [s.1 q] at hb; cases hb)]
theorem clone_loop {rec_ : Rw → Option Rw} {a : T} {K : Rw → Option Rw} (hr : ∀ e : T, e.size < a.size → rec_ e.rows = some e.rows) : ∀ (t : T) (acc : Rw), t.size ≤ a.size → acc.length + t.len ≤ cap → impl_cloneOrdinal_l0 rec_ a.rows K t.rows acc = K (acc ++ t.rows)
  | nil, acc, _, _ => by simp [rows, impl_cloneOrdinal_l0]
  | cons e c l, acc, hs, hl => by
    simp only [size, len] at hs hl
    simp only [rows, impl_cloneOrdinal_l0, cell_T, hr e (by omega), Option.bind_some]
    rw [if_pos (by omega), clone_loop hr l _ (by omega) (by simp; omega)]
    simp
theorem clone_eq : ∀ (k : Nat) (a : T), a.size < k → a.size ≤ cap → impl_cloneOrdinal k a.rows = some a.rows
  | 0, _, h, _ => absurd h (Nat.not_lt_zero _)
  | k + 1, a, h, hc => by
    have hl := a.len_size
    simp only [impl_cloneOrdinal, impl_cloneOrdinal_b]
    rw [if_pos (by rw [rows_len]; omega), clone_loop (fun e he => clone_eq k e (by omega) (by omega)) a [] (Nat.le_refl _) (by simp; omega)]
    simp
def toldT (t : T) : T × Bool := if ordP t then (t, true) else (nil, false)
/-! ### spec's check -/
theorem left_loop {rec_ : Rw → Int → Int → Option Int} {a : T} {depth : Int} (hd : 0 ≤ depth ∧ depth ≤ 6) (hr : ∀ (e : T) (v : Int), e.size < a.size → 0 < depth → -1 ≤ v → v ≤ 60 → ∃ r, rec_ e.rows (depth - 1) v = some r ∧ -2 ≤ r ∧ r ≤ 60 ∧ (1 + nodesL e ≤ v ∧ dp e ≤ depth - 1 → r = v - 1 - nodesL e) ∧ (¬ (1 + nodesL e ≤ v ∧ dp e ≤ depth - 1) → r < 0)) :
    ∀ (t : T) (v : Int), t.size ≤ a.size → -2 ≤ v → v ≤ 60 → ∃ r, spec_odLeft_l0 rec_ a.rows depth (fun v => some v) t.rows v = some r ∧ -2 ≤ r ∧ r ≤ 60 ∧ (nodesL t ≤ v ∧ dp t ≤ depth → r = v - nodesL t) ∧ (¬ (nodesL t ≤ v ∧ dp t ≤ depth) → r < 0)
  | nil, v, _, v0, v60 => ⟨v, rfl, v0, v60, fun _ => by simp [nodesL], fun h => by simp only [nodesL, dp] at h; omega⟩
  | cons e c l, v, hs, v0, v60 => by
    simp only [size] at hs
    simp only [rows, spec_odLeft_l0, cell_T]
    by_cases h1 : v < 0
    · rw [if_pos h1]
      exact ⟨-1, rfl, by omega, by omega, fun h => by simp only [nodesL] at h; omega, fun _ => by omega⟩
    · rw [if_neg h1]
      by_cases h2 : depth = 0
      · rw [if_pos h2]
        exact ⟨-1, rfl, by omega, by omega, fun h => by simp only [dp] at h; omega, fun _ => by omega⟩
      · rw [if_neg h2, wid (n := depth - 1) (by omega) (by omega), wid (n := v - 1) (by omega) (by omega)]
        obtain ⟨r1, e1, p1, p2, p3, p4⟩ := hr e (v - 1) (by omega) (by omega) (by omega) (by omega)
        rw [e1, Option.bind_some]
        obtain ⟨r, er, q1, q2, q3, q4⟩ := left_loop hd hr l r1 (by omega) p1 p2
        refine ⟨r, er, q1, q2, fun h => ?_, fun h => ?_⟩
        · simp only [nodesL, dp] at h ⊢
          have e2 := p3 ⟨by omega, by omega⟩
          rw [q3 ⟨by omega, by omega⟩, e2]; omega
        · by_cases h3 : 1 + (nodesL e : Int) ≤ v - 1 ∧ dp e ≤ depth - 1
          · have e2 := p3 h3
            refine q4 fun q => h ?_
            simp only [nodesL, dp]
            omega
          · exact q4 fun q => by have := p4 h3; omega
theorem left_eq : ∀ (k : Nat) (a : T) (depth v : Int), a.size < k → a.size ≤ cap → 0 ≤ depth → depth ≤ 6 → -1 ≤ v → v ≤ 60 →
    ∃ r, spec_odLeft k a.rows depth v = some r ∧ -2 ≤ r ∧ r ≤ 60 ∧ (1 + nodesL a ≤ v ∧ dp a ≤ depth → r = v - 1 - nodesL a) ∧ (¬ (1 + nodesL a ≤ v ∧ dp a ≤ depth) → r < 0)
  | 0, _, _, _, h, _, _, _, _, _ => absurd h (Nat.not_lt_zero _)
  | k + 1, a, depth, v, h, hc, d0, d6, v0, v60 => by
    have hl := a.len_size
    simp only [spec_odLeft, spec_odLeft_b]
    rw [if_pos (by rw [rows_len]; omega), wid (n := v - 1) (by omega) (by omega)]
    obtain ⟨r, er, q1, q2, q3, q4⟩ := left_loop (rec_ := spec_odLeft k) (a := a) (depth := depth) ⟨d0, d6⟩ (fun e u he hd u0 u60 => left_eq k e (depth - 1) u (by omega) (by omega) (by omega) (by omega) u0 u60) a (v - 1) (Nat.le_refl _) (by omega) (by omega)
    exact ⟨r, er, q1, q2, fun q => q3 ⟨by omega, q.2⟩, fun q => q4 fun u => q ⟨by omega, u.2⟩⟩
theorem form_loop {k : Nat} {rec_ : Rw → Int → Option Bool} {a : T} {depth : Int} (hd : 0 ≤ depth ∧ depth ≤ 6) (hk : a.size ≤ k) (hc : a.size ≤ cap) (ha : calm a)
    (hr : ∀ e : T, e.size < a.size → calm e → rec_ e.rows (depth - 1) = some (decide ((dp e : Int) ≤ depth - 1) && formA none e)) :
    ∀ (t : T) (i : Nat), drop a i = t → i ≤ a.len → spec_odForm_l0 k rec_ a.rows depth spec_odForm_p3 t.rows i = some (decide ((dp t : Int) ≤ depth) && formA (ahead a i) t)
  | nil, i, hdr, hi => by
    have : decide ((dp nil : Int) ≤ depth) = true := decide_eq_true (by simp only [dp]; omega)
    rw [this]; rfl
  | cons e c l, i, hdr, hi => by
    have hs := drop_cons_size hdr
    have hca := calm_drop ha (i := i)
    rw [hdr] at hca
    simp only [rows, spec_odForm_l0, cell_T, l1In_eq, Option.bind_some]
    by_cases h2 : (decide (1 ≤ c) && decide (c ≤ 1000000)) = true
    · rw [if_pos h2, wid (n := depth - 1) (by omega) (by omega), hr e (by omega) hca.1, Option.bind_some]
      by_cases h3 : (decide ((dp e : Int) ≤ depth - 1) && formA none e) = true
      · rw [if_pos h3]
        simp only [Bool.and_eq_true, decide_eq_true_eq] at h3
        have go : ∀ (hp : (match ahead a i with | none => true | some q => decide (0 < cmpT q e)) = true), spec_odForm_l0 k rec_ a.rows depth spec_odForm_p3 l.rows (i + 1) = some (decide ((dp (cons e c l) : Int) ≤ depth) && formA (ahead a i) (cons e c l)) := by
          intro hp
          rw [form_loop hd hk hc ha hr l (i + 1) (drop_succ hdr) (drop_lt hdr), ahead_succ hdr]
          have e1 : decide ((dp (cons e c l) : Int) ≤ depth) = decide ((dp l : Int) ≤ depth) := by simp only [dp]; congr 1; apply propext; omega
          have h6 : formA (ahead a i) (cons e c l) = formA (some e) l := by
            simp only [formA, h2, h3.2, Bool.true_and]
            cases hq : ahead a i with
            | none => simp
            | some q => rw [hq] at hp; simp only at hp; simp [hp]
          rw [e1, h6]
        by_cases h4 : (0 : Int) < (i : Int)
        · obtain ⟨q, qc, ql, hq, ha'⟩ := ahead_some (t := a) (i := i) (by omega) hi
          have hqs := drop_cons_size hq
          have hcq := calm_drop ha (i := i - 1)
          rw [hq] at hcq
          rw [if_pos h4, wid (n := (i : Int) - 1) (by omega) (by have := a.len_size; have : cap = 1099511627776 := rfl; omega), row_T (n := i - 1) (by omega) hq, odCmp_eq k q e hcq.1 hca.1 (by omega) (by omega), Option.bind_some]
          by_cases h5 : cmpT q e ≤ 0
          · rw [if_pos h5]
            have : decide (0 < cmpT q e) = false := by simpa using h5
            simp [formA, ha', this]
          · rw [if_neg h5]
            exact go (by rw [ha']; simp; omega)
        · rw [if_neg h4]
          have : i = 0 := by omega
          subst this
          exact go rfl
      · rw [if_neg h3]
        have : (decide ((dp (cons e c l) : Int) ≤ depth) && formA (ahead a i) (cons e c l)) = false := by
          refine Bool.eq_false_iff.2 fun hx => h3 ?_
          rw [Bool.and_eq_true, decide_eq_true_eq] at hx ⊢
          obtain ⟨x1, x2⟩ := hx
          simp only [dp] at x1
          simp only [formA, Bool.and_eq_true] at x2
          exact ⟨by omega, x2.1.1.2⟩
        rw [this]
    · rw [if_neg h2]
      have : formA (ahead a i) (cons e c l) = false := by
        simp only [formA]
        cases hx : (decide (1 ≤ c) && decide (c ≤ 1000000)) with
        | true => exact absurd hx h2
        | false => simp
      rw [this, Bool.and_false]
theorem form_eq : ∀ (k : Nat) (a : T) (depth : Int), a.size < k → a.size ≤ cap → calm a → -1 ≤ depth → depth ≤ 6 → spec_odForm k a.rows depth = some (decide ((dp a : Int) ≤ depth) && formA none a)
  | 0, _, _, h, _, _, _, _ => absurd h (Nat.not_lt_zero _)
  | k + 1, a, depth, h, hc, ha, d0, d6 => by
    have hl := a.len_size
    simp only [spec_odForm, spec_odForm_b]
    by_cases h1 : depth < 0
    · rw [if_pos h1]
      have : decide ((dp a : Int) ≤ depth) = false := by simp; omega
      rw [this, Bool.false_and]
    · rw [if_neg h1, if_pos (by rw [rows_len]; omega), form_loop (a := a) (by omega) (by omega) hc ha (fun e he hce => form_eq k e (depth - 1) (by omega) (by omega) hce (by omega) (by omega)) a 0 (drop_zero a) (by omega)]
      rfl
theorem odGood_eq (k : Nat) (a : T) (h : a.size < k) (hc : a.size ≤ cap) (ha : calm a) : spec_odGood k a.rows = some (ordP a) := by
  unfold spec_odGood
  obtain ⟨r, er, q1, q2, q3, q4⟩ := left_eq k a 6 60 h hc (by omega) (by omega) (by omega) (by omega)
  rw [er, Option.bind_some]
  by_cases h1 : 1 + nodesL a ≤ 60 ∧ dp a ≤ 6
  · have := q3 ⟨by omega, by omega⟩
    rw [if_pos (by omega), form_eq k a 6 h hc ha (by omega) (by omega), Option.bind_some]
    have h2 : decide ((dp a : Int) ≤ 6) = true := by simp; omega
    simp only [ordP, h2, h1.1, h1.2, decide_true, Bool.true_and]
    cases formA none a <;> rfl
  · have := q4 (by omega)
    rw [if_neg (by omega)]
    have : ordP a = false := by
      cases hx : ordP a with
      | false => rfl
      | true => simp only [ordP, Bool.and_eq_true, decide_eq_true_eq] at hx; exact absurd hx.1 h1
    rw [this]
end Go.Proofs.Try

namespace Go.Proofs.Try
open Go Go.AX T
theorem fr_snocLen (l e : T) (c : Int) : (app l (cons e c nil)).len = l.len + 1 := by rw [len_app]; rfl
/-- Slices no longer than a machine has. -/
def fitT : T → Prop
  | nil => True
  | cons e c l => fitT e ∧ (e.len : Int) ≤ 9223372036854775807 ∧ fitT l
end Go.Proofs.Try

namespace Go.Proofs.Try
open Go Go.AX T
theorem fr_drop_app (l r : T) : drop (app l r) l.len = r := by
  induction l with
  | nil => simp [app, len]
  | cons e c l _ ih => exact ih
def mkT : T → Int → T
  | nil, _ => nil
  | cons e _ l, k => cons (mkT e k) (k + size e) (mkT l (k + size e + 1))
theorem mkT_len (t : T) (k : Int) : (mkT t k).len = t.len := by
  induction t generalizing k with
  | nil => rfl
  | cons e c l _ ih => simp [mkT, len, ih]
theorem mkT_size (t : T) (k : Int) : (mkT t k).size = t.size := by
  induction t generalizing k with
  | nil => rfl
  | cons e c l ihe ih => simp [mkT, size, ihe, ih]
theorem set_rows (l e e' r : T) (c c' : Int) : (app l (cons e c r)).rows.set l.len [D.sl e'.rows, D.int .i64 c'] = (app l (cons e' c' r)).rows := by
  rw [rows_app, rows_app, ← rows_len l, List.set_append_right (h := Nat.le_refl _), Nat.sub_self]; rfl
end Go.Proofs.Try

namespace Go.Proofs.Try
open Go Go.AX T
abbrev w (n : Int) : Int := IntKind.i64.wrap n
theorem drop_app (l r : T) : drop (app l r) l.len = r := by
  induction l with
  | nil => simp [app, len]
  | cons e c l _ ih => exact ih
theorem T.snoc (t : T) : t = nil ∨ ∃ l x c, t = app l (cons x c nil) := by
  induction t with
  | nil => exact .inl rfl
  | cons e c l _ ih =>
    rcases ih with rfl | ⟨l', x, d, rfl⟩
    · exact .inr ⟨nil, e, c, rfl⟩
    · exact .inr ⟨cons e c l', x, d, rfl⟩
theorem calm_app {a b : T} : calm (app a b) ↔ calm a ∧ calm b := by
  induction a with
  | nil => simp [app, calm]
  | cons e c l _ ih => simp only [app, calm, ih, and_assoc]
/-! ### impl's sum -/
def goP : T → T → Int → T → T
  | nil, f, d, m => cons f d m
  | cons e c l, f, d, m => if cmpT e f = 1 then cons e c (goP l f d m) else if cmpT e f = 0 then cons e (w (c + d)) m else goP l f d m
def plusT : T → T → T
  | a, nil => a
  | a, cons f d m => goP a f d m
theorem goP_size (a f : T) (d : Int) (m : T) : (goP a f d m).size ≤ a.size + f.size + m.size + 1 := by
  induction a with
  | nil => simp [goP, size]
  | cons e c l _ ih =>
    simp only [goP]
    split
    · simp only [size]; omega
    · split
      · simp only [size]; omega
      · simp only [size]; omega
theorem plusT_size (a b : T) : (plusT a b).size ≤ a.size + b.size := by
  cases b with
  | nil => simp [plusT]
  | cons f d m => simp only [plusT, size]; have := goP_size a f d m; omega
theorem calm_less {a b : T} (h : ordP a = true) : True := trivial
theorem form_calm {p : Option T} {t : T} (h : formA p t = true) : calm t := by
  induction t generalizing p with
  | nil => trivial
  | cons e c l ihe ihl =>
    simp only [formA, Bool.and_eq_true, decide_eq_true_eq] at h
    obtain ⟨⟨⟨⟨h1, h2⟩, h3⟩, _⟩, h5⟩ := h
    exact ⟨ihe h3, by omega, ihl h5⟩
theorem ordP_form {t : T} (h : ordP t = true) : formA none t = true := by
  simp only [ordP, Bool.and_eq_true] at h; exact h.2
theorem form_any {p : Option T} {t : T} (h : formA p t = true) : formA none t = true := by
  cases t with
  | nil => rfl
  | cons e c l =>
    simp only [formA, Bool.and_eq_true] at h ⊢
    exact ⟨⟨⟨h.1.1.1, h.1.1.2⟩, trivial⟩, h.2⟩
end Go.Proofs.Try

namespace Go.Proofs.Try
open Go Go.AX T
/-- Without the terms at the end that are less than w^e. -/
def popT : T → T → T
  | nil, _ => nil
  | cons x c l, e => match popT l e with
    | nil => if cmpT x e < 0 then nil else cons x c nil
    | cons y d m => cons x c (cons y d m)
/-- A term added at the end. -/
def addL : T → T → Int → T
  | nil, e, d => cons e d nil
  | cons x c l, e, d => match l with
    | nil => if cmpT x e = 0 then cons x (w (c + d)) nil else cons x c (cons e d nil)
    | cons _ _ _ => cons x c (addL l e d)
def splus : T → T → T
  | a, nil => a
  | a, cons f d m => splus (addL (popT a f) f d) m
theorem popT_snoc (l x : T) (c : Int) (e : T) : popT (app l (cons x c nil)) e = if cmpT x e < 0 then popT l e else app l (cons x c nil) := by
  induction l with
  | nil => simp [app, popT]
  | cons y d l _ ih =>
    by_cases h : cmpT x e < 0
    · rw [if_pos h] at ih ⊢
      simp only [app, popT]
      rw [ih]
    · rw [if_neg h] at ih ⊢
      simp only [app, popT]
      rw [ih]
      cases l <;> simp [app]
theorem addL_snoc (l x : T) (c : Int) (e : T) (d : Int) : addL (app l (cons x c nil)) e d = if cmpT x e = 0 then app l (cons x (w (c + d)) nil) else app (app l (cons x c nil)) (cons e d nil) := by
  induction l with
  | nil => simp only [app, addL]
  | cons y k l _ ih =>
    have : app l (cons x c nil) ≠ nil := by cases l <;> simp [app]
    simp only [app, addL]
    split
    · rename_i h; exact absurd h this
    · rename_i h
      rw [ih]
      split <;> rfl
theorem popT_size (a e : T) : (popT a e).size ≤ a.size := by
  induction a with
  | nil => simp [popT, size]
  | cons x c l _ ih =>
    simp only [popT]
    split
    · split <;> simp [size]
    · rename_i h; rw [h] at ih; simp only [size] at ih ⊢; omega
theorem addL_size (a e : T) (d : Int) : (addL a e d).size ≤ a.size + e.size + 1 := by
  induction a with
  | nil => simp [addL, size]
  | cons x c l _ ih =>
    simp only [addL]
    split
    · split <;> simp [size] <;> omega
    · simp only [size] at ih ⊢; omega
theorem splus_size (a b : T) : (splus a b).size ≤ a.size + b.size := by
  induction b generalizing a with
  | nil => simp [splus, size]
  | cons f d m _ ih =>
    have h1 := ih (addL (popT a f) f d)
    have h2 := addL_size (popT a f) f d
    have h3 := popT_size a f
    simp only [splus, size] at *; omega
/-- Coefficients within a bound. -/
def sm (B : Int) : T → Prop
  | nil => True
  | cons e c l => sm B e ∧ (-B ≤ c ∧ c ≤ B) ∧ sm B l
theorem sm_calm {B : Int} {t : T} (h : sm B t) (hB : B ≤ 1000000000000000) : calm t := by
  induction t with
  | nil => trivial
  | cons e c l ihe ihl => exact ⟨ihe h.1, by have := h.2.1; omega, ihl h.2.2⟩
theorem sm_mono {B C : Int} {t : T} (h : sm B t) (hB : B ≤ C) : sm C t := by
  induction t with
  | nil => trivial
  | cons e c l ihe ihl => exact ⟨ihe h.1, by have := h.2.1; omega, ihl h.2.2⟩
theorem sm_app {B : Int} {a b : T} : sm B (app a b) ↔ sm B a ∧ sm B b := by
  induction a with
  | nil => simp [app, sm]
  | cons e c l _ ih => simp only [app, sm, ih, and_assoc]
theorem sm_pop {B : Int} {a e : T} (h : sm B a) : sm B (popT a e) := by
  induction a with
  | nil => trivial
  | cons x c l _ ih =>
    have ih := ih h.2.2
    simp only [popT]
    split
    · split
      · trivial
      · exact ⟨h.1, h.2.1, trivial⟩
    · rename_i hq; rw [hq] at ih; exact ⟨h.1, h.2.1, ih⟩
theorem sm_addL {B C : Int} {a e : T} {d : Int} (h : sm B a) (he : sm C e) (hd : -C ≤ d ∧ d ≤ C) (hB : 0 ≤ B ∧ 0 ≤ C ∧ B + C ≤ 1000000000000000) : sm (B + C) (addL a e d) := by
  induction a with
  | nil => exact ⟨sm_mono he (by omega), by omega, trivial⟩
  | cons x c l _ ih =>
    obtain ⟨h1, h2, h3⟩ := h
    simp only [addL]
    split
    · split
      · refine ⟨sm_mono h1 (by omega), ?_, trivial⟩
        show _ ≤ w (c + d) ∧ w (c + d) ≤ _
        rw [show w (c + d) = c + d from wid (by omega) (by omega)]; omega
      · exact ⟨sm_mono h1 (by omega), by omega, sm_mono he (by omega), by omega, trivial⟩
    · exact ⟨sm_mono h1 (by omega), by omega, ih h3⟩
theorem snoc_last (l x : T) (c : Int) : drop (app l (cons x c nil)) l.len = cons x c nil := drop_app l _
/-! ### right ones -/
theorem form_sm {p : Option T} {t : T} (h : formA p t = true) : sm 1000000 t := by
  induction t generalizing p with
  | nil => trivial
  | cons e c l ihe ihl =>
    simp only [formA, Bool.and_eq_true, decide_eq_true_eq] at h
    obtain ⟨⟨⟨⟨h1, h2⟩, h3⟩, _⟩, h5⟩ := h
    exact ⟨ihe h3, by omega, ihl h5⟩
/-- Exponents that fall, from below p on. -/
def falls : Option T → T → Prop
  | _, nil => True
  | p, cons e _ l => (∀ q, p = some q → 0 < cmpT q e) ∧ falls (some e) l
theorem form_falls {p : Option T} {t : T} (h : formA p t = true) : falls p t := by
  induction t generalizing p with
  | nil => trivial
  | cons e c l _ ihl =>
    simp only [formA, Bool.and_eq_true, decide_eq_true_eq] at h
    refine ⟨fun q hq => ?_, ihl h.2⟩
    subst hq
    simpa using h.1.2
theorem cmp_lt_of {a b c : T} (h1 : 0 < cmpT a b) (h2 : cmpT b c = 1 ∨ cmpT b c = 0) : 0 < cmpT a c := by
  rcases h2 with h2 | h2
  · have q1 : cmpT b a < 0 := by rw [cmpT_neg a b]; omega
    have q2 : cmpT c b < 0 := by rw [cmpT_neg b c]; omega
    have := cmpT_trans q2 q1
    rw [cmpT_neg c a]; omega
  · obtain rfl := cmpT_eq.1 h2; exact h1
/-- In falling terms, those ahead of a greater one are greater. -/
theorem goP_pop {a f : T} {d : Int} : ∀ {p : Option T}, falls p a → addL (popT a f) f d = goP a f d nil
  | p, h => by
    induction a generalizing p with
    | nil => rfl
    | cons e c l _ ih =>
      have h2 := h.2
      have key : ∀ {x : T}, falls (some x) l → cmpT x f ≤ 0 → popT l f = nil := by
        intro x hx hxf
        clear ih h h2
        induction l generalizing x with
        | nil => rfl
        | cons y k m _ ihm =>
          have hy := hx.1 x rfl
          have hyf : cmpT y f < 0 := by
            rcases cmpT_range x f with q | q | q
            · have q2 : cmpT y x < 0 := by rw [cmpT_neg x y]; omega
              exact cmpT_trans q2 (by omega)
            · obtain rfl := cmpT_eq.1 q
              rw [cmpT_neg x y]; omega
            · omega
          simp only [popT, ihm hx.2 (by omega), if_pos hyf]
      have ih := ih _ h2
      simp only [popT, goP]
      rcases cmpT_range e f with q | q | q
      · rw [key h2 (by omega)]
        have e1 : ¬ cmpT e f = 1 := by omega
        have e2 : ¬ cmpT e f = 0 := by omega
        simp only [if_neg e1, if_neg e2, if_pos (by omega : cmpT e f < 0)]
        rw [← ih, key h2 (by omega)]
      · rw [key h2 (by omega)]
        have e1 : ¬ cmpT e f = 1 := by omega
        simp only [if_neg e1, if_pos q, if_neg (by omega : ¬ cmpT e f < 0), addL]
      · simp only [if_pos q]
        rw [← ih]
        cases hq : popT l f with
        | nil =>
          simp only [if_neg (by omega : ¬ cmpT e f < 0), addL, if_neg (by omega : ¬ cmpT e f = 0)]
        | cons y k m => simp only [addL]
theorem goP_app {a f : T} {d : Int} {m : T} : goP a f d m = app (goP a f d nil) m := by
  induction a with
  | nil => rfl
  | cons e c l _ ih =>
    simp only [goP]
    split
    · simp only [app, ih]
    · split
      · rfl
      · exact ih
/-- What is less than all ahead of it is only added at the end. -/
theorem splus_end {a x : T} {c : Int} : ∀ {m : T}, falls (some x) m → splus (app a (cons x c nil)) m = app (app a (cons x c nil)) m
  | nil, _ => by simp [splus]
  | cons g k m, h => by
    have h1 := h.1 x rfl
    simp only [splus]
    rw [popT_snoc, if_neg (by omega), addL_snoc, if_neg (by omega)]
    rw [splus_end (a := app a (cons x c nil)) h.2, app_assoc (app a (cons x c nil))]
    rfl
theorem goP_snoc {a f : T} {d : Int} : ∃ l c, goP a f d nil = app l (cons f c nil) := by
  induction a with
  | nil => exact ⟨nil, d, rfl⟩
  | cons e c l _ ih =>
    obtain ⟨l', c', h⟩ := ih
    simp only [goP]
    split
    · exact ⟨cons e c l', c', by rw [h]; rfl⟩
    · split
      · rename_i q; obtain rfl := cmpT_eq.1 q; exact ⟨nil, _, rfl⟩
      · exact ⟨l', c', h⟩
theorem splus_plus {a b : T} (ha : falls none a) (hb : falls none b) : splus a b = plusT a b := by
  cases b with
  | nil => cases a <;> rfl
  | cons f d m =>
    simp only [splus, plusT]
    rw [goP_pop ha, goP_app (m := m)]
    obtain ⟨l, c, h⟩ := goP_snoc (a := a) (f := f) (d := d)
    rw [h]
    exact splus_end hb.2
theorem plusT_sm {B C : Int} {a b : T} (ha : sm B a) (hb : sm C b) (hB : 0 ≤ B ∧ 0 ≤ C ∧ B + C ≤ 1000000000000000) : sm (B + C) (plusT a b) := by
  cases b with
  | nil => exact sm_mono ha (by omega)
  | cons f d m =>
    simp only [plusT]
    have hm : sm (B + C) m := sm_mono hb.2.2 (by omega)
    induction a with
    | nil => exact ⟨sm_mono hb.1 (by omega), by have := hb.2.1; omega, hm⟩
    | cons e c l _ ih =>
      have h1 := ha.2.1
      have h2 := hb.2.1
      simp only [goP]
      split
      · exact ⟨sm_mono ha.1 (by omega), by omega, ih ha.2.2⟩
      · split
        · refine ⟨sm_mono ha.1 (by omega), ?_, hm⟩
          show _ ≤ w (c + d) ∧ w (c + d) ≤ _
          rw [show w (c + d) = c + d from wid (by omega) (by omega)]; omega
        · exact ih ha.2.2
def intT (n : Int) : T := if n = 0 then nil else cons nil n nil
theorem intT_size (n : Int) : (intT n).size ≤ 1 := by unfold intT; split <;> simp [size]
theorem intT_sm {n B : Int} (h : -B ≤ n ∧ n ≤ B) : sm B (intT n) := by
  unfold intT; split
  · trivial
  · exact ⟨trivial, h, trivial⟩
theorem snocRows (l e : T) (c : Int) : l.rows ++ [[D.sl e.rows, D.int .i64 c]] = (app l (cons e c nil)).rows := by rw [rows_app]; rfl
end Go.Proofs.Try

namespace Go.Proofs.Try
open Go Go.AX T
theorem form_loop_all {k : Nat} {rec_ : Rw → Int → Option Bool} {a : T} {depth : Int} (hd : 0 ≤ depth ∧ depth ≤ 6) (hk : a.size ≤ k) (hc : a.size ≤ cap)
    (hr : ∀ e : T, e.size < a.size → rec_ e.rows (depth - 1) = some (decide ((dp e : Int) ≤ depth - 1) && formA none e)) :
    ∀ (t : T) (i : Nat), drop a i = t → i ≤ a.len → (∀ q, ahead a i = some q → calm q) → spec_odForm_l0 k rec_ a.rows depth spec_odForm_p3 t.rows i = some (decide ((dp t : Int) ≤ depth) && formA (ahead a i) t)
  | nil, i, hdr, hi, _ => by
    have : decide ((dp nil : Int) ≤ depth) = true := decide_eq_true (by simp only [dp]; omega)
    rw [this]; rfl
  | cons e c l, i, hdr, hi, hcalm => by
    have hs := drop_cons_size hdr
    simp only [rows, spec_odForm_l0, cell_T, l1In_eq, Option.bind_some]
    by_cases h2 : (decide (1 ≤ c) && decide (c ≤ 1000000)) = true
    · rw [if_pos h2, wid (n := depth - 1) (by omega) (by omega), hr e (by omega), Option.bind_some]
      by_cases h3 : (decide ((dp e : Int) ≤ depth - 1) && formA none e) = true
      · rw [if_pos h3]
        simp only [Bool.and_eq_true, decide_eq_true_eq] at h3
        have hce := form_calm h3.2
        have go : ∀ (hp : (match ahead a i with | none => true | some q => decide (0 < cmpT q e)) = true), spec_odForm_l0 k rec_ a.rows depth spec_odForm_p3 l.rows (i + 1) = some (decide ((dp (cons e c l) : Int) ≤ depth) && formA (ahead a i) (cons e c l)) := by
          intro hp
          rw [form_loop_all hd hk hc hr l (i + 1) (drop_succ hdr) (drop_lt hdr) (by rw [ahead_succ hdr]; intro q hq; cases hq; exact hce), ahead_succ hdr]
          have e1 : decide ((dp (cons e c l) : Int) ≤ depth) = decide ((dp l : Int) ≤ depth) := by simp only [dp]; congr 1; apply propext; omega
          have h6 : formA (ahead a i) (cons e c l) = formA (some e) l := by
            simp only [formA, h2, h3.2, Bool.true_and]
            cases hq : ahead a i with
            | none => simp
            | some q => rw [hq] at hp; simp only at hp; simp [hp]
          rw [e1, h6]
        by_cases h4 : (0 : Int) < (i : Int)
        · obtain ⟨q, qc, ql, hq, ha'⟩ := ahead_some (t := a) (i := i) (by omega) hi
          have hqs := drop_cons_size hq
          have hcq := hcalm q ha'
          rw [if_pos h4, wid (n := (i : Int) - 1) (by omega) (by have := a.len_size; have : cap = 1099511627776 := rfl; omega), row_T (n := i - 1) (by omega) hq, odCmp_eq k q e hcq hce (by omega) (by omega), Option.bind_some]
          by_cases h5 : cmpT q e ≤ 0
          · rw [if_pos h5]
            have : decide (0 < cmpT q e) = false := by simpa using h5
            simp [formA, ha', this]
          · rw [if_neg h5]
            exact go (by rw [ha']; simp; omega)
        · rw [if_neg h4]
          have : i = 0 := by omega
          subst this
          exact go rfl
      · rw [if_neg h3]
        have : (decide ((dp (cons e c l) : Int) ≤ depth) && formA (ahead a i) (cons e c l)) = false := by
          refine Bool.eq_false_iff.2 fun hx => h3 ?_
          rw [Bool.and_eq_true, decide_eq_true_eq] at hx ⊢
          obtain ⟨x1, x2⟩ := hx
          simp only [dp] at x1
          simp only [formA, Bool.and_eq_true] at x2
          exact ⟨by omega, x2.1.1.2⟩
        rw [this]
    · rw [if_neg h2]
      have : formA (ahead a i) (cons e c l) = false := by
        simp only [formA]
        cases hx : (decide (1 ≤ c) && decide (c ≤ 1000000)) with
        | true => exact absurd hx h2
        | false => simp
      rw [this, Bool.and_false]
theorem form_all : ∀ (k : Nat) (a : T) (depth : Int), a.size < k → a.size ≤ cap → -1 ≤ depth → depth ≤ 6 → spec_odForm k a.rows depth = some (decide ((dp a : Int) ≤ depth) && formA none a)
  | 0, _, _, h, _, _, _ => absurd h (Nat.not_lt_zero _)
  | k + 1, a, depth, h, hc, d0, d6 => by
    have hl := a.len_size
    simp only [spec_odForm, spec_odForm_b]
    by_cases h1 : depth < 0
    · rw [if_pos h1]
      have : decide ((dp a : Int) ≤ depth) = false := by simp; omega
      rw [this, Bool.false_and]
    · rw [if_neg h1, if_pos (by rw [rows_len]; omega), form_loop_all (a := a) (by omega) (by omega) hc (fun e he => form_all k e (depth - 1) (by omega) (by omega) (by omega) (by omega)) a 0 (drop_zero a) (by omega) (by intro q hq; cases hq)]
      rfl
theorem odGood_all (k : Nat) (a : T) (h : a.size < k) (hc : a.size ≤ cap) : spec_odGood k a.rows = some (ordP a) := by
  unfold spec_odGood
  obtain ⟨r, er, q1, q2, q3, q4⟩ := left_eq k a 6 60 h hc (by omega) (by omega) (by omega) (by omega)
  rw [er, Option.bind_some]
  by_cases h1 : 1 + nodesL a ≤ 60 ∧ dp a ≤ 6
  · have := q3 ⟨by omega, by omega⟩
    rw [if_pos (by omega), form_all k a 6 h hc (by omega) (by omega), Option.bind_some]
    have h2 : decide ((dp a : Int) ≤ 6) = true := by simp; omega
    simp only [ordP, h2, h1.1, h1.2, decide_true, Bool.true_and]
    cases formA none a <;> rfl
  · have := q4 (by omega)
    rw [if_neg (by omega)]
    have : ordP a = false := by
      cases hx : ordP a with
      | false => rfl
      | true => simp only [ordP, Bool.and_eq_true, decide_eq_true_eq] at hx; exact absurd hx.1 h1
    rw [this]
end Go.Proofs.Try

namespace Go.Proofs.Try
open Go Go.AX T
theorem told_eq (k : Nat) (a : T) (h : a.size < k) (hc : a.size ≤ cap) : impl_told k a.rows = some ((toldT a).1.rows, (toldT a).2) := by
  unfold impl_told toldT
  rw [IsOrdinal_eq k a h hc, Option.bind_some]
  cases ordP a with
  | false => rfl
  | true => rw [if_pos rfl, clone_eq k a h hc]; rfl
end Go.Proofs.Try

namespace Go.Proofs.Try
open Go Go.AX T
def bytes (x : Rw) : Prop := ∀ r ∈ x, ∃ b : Int, r = [.int .u8 b] ∧ 0 ≤ b ∧ b < 256
/-- A drawn value: its place moves on by at most n. -/
def Drew {α : Type} (x : Rw) (a n : Int) (r : Option (α × Rw × Int × Int)) (Q : α → Prop) : Prop :=
  ∃ v a' c', r = some (v, x, a', c') ∧ 0 ≤ a' ∧ a' ≤ a + n ∧ Q v
theorem Drew.mono {α : Type} {x : Rw} {a n m : Int} {r : Option (α × Rw × Int × Int)} {Q : α → Prop} (h : Drew x a n r Q) (hn : n ≤ m) : Drew x a m r Q := by
  obtain ⟨v, a', c', e, h1, h2, h3⟩ := h
  exact ⟨v, a', c', e, h1, by omega, h3⟩
theorem Drew.bind {α β : Type} {x : Rw} {a n m : Int} {r : Option (α × Rw × Int × Int)} {Q : α → Prop} {S : β → Prop} {F : α × Rw × Int × Int → Option (β × Rw × Int × Int)} (h : Drew x a n r Q)
    (hF : ∀ v a' c', 0 ≤ a' → a' ≤ a + n → Q v → Drew x a' m (F (v, x, a', c')) S) : Drew x a (n + m) (r.bind F) S := by
  obtain ⟨v, a', c', e, h1, h2, h3⟩ := h
  obtain ⟨u, a2, c2, e2, q1, q2, q3⟩ := hF v a' c' h1 h2 h3
  exact ⟨u, a2, c2, by rw [e, Option.bind_some, e2], q1, by omega, q3⟩
theorem and255 (n : Nat) (b : BitVec n) : (b &&& BitVec.ofInt n 255).toNat ≤ 255 := by
  rw [BitVec.toNat_and]
  refine Nat.le_trans Nat.and_le_right ?_
  rw [BitVec.toNat_ofInt]
  show (((255 : Nat) : Int) % ((2 ^ n : Nat) : Int)).toNat ≤ 255
  rw [← Int.natCast_emod, Int.toNat_natCast]
  exact Nat.mod_le _ _
theorem next_ok {x : Rw} {a c : Int} (hx : bytes x) (h0 : 0 ≤ a) (h1 : a ≤ 1000000000) : Drew x a 1 (spec_l1Cur_next x a c) (fun v => 0 ≤ v ∧ v < 256) := by
  have e1 : IntKind.i64.wrap (a + 1) = a + 1 := wid (by omega) (by omega)
  have big : ∀ b : BitVec (IntKind.u64).bits, 0 ≤ IntKind.i64.wrap (IntKind.u64.wrap (b &&& BitVec.ofInt (IntKind.u64).bits 255).toNat) ∧ IntKind.i64.wrap (IntKind.u64.wrap (b &&& BitVec.ofInt (IntKind.u64).bits 255).toNat) < 256 := by
    intro b
    have := and255 _ b
    generalize (b &&& BitVec.ofInt (IntKind.u64).bits 255).toNat = n at *
    have e2 : IntKind.u64.wrap (n : Int) = n := by
      show ((n : Int)) % 18446744073709551616 = n
      omega
    rw [e2, wid (by omega) (by omega)]; omega
  unfold spec_l1Cur_next
  rw [e1]
  by_cases g : a < (x.length : Int)
  · rw [if_pos g]
    obtain ⟨n, rfl⟩ : ∃ n : Nat, a = n := ⟨a.toNat, by omega⟩
    have hn : n < x.length := by omega
    obtain ⟨b, hb, hb0, hb1⟩ := hx x[n] (List.getElem_mem hn)
    have e3 : ∀ {α : Type} (K : Int → Option α), row_iu8 x (n : Int) K = K b := by
      intro α K
      unfold row_iu8
      rw [if_pos (by omega), Int.toNat_natCast, List.getElem?_eq_getElem hn, hb]
      rfl
    rw [e3, if_pos (by omega)]
    exact ⟨_, _, _, rfl, by omega, by omega, by rw [wid (by omega) (by omega)]; omega⟩
  · rw [if_neg g]
    split
    · exact ⟨_, _, _, rfl, by omega, by omega, by omega⟩
    · exact ⟨_, _, _, rfl, by omega, by omega, big _⟩
theorem pick_ok {x : Rw} {a c m : Int} (hx : bytes x) (h0 : 0 ≤ a) (h1 : a ≤ 100000000) (hm : 1 ≤ m) : Drew x a 2 (spec_l1Cur_pick x a c m) (fun v => 0 ≤ v ∧ v < m) := by
  unfold spec_l1Cur_pick
  by_cases g : m ≤ 1
  · rw [if_pos g]; exact ⟨_, _, _, rfl, h0, by omega, by omega⟩
  · rw [if_neg g]
    refine Drew.bind (n := 1) (m := 1) (next_ok hx h0 (by omega)) fun v a' c' q1 q2 q3 => ?_
    have tm : ∀ u : Int, 0 ≤ u → 0 ≤ u.tmod m ∧ u.tmod m < m := fun u hu => ⟨Int.tmod_nonneg _ hu, Int.tmod_lt_of_pos _ (by omega)⟩
    by_cases g2 : 200 < m
    · rw [if_pos g2]
      refine Drew.mono (Drew.bind (n := 1) (m := 0) (next_ok hx q1 (by omega)) fun v2 a2 c2 p1 p2 p3 => ?_) (by omega)
      rw [if_pos (by omega)]
      refine ⟨_, a2, _, rfl, p1, by omega, tm _ ?_⟩
      have e1 : IntKind.i64.wrap (v * 256) = v * 256 := wid (by omega) (by omega)
      show 0 ≤ IntKind.i64.wrap (IntKind.i64.wrap (v * 256) + v2)
      rw [e1, wid (by omega) (by omega)]; omega
    · rw [if_neg g2, if_pos (by omega)]
      exact ⟨_, a', _, rfl, q1, by omega, tm _ q3.1⟩
theorem among_ok {x : Rw} {a c : Int} {es : Rw} {Q : Int → Prop} (hx : bytes x) (h0 : 0 ≤ a) (h1 : a ≤ 100000000) (he : 1 ≤ es.length) (hQ : ∀ r ∈ es, ∃ i, r = [.int .i64 i] ∧ Q i) : Drew x a 2 (spec_l1Cur_among x a c es) Q := by
  unfold spec_l1Cur_among
  refine Drew.mono (Drew.bind (n := 2) (m := 0) (pick_ok hx h0 h1 (by omega)) fun v a' c' q1 q2 q3 => ?_) (by omega)
  obtain ⟨n, rfl⟩ : ∃ n : Nat, v = n := ⟨v.toNat, by omega⟩
  have hn : n < es.length := by omega
  obtain ⟨i, hi, hq⟩ := hQ es[n] (List.getElem_mem hn)
  have e3 : ∀ {α : Type} (K : Int → Option α), row_i es (n : Int) K = K i := by
    intro α K
    unfold row_i
    rw [if_pos (by omega), Int.toNat_natCast, List.getElem?_eq_getElem hn, hi]
    rfl
  show Drew x a' 0 (row_i es (n : Int) _) Q
  rw [e3]
  exact ⟨_, a', _, rfl, q1, by omega, hq⟩
theorem one_ok {x : Rw} {a c m : Int} (hx : bytes x) (h0 : 0 ≤ a) (h1 : a ≤ 100000000) (hm : 1 ≤ m) : Drew x a 2 (spec_l1Cur_one x a c m) (fun _ => True) := by
  unfold spec_l1Cur_one
  refine Drew.mono (Drew.bind (n := 2) (m := 0) (pick_ok hx h0 h1 hm) fun v a' c' q1 q2 q3 => ?_) (by omega)
  split <;> exact ⟨_, a', _, rfl, q1, by omega, trivial⟩
/-- What meet has yet to add. -/
def due (f : Bool) (e : T) : Nat := cond f 0 (e.size + 1)
end Go.Proofs.Try

namespace Go.Proofs.Try
open Go Go.AX T
/-! ### copies -/
def addT (a b : T) : T × Bool := if ordP a && ordP b then toldT (plusT a b) else (nil, false)
def cmpO (a b : T) : Int × Bool := if ordP a && ordP b then (cmpT a b, true) else (0, false)
/-! ### the same -/
theorem addT_ok {a b : T} (h : (addT a b).2 = true) : ordP a = true ∧ ordP b = true ∧ ordP (plusT a b) = true ∧ (addT a b).1 = plusT a b := by
  unfold addT toldT at *
  cases ha : ordP a <;> cases hb : ordP b <;> simp only [ha, hb, Bool.and_self, Bool.and_true, Bool.and_false, if_true] at h ⊢ <;> try (simp at h)
  cases hs : ordP (plusT a b) <;> simp [hs] at h ⊢
theorem addT_of {a b : T} (ha : ordP a = true) (hb : ordP b = true) (hs : ordP (plusT a b) = true) : addT a b = (plusT a b, true) := by
  unfold addT toldT
  rw [ha, hb, Bool.and_self, if_pos rfl, if_pos hs]
end Go.Proofs.Try

namespace Go.Proofs.Try
open Go Go.AX
abbrev L8 := List UInt8
def bA (l : L8) : ByteArray := ⟨l.toArray⟩
theorem bA_data (l : L8) : (bA l).data.toList = l := by simp [bA]
theorem bA_size (l : L8) : (bA l).size = l.length := by rw [Lib.size_eq, bA_data]
theorem bA_toList (l : L8) : (bA l).toList = l := by rw [ByteArray.toList_eq, bA_data]
theorem bA_inj {a b : ByteArray} (h : a.data.toList = b.data.toList) : a = b := by
  cases a; cases b; simp only [ByteArray.mk.injEq]; exact Array.toList_inj.1 h
theorem bA_app (a b : L8) : bA a ++ bA b = bA (a ++ b) := by
  apply bA_inj
  rw [ByteArray.data_append, Array.toList_append, bA_data, bA_data, bA_data]
theorem bA_nil : ByteArray.mk #[] = bA [] := rfl
theorem bA_43 : ByteArray.mk #[43] = bA [43] := rfl
theorem bA_42 : ByteArray.mk #[42] = bA [42] := rfl
theorem bA_41 : ByteArray.mk #[41] = bA [41] := rfl
theorem bA_45 : ByteArray.mk #[45] = bA [45] := rfl
theorem bA_47 : ByteArray.mk #[47] = bA [47] := rfl
theorem bA_48 : ByteArray.mk #[48] = bA [48] := rfl
theorem bA_94 : ByteArray.mk #[94, 40] = bA [94, 40] := rfl
theorem bA_119 : ByteArray.mk #[119] = bA [119] := rfl
theorem u8_lt {n : Int} (h0 : 0 ≤ n) (h1 : n ≤ 255) : IntKind.u8.wrap n = n := by
  simp only [IntKind.wrap, IntKind.bits, IntKind.signed]
  simp
  omega
theorem strD_one {n : Int} (h0 : 0 ≤ n) (h1 : n ≤ 9) : strD [[.int .u8 (IntKind.u8.wrap (IntKind.i64.wrap (48 + n)))]] = some (bA [UInt8.ofNat (48 + n.toNat)]) := by
  rw [wrap_in (by omega) (by omega), u8_lt (by omega) (by omega)]
  have : (48 + n).toNat = 48 + n.toNat := by omega
  simp only [strD, strN, Option.map_some, List.foldl_cons, List.foldl_nil, this]
  rfl
theorem dec_len {u : Nat} (hu : u ≤ 1000000000000000) : (Lib.decDigits u).length ≤ 21 := by
  have := Lib.itoa_length_le (u : Int) (by omega) (by omega)
  unfold Lib.itoa at this
  rwa [if_neg (by omega), show ((u : Int)).toNat = u by omega] at this
theorem dec_ne (u : Nat) : Lib.decDigits u ≠ [] := by
  rw [Lib.decDigits]
  split <;> simp
end Go.Proofs.Try

namespace Go.Proofs.Try
open Go Go.AX T
def joinP : List L8 → L8
  | [] => [48]
  | p :: r => p ++ Lib.joinTail [43] r
def one1 : T := cons nil 1 nil
def partT (w te : L8) (e : T) (c : Int) : L8 :=
  match e with
  | nil => Lib.decDigits c.toNat
  | cons _ _ _ => (w ++ (if cmpT e one1 = 0 then [] else [94, 40] ++ te ++ [41])) ++ (if c = 1 then [] else [42] ++ Lib.decDigits c.toNat)
def partsT (w : L8) : T → List L8
  | nil => []
  | cons e c l => partT w (joinP (partsT w e)) e c :: partsT w l
def textT (w : L8) (t : T) : L8 := joinP (partsT w t)
theorem tail_cons (p : L8) (r : List L8) : Lib.joinTail [43] (p :: r) = 43 :: (p ++ Lib.joinTail [43] r) := by simp [Lib.joinTail]
/-- How long a text may be. -/
def roomT (w : L8) (t : T) : Nat := (w.length + 30) * t.size
theorem roomT_cons (w : L8) (e : T) (c : Int) (l : T) : roomT w (cons e c l) = roomT w e + roomT w l + (w.length + 30) := by
  simp only [roomT, size, Nat.mul_add, Nat.mul_one]
theorem partT_len {w te : L8} {e : T} {c : Int} (h1 : 1 ≤ c) (h2 : c ≤ 1000000) : (partT w te e c).length ≤ te.length + w.length + 28 := by
  have hd := dec_len (u := c.toNat) (by omega)
  have hc : (if c = 1 then ([] : L8) else [42] ++ Lib.decDigits c.toNat).length ≤ 22 := by
    split
    · simp
    · simp only [List.length_append, List.length_cons, List.length_nil]; omega
  cases e with
  | nil => simp only [partT]; omega
  | cons e0 c0 l0 =>
    simp only [partT, List.length_append]
    have : (if cmpT (cons e0 c0 l0) one1 = 0 then ([] : L8) else [94, 40] ++ te ++ [41]).length ≤ te.length + 3 := by
      split
      · simp
      · simp only [List.length_append, List.length_cons, List.length_nil]; omega
    omega
theorem parts_len {w : L8} : ∀ {t : T} {p : Option T}, formA p t = true → (Lib.joinTail [43] (partsT w t)).length ≤ roomT w t
  | nil, _, _ => by simp [partsT, Lib.joinTail]
  | cons e c l, p, h => by
    simp only [formA, Bool.and_eq_true, decide_eq_true_eq] at h
    obtain ⟨⟨⟨⟨h1, h2⟩, h3⟩, _⟩, h4⟩ := h
    have he := parts_len (w := w) h3
    have hl := parts_len (w := w) h4
    have hd := dec_len (u := c.toNat) (by omega)
    have hj : (joinP (partsT w e)).length ≤ roomT w e + 1 := by
      cases hq : partsT w e with
      | nil => simp [joinP]
      | cons q r =>
        rw [hq, tail_cons] at he
        simp only [joinP, List.length_cons, List.length_append] at he ⊢
        omega
    have hp := partT_len (w := w) (te := joinP (partsT w e)) (e := e) h1 h2
    rw [roomT_cons]
    simp only [partsT, tail_cons, List.length_cons, List.length_append]
    omega
theorem join_len {w : L8} {t : T} {p : Option T} (h : formA p t = true) : (textT w t).length ≤ roomT w t + 1 := by
  have := parts_len (w := w) h
  unfold textT
  cases hq : partsT w t with
  | nil => simp [joinP]
  | cons q r =>
    rw [hq, tail_cons] at this
    simp only [joinP, List.length_cons, List.length_append] at this ⊢
    omega
end Go.Proofs.Try

namespace Go.Proofs.Try
open Go Go.AX T
def zerT : T → Bool
  | nil => true
  | cons _ _ _ => false
theorem calm_one : calm one1 := by simp [one1, calm]
theorem calm_form : ∀ {t : T} {p : Option T}, formA p t = true → calm t
  | nil, _, _ => trivial
  | cons e c l, p, h => by
    simp only [formA, Bool.and_eq_true, decide_eq_true_eq] at h
    obtain ⟨⟨⟨⟨h1, h2⟩, h3⟩, _⟩, h4⟩ := h
    exact ⟨calm_form h3, ⟨by omega, by omega⟩, calm_form h4⟩
theorem txe (te : L8) : ((bA [94, 40]) ++ bA te) ++ bA [41] = bA ([94, 40] ++ te ++ [41]) := by rw [bA_app, bA_app]
theorem room_e {w : L8} {t e : T} (h : e.size ≤ t.size) : roomT w e ≤ roomT w t := Nat.mul_le_mul_left _ h
/-! ### the program -/
def rowsP (ps : List L8) : Rw := ps.map fun p => [D.str (bA p)]
theorem rowsP_snoc (acc : List L8) (p : L8) : rowsP acc ++ [[D.str (bA p)]] = rowsP (acc ++ [p]) := by simp [rowsP]
theorem strsD_rows : ∀ ps : List L8, strsD (rowsP ps) = some (ps.map bA)
  | [] => rfl
  | p :: ps => by
    have := strsD_rows ps
    simp only [rowsP, List.map_cons, strsD] at this ⊢
    rw [this]
theorem joinP_join : ∀ {ps : List L8}, ps ≠ [] → Lib.join ps [43] = joinP ps
  | [], h => absurd rfl h
  | p :: r, _ => Lib.join_cons p r [43]
theorem parts_count {w : L8} : ∀ t : T, (partsT w t).length = t.len
  | nil => rfl
  | cons e c l => by simp only [partsT, List.length_cons, len, parts_count l]
end Go.Proofs.Try

namespace Go.Proofs.Try
open Go Go.AX T
/-- The digit of n at the place i. -/
def dg (b n i : Nat) : Nat := n / b ^ i % b
/-- The terms of the digits below the place m; H gives the exponents. -/
def lowT (b : Nat) (H : Nat → T) (n : Nat) : Nat → T
  | 0 => nil
  | m + 1 => if dg b n m = 0 then lowT b H n m else cons (H m) (dg b n m : Int) (lowT b H n m)
def herF : Nat → Nat → Nat → T
  | 0, _, _ => nil
  | f + 1, b, n => lowT b (herF f b) n n
/-- The hereditary form of n to the base b. -/
def her (b n : Nat) : T := herF (n + 1) b n
theorem lowT_congr {b n : Nat} {H H' : Nat → T} : ∀ {m : Nat}, (∀ i, i < m → H i = H' i) → lowT b H n m = lowT b H' n m
  | 0, _ => rfl
  | m + 1, h => by
    simp only [lowT]
    rw [lowT_congr (m := m) fun i hi => h i (by omega), h m (by omega)]
theorem herF_eq {b : Nat} : ∀ (f f' n : Nat), n < f → n < f' → herF f b n = herF f' b n
  | 0, _, _, h, _ => absurd h (Nat.not_lt_zero _)
  | _ + 1, 0, _, _, h => absurd h (Nat.not_lt_zero _)
  | f + 1, f' + 1, n, h, h' => lowT_congr fun i hi => herF_eq f f' i (by omega) (by omega)
theorem her_eq (b n : Nat) : her b n = lowT b (her b) n n := lowT_congr fun i hi => herF_eq n (i + 1) i hi (by omega)
theorem dg_zero {b n i : Nat} (h : n < b ^ i) : dg b n i = 0 := by
  unfold dg
  rw [Nat.div_eq_of_lt h, Nat.zero_mod]
theorem lowT_stop {b n m : Nat} {H : Nat → T} (hb : 2 ≤ b) (h : n < b ^ m) : ∀ j, lowT b H n (m + j) = lowT b H n m
  | 0 => rfl
  | j + 1 => by
    have : n < b ^ (m + j) := Nat.lt_of_lt_of_le h (Nat.pow_le_pow_right (by omega) (by omega))
    show (if dg b n (m + j) = 0 then lowT b H n (m + j) else _) = _
    rw [if_pos (dg_zero this), lowT_stop hb h j]
theorem her_low {b n m : Nat} (hb : 2 ≤ b) (h : n < b ^ m) : her b n = lowT b (her b) n m := by
  have h1 := lowT_stop (H := her b) hb h n
  have h2 := lowT_stop (H := her b) hb (Nat.lt_pow_self (n := n) (show 1 < b by omega)) m
  rw [her_eq, ← h1, ← h2, Nat.add_comm]
theorem her_zero (b : Nat) : her b 0 = nil := rfl
/-! ### the order -/
theorem mod_split (b n m : Nat) : n % b ^ (m + 1) = n % b ^ m + b ^ m * dg b n m := Nat.mod_pow_succ
theorem low_lead {b n j : Nat} {H : Nat → T} (d : Int) (l : T) : ∀ {m : Nat}, (∀ i, i < m → cmpT (H i) (H j) = -1) → cmpT (lowT b H n m) (cons (H j) d l) = -1
  | 0, _ => rfl
  | m + 1, h => by
    simp only [lowT]
    split
    · exact low_lead d l fun i hi => h i (by omega)
    · simp only [cmpT, h m (by omega)]; rw [if_neg (by decide)]
theorem lowT_cmp {b a c : Nat} {H : Nat → T} (hb : 2 ≤ b) : ∀ {m : Nat}, (∀ i j, i < j → j < m → cmpT (H i) (H j) = -1) → (a % b ^ m < c % b ^ m → cmpT (lowT b H a m) (lowT b H c m) = -1) ∧ (a % b ^ m = c % b ^ m → lowT b H a m = lowT b H c m)
  | 0, _ => by simp [Nat.mod_one, lowT]
  | m + 1, h => by
    obtain ⟨i1, i2⟩ := lowT_cmp (a := a) (c := c) hb (m := m) fun i j hij hj => h i j hij (by omega)
    have hp : 0 < b ^ m := Nat.pow_pos (by omega)
    have ra : a % b ^ m < b ^ m := Nat.mod_lt _ hp
    have rc : c % b ^ m < b ^ m := Nat.mod_lt _ hp
    rw [mod_split, mod_split]
    simp only [lowT]
    generalize a % b ^ m = u at i1 i2 ra ⊢
    generalize c % b ^ m = v at i1 i2 rc ⊢
    generalize dg b a m = d
    generalize dg b c m = e
    have key : (d < e → b ^ m * d + b ^ m ≤ b ^ m * e) ∧ (e < d → b ^ m * e + b ^ m ≤ b ^ m * d) := by
      refine ⟨fun q => ?_, fun q => ?_⟩
      · have := Nat.mul_le_mul_left (b ^ m) (show d + 1 ≤ e by omega); rwa [Nat.mul_succ] at this
      · have := Nat.mul_le_mul_left (b ^ m) (show e + 1 ≤ d by omega); rwa [Nat.mul_succ] at this
    rcases Nat.lt_trichotomy d e with q | q | q
    · have k1 := key.1 q
      refine ⟨fun _ => ?_, fun g => by omega⟩
      rw [if_neg (show ¬ e = 0 by omega)]
      split
      · exact low_lead _ _ fun i hi => h i m hi (by omega)
      · have hI : cmpI (d : Int) (e : Int) = -1 := by unfold cmpI; rw [if_pos (by omega)]
        simp only [cmpT, cmpT_refl, if_true, hI]
        rw [if_neg (by decide)]
    · subst q
      refine ⟨fun g => ?_, fun g => by rw [i2 (by omega)]⟩
      have g1 := i1 (by omega)
      split
      · exact g1
      · simp only [cmpT, cmpT_refl, cmpI_refl, if_true]; exact g1
    · have k1 := key.2 q
      exact ⟨fun g => by omega, fun g => by omega⟩
theorem her_lt {b : Nat} (hb : 2 ≤ b) : ∀ (c a : Nat), a < c → cmpT (her b a) (her b c) = -1 := by
  intro c
  induction c using Nat.strongRecOn with
  | ind c ih =>
    intro a hac
    have hc : c < b ^ c := Nat.lt_pow_self (by omega)
    rw [her_low hb (show a < b ^ c by omega), her_low hb hc]
    refine (lowT_cmp (a := a) (c := c) hb fun i j hij hj => ih j hj i hij).1 ?_
    rw [Nat.mod_eq_of_lt (show a < b ^ c by omega), Nat.mod_eq_of_lt hc]
    exact hac
theorem cmp_gt {a b : T} (h : cmpT a b = -1) : 0 < cmpT b a := by
  have := cmpT_neg a b
  omega
theorem low_form {b n : Nat} {H : Nat → T} (hb : 2 ≤ b) (h9 : b ≤ 1000001) : ∀ {m : Nat} {p : Option T}, (∀ i j, i < j → j < m → cmpT (H i) (H j) = -1) → (∀ i, i < m → formA none (H i) = true) → (∀ i, i < m → (match p with | none => true | some q => decide (0 < cmpT q (H i))) = true) → formA p (lowT b H n m) = true
  | 0, _, _, _, _ => by simp [lowT, formA]
  | m + 1, p, hH, hF, hp => by
    simp only [lowT]
    split
    · exact low_form hb h9 (fun i j a c => hH i j a (by omega)) (fun i hi => hF i (by omega)) fun i hi => hp i (by omega)
    · rename_i hd
      have h1 : dg b n m < b := Nat.mod_lt _ (by omega)
      simp only [formA, Bool.and_eq_true, decide_eq_true_eq]
      refine ⟨⟨⟨⟨by omega, by omega⟩, hF m (by omega)⟩, hp m (by omega)⟩, ?_⟩
      refine low_form hb h9 (fun i j a c => hH i j a (by omega)) (fun i hi => hF i (by omega)) fun i hi => ?_
      simp only [decide_eq_true_eq]
      exact cmp_gt (hH i m hi (by omega))
theorem her_form {b : Nat} (hb : 2 ≤ b) (h9 : b ≤ 1000001) : ∀ n : Nat, formA none (her b n) = true := by
  intro n
  induction n using Nat.strongRecOn with
  | ind n ih =>
    rw [her_eq]
    exact low_form hb h9 (fun i j hij _ => her_lt hb j i hij) (fun i hi => ih i hi) fun i hi => rfl
/-! ### how large -/
theorem low_size {b n S : Nat} {H : Nat → T} : ∀ {m : Nat}, (∀ i, i < m → (H i).size ≤ S) → (lowT b H n m).size ≤ m * (S + 1)
  | 0, _ => by simp [lowT, size]
  | m + 1, h => by
    have := low_size (b := b) (n := n) (m := m) fun i hi => h i (by omega)
    have h1 := h m (by omega)
    rw [Nat.succ_mul]
    simp only [lowT]
    split
    · omega
    · simp only [size]; omega
theorem low_len {b n : Nat} {H : Nat → T} : ∀ {m : Nat}, (lowT b H n m).len ≤ m
  | 0 => by simp [lowT, len]
  | m + 1 => by
    have := low_len (b := b) (n := n) (H := H) (m := m)
    simp only [lowT]
    split
    · omega
    · simp only [len]; omega
theorem her_size {b n S : Nat} (L : Nat) (hb : 2 ≤ b) (h : n < 2 ^ L) (hs : ∀ i, i < L → (her b i).size ≤ S) : (her b n).size ≤ L * (S + 1) := by
  rw [her_low hb (Nat.lt_of_lt_of_le h (Nat.pow_le_pow_left hb L))]
  exact low_size hs
theorem her_small {b n : Nat} (hb : 2 ≤ b) (h : n ≤ 1000000) : (her b n).size ≤ 1620 := by
  have s0 : ∀ i, i < 1 → (her b i).size ≤ 0 := fun i hi => by
    have := her_size (b := b) (n := i) (S := 0) 0 hb (by omega) (fun j hj => by omega)
    omega
  have s1 : ∀ i, i < 2 → (her b i).size ≤ 1 := fun i hi => her_size (b := b) (n := i) 1 hb (by omega) s0
  have s2 : ∀ i, i < 4 → (her b i).size ≤ 4 := fun i hi => her_size (b := b) (n := i) 2 hb (by omega) s1
  have s3 : ∀ i, i < 8 → (her b i).size ≤ 15 := fun i hi => her_size (b := b) (n := i) 3 hb (by omega) fun j hj => s2 j (by omega)
  have s4 : ∀ i, i < 32 → (her b i).size ≤ 80 := fun i hi => her_size (b := b) (n := i) 5 hb (by omega) fun j hj => s3 j (by omega)
  exact her_size (b := b) (n := n) 20 hb (by omega) fun j hj => s4 j (by omega)
end Go.Proofs.Try

namespace Go.Proofs.Try
open Go Go.AX T
/-! ### the forms -/
theorem dg_int (b n i : Nat) : (((n / b ^ i : Nat) : Int)).tmod (b : Int) = (dg b n i : Int) := by
  rw [Int.tmod_eq_emod_of_nonneg (Int.natCast_nonneg _)]
  unfold dg
  exact (Int.natCast_emod _ _).symm
theorem nx_int (b n i : Nat) : (((n / b ^ i : Nat) : Int)).tdiv (b : Int) = ((n / b ^ (i + 1) : Nat) : Int) := by
  rw [Int.tdiv_eq_ediv_of_nonneg (Int.natCast_nonneg _), Nat.pow_succ, ← Nat.div_div_eq_div_mul]
  exact (Int.natCast_ediv _ _).symm
theorem dg_lt {b n i : Nat} (hb : 2 ≤ b) (h : dg b n i ≠ 0) : i < n := by
  have h1 : b ^ i ≤ n := by
    rcases Nat.lt_or_ge n (b ^ i) with g | g
    · exact absurd (dg_zero g) h
    · exact g
  exact Nat.lt_of_lt_of_le (Nat.lt_pow_self (by omega)) h1
theorem div_small {b n i : Nat} (h : n / b ^ i = 0) (hb : 2 ≤ b) : n < b ^ i := by
  rcases Nat.div_eq_zero_iff.1 h with g | g
  · have : 0 < b ^ i := Nat.pow_pos (by omega)
    omega
  · exact g
theorem div_next {b n i : Nat} (hb : 2 ≤ b) (h : 0 < n / b ^ i) : n / b ^ (i + 1) < n / b ^ i := by
  rw [Nat.pow_succ, ← Nat.div_div_eq_div_mul]
  exact Nat.div_lt_self h (by omega)
theorem div_le (b n i : Nat) : n / b ^ i ≤ n := Nat.div_le_self _ _
theorem deForm_loop {rec_ : Int → Int → Option Rw} {b n : Nat} {K : Rw → Option Rw} (hb : 2 ≤ b) (h9 : b ≤ 1000001) (hn : n ≤ 1000000) (hr : ∀ i : Nat, i < n → rec_ i b = some (her b i).rows) :
    ∀ (f i : Nat), n / b ^ i < f → i ≤ n + 1 → spec_deForm_l0 rec_ b K f ((n / b ^ i : Nat) : Int) i (lowT b (her b) n i).rows = K (her b n).rows
  | 0, _, h, _ => absurd h (Nat.not_lt_zero _)
  | f + 1, i, h, hi => by
    simp only [spec_deForm_l0]
    by_cases g : 0 < n / b ^ i
    · have hin : i < n := by
        rcases Nat.lt_or_ge i n with q | q
        · exact q
        · have : n < b ^ i := Nat.lt_of_lt_of_le (Nat.lt_pow_self (n := n) (show 1 < b by omega)) (Nat.pow_le_pow_right (by omega) q)
          rw [Nat.div_eq_of_lt this] at g
          omega
      have hle := div_le b n i
      have hle2 := div_le b n (i + 1)
      have hlen := low_len (b := b) (n := n) (H := her b) (m := i)
      have hnx := div_next hb g
      refine ite_pos (Int.natCast_pos.2 g) ?_
      refine ite_pos (by omega) ?_
      rw [dg_int, nx_int, wid (n := ((n / b ^ (i + 1) : Nat) : Int)) (Int.le_trans (by decide) (Int.natCast_nonneg _)) (Int.lt_of_le_of_lt (Int.ofNat_le.2 (Nat.le_trans hle2 hn)) (by decide)), wid (n := (i : Int) + 1) (by omega) (by omega)]
      have ih := deForm_loop (K := K) hb h9 hn hr f (i + 1) (by omega) (by omega)
      rw [show ((i + 1 : Nat) : Int) = (i : Int) + 1 by omega] at ih
      by_cases hd : dg b n i = 0
      · refine ite_neg (by omega) ?_
        rw [show lowT b (her b) n (i + 1) = lowT b (her b) n i from if_pos hd] at ih
        exact ih
      · refine ite_pos (by omega) ?_
        refine bind_of (hr i hin) ?_
        rw [show lowT b (her b) n (i + 1) = cons (her b i) (dg b n i : Int) (lowT b (her b) n i) from if_neg hd] at ih
        refine ite_pos ⟨?_, rowsWide _⟩ ih
        rw [rows_len]
        simp only [List.length_singleton, cap]
        omega
    · refine ite_neg (fun q => g (Int.natCast_pos.1 q)) ?_
      rw [her_low hb (div_small (b := b) (n := n) (i := i) (Nat.eq_zero_of_not_pos g) hb)]
theorem deForm_eq {b : Nat} (hb : 2 ≤ b) (h9 : b ≤ 1000001) : ∀ (k n : Nat), n + 1 < k → n ≤ 1000000 → spec_deForm k n b = some (her b n).rows
  | 0, _, h, _ => absurd h (Nat.not_lt_zero _)
  | k + 1, n, h, hn => by
    simp only [spec_deForm, spec_deForm_b]
    have := deForm_loop (K := fun v => some v) (b := b) (n := n) hb h9 hn (rec_ := spec_deForm k) (fun i hi => deForm_eq hb h9 k i (by omega) (by omega)) k 0 (by rw [Nat.pow_zero, Nat.div_one]; omega) (by omega)
    rw [Nat.pow_zero, Nat.div_one] at this
    exact this
def digR (b n i : Nat) : Rw := (List.range i).map fun j => [D.int .i64 (dg b n j : Int)]
theorem digR_len (b n i : Nat) : (digR b n i).length = i := by simp [digR]
theorem digR_snoc (b n i : Nat) : digR b n i ++ [[D.int .i64 (dg b n i : Int)]] = digR b n (i + 1) := by simp [digR, List.range_succ]
theorem intsD_map : ∀ zs : List Int, intsD (zs.map fun z => [D.int .i64 z]) = some zs
  | [] => rfl
  | z :: zs => by simp only [List.map_cons, intsD, intsD_map zs]
theorem her_digits {b n : Nat} {K : Rw → Option Rw} (hb : 2 ≤ b) (hn : n ≤ 1000000) :
    ∀ (f i : Nat), n / b ^ i < f → i ≤ n + 1 → ∃ L, n < b ^ L ∧ L ≤ n + 1 ∧ impl_hereditary_l0 b K f ((n / b ^ i : Nat) : Int) (digR b n i) = K (digR b n L)
  | 0, _, h, _ => absurd h (Nat.not_lt_zero _)
  | f + 1, i, h, hi => by
    simp only [impl_hereditary_l0]
    by_cases g : 0 < n / b ^ i
    · have hin : i < n := by
        rcases Nat.lt_or_ge i n with q | q
        · exact q
        · have : n < b ^ i := Nat.lt_of_lt_of_le (Nat.lt_pow_self (n := n) (show 1 < b by omega)) (Nat.pow_le_pow_right (by omega) q)
          rw [Nat.div_eq_of_lt this] at g
          omega
      have hle := div_le b n i
      have hle2 := div_le b n (i + 1)
      have hnx := div_next hb g
      obtain ⟨L, l1, l2, l3⟩ := her_digits (K := K) hb hn f (i + 1) (by omega) (by omega)
      refine ⟨L, l1, l2, ?_⟩
      refine ite_pos (Int.natCast_pos.2 g) ?_
      refine ite_pos (by omega) ?_
      refine ite_pos (by rw [digR_len]; simp only [cap]; omega) ?_
      rw [dg_int, nx_int, wid (n := ((n / b ^ (i + 1) : Nat) : Int)) (Int.le_trans (by decide) (Int.natCast_nonneg _)) (Int.lt_of_le_of_lt (Int.ofNat_le.2 (Nat.le_trans hle2 hn)) (by decide)), digR_snoc]
      exact l3
    · exact ⟨i, div_small (Nat.eq_zero_of_not_pos g) hb, hi, ite_neg (fun q => g (Int.natCast_pos.1 q)) rfl⟩
theorem her_rounds {rec_ : Int → Int → Option Rw} {b n L : Nat} {y : Rw} {K : Rw → Option Rw} (hb : 2 ≤ b) (hn : n ≤ 1000000) (hL : L ≤ n + 1) (hr : ∀ i : Nat, i < n → rec_ i b = some (her b i).rows) :
    ∀ (m : Nat) (acc : T), m ≤ L → acc.len + m ≤ 1000002 → impl_hereditary_rf0 rec_ b y ((List.range L).map fun j => (dg b n j : Int)) K m acc.rows = K (acc.rows ++ (lowT b (her b) n m).rows)
  | 0, acc, _, _ => by simp [impl_hereditary_rf0, lowT, rows]
  | m + 1, acc, hm, ha => by
    have hz : (((List.range L).map fun j => (dg b n j : Int))[m]?.getD 0) = (dg b n m : Int) := by
      rw [List.getElem?_map, List.getElem?_range (by omega)]; rfl
    simp only [impl_hereditary_rf0, hz]
    by_cases hd : dg b n m = 0
    · refine ite_neg (by omega) ?_
      rw [show lowT b (her b) n (m + 1) = lowT b (her b) n m from if_pos hd]
      exact her_rounds hb hn hL hr m acc (by omega) (by omega)
    · refine ite_pos (by omega) ?_
      refine bind_of (hr m (dg_lt hb hd)) ?_
      refine ite_pos (by rw [rows_len]; simp only [cap]; omega) ?_
      refine ite_pos ⟨by omega, by simp only [List.length_singleton]; omega⟩ ?_
      have ih := her_rounds (y := y) (K := K) hb hn hL hr m (app acc (cons (her b m) (dg b n m : Int) nil)) (by omega) (by rw [len_app]; simp only [len]; omega)
      rw [show lowT b (her b) n (m + 1) = cons (her b m) (dg b n m : Int) (lowT b (her b) n m) from if_neg hd]
      have hrow : (acc.rows ++ [[D.sl ([]), D.int .i64 0]])[acc.rows.length]? = some [D.sl ([]), D.int .i64 0] := by simp
      unfold row_si
      rw [if_pos (by omega), Int.toNat_natCast, hrow]
      simp only [cell_si]
      have hset : (acc.rows ++ [[D.sl ([]), D.int .i64 0]]).set acc.rows.length [D.sl (her b m).rows, D.int .i64 (dg b n m : Int)] = (app acc (cons (her b m) (dg b n m : Int) nil)).rows := by
        rw [rows_app]
        simp [rows]
      rw [hset, ih, rows_app]
      simp [rows]
theorem hereditary_eq {b : Nat} (hb : 2 ≤ b) : ∀ (k n : Nat), n + 1 < k → n ≤ 1000000 → impl_hereditary k n b = some (her b n).rows
  | 0, _, h, _ => absurd h (Nat.not_lt_zero _)
  | k + 1, n, h, hn => by
    simp only [impl_hereditary, impl_hereditary_b]
    obtain ⟨L, l1, l2, l3⟩ := her_digits (K := (fun (v10 : Rw) => ((lib_Backward v10).bind fun y17 => ((intsD y17).bind fun zs19 => (if zs19.length ≤ cap then (impl_hereditary_rf0 (impl_hereditary k) b y17 zs19 (fun (v29 : Rw) => some v29) zs19.length ([] : Rw)) else none))))) (b := b) (n := n) hb hn k 0 (by rw [Nat.pow_zero, Nat.div_one]; omega) (by omega)
    rw [Nat.pow_zero, Nat.div_one] at l3
    refine l3.trans ?_
    refine bind_of (y := digR b n L) rfl ?_
    refine bind_of (y := (List.range L).map fun j => (dg b n j : Int)) ?_ ?_
    · rw [← intsD_map]
      simp [digR, Function.comp_def]
    · refine ite_pos (by simp only [List.length_map, List.length_range, cap]; omega) ?_
      have := her_rounds (y := digR b n L) (K := fun v => some v) (rec_ := impl_hereditary k) (b := b) (n := n) (L := L) hb hn l2 (fun i hi => hereditary_eq hb k i (by omega) (by omega)) L nil (Nat.le_refl _) (by simp only [len]; omega)
      rw [List.length_map, List.length_range]
      refine this.trans ?_
      rw [her_low hb l1]
      simp [rows]
end Go.Proofs.Try

namespace Go.Proofs.Try
open Go Go.AX T
/-- The value of a form with c in place of w. -/
def valT (c : Nat) : T → Nat
  | nil => 0
  | cons e a l => a.toNat * c ^ valT c e + valT c l
theorem low_val {b c n m : Nat} {H : Nat → T} : valT c (lowT b H n (m + 1)) = dg b n m * c ^ valT c (H m) + valT c (lowT b H n m) := by
  simp only [lowT]
  split
  · rename_i h; rw [h]; omega
  · simp only [valT, Int.toNat_natCast]
theorem lowT_mod {c x y : Nat} {H : Nat → T} : ∀ {p : Nat}, x % c ^ p = y % c ^ p → 0 < c → lowT c H x p = lowT c H y p
  | 0, _, _ => rfl
  | p + 1, h, hc => by
    have hp : 0 < c ^ p := Nat.pow_pos hc
    rw [mod_split, mod_split] at h
    have rx : x % c ^ p < c ^ p := Nat.mod_lt _ hp
    have ry : y % c ^ p < c ^ p := Nat.mod_lt _ hp
    have h1 : x % c ^ p = y % c ^ p := by
      have := congrArg (· % c ^ p) h
      simp only [Nat.add_mul_mod_self_left, Nat.mod_eq_of_lt rx, Nat.mod_eq_of_lt ry] at this
      exact this
    have h2 : dg c x p = dg c y p := by
      rw [h1] at h
      exact Nat.eq_of_mul_eq_mul_left hp (by omega)
    simp only [lowT]
    rw [h2, lowT_mod h1 hc]
theorem low_bound {b c n : Nat} (hb : 2 ≤ b) (hc : b ≤ c) : ∀ {m : Nat}, (∀ i j, i < j → j ≤ m → valT c (her b i) < valT c (her b j)) → valT c (lowT b (her b) n m) < c ^ valT c (her b m)
  | 0, _ => Nat.pow_pos (by omega)
  | m + 1, hR => by
    have ih := low_bound (n := n) hb hc (m := m) fun i j hij hj => hR i j hij (by omega)
    have hd : dg b n m < b := Nat.mod_lt _ (by omega)
    have hlt := hR m (m + 1) (by omega) (by omega)
    rw [low_val]
    have h1 : (dg b n m + 1) * c ^ valT c (her b m) ≤ c * c ^ valT c (her b m) := Nat.mul_le_mul_right _ (by omega)
    rw [Nat.succ_mul] at h1
    have h2 : c ^ (valT c (her b m) + 1) ≤ c ^ valT c (her b (m + 1)) := Nat.pow_le_pow_right (by omega) (by omega)
    rw [Nat.pow_succ, Nat.mul_comm] at h2
    omega
theorem low_mono {b c a e : Nat} (hb : 2 ≤ b) (hc : b ≤ c) : ∀ {m : Nat}, (∀ i j, i < j → j < m → valT c (her b i) < valT c (her b j)) → a % b ^ m < e % b ^ m → valT c (lowT b (her b) a m) < valT c (lowT b (her b) e m)
  | 0, _, h => by simp [Nat.mod_one] at h
  | m + 1, hR, h => by
    have ih := low_mono (a := a) (e := e) hb hc (m := m) fun i j hij hj => hR i j hij (by omega)
    have hp : 0 < b ^ m := Nat.pow_pos (by omega)
    have ra : a % b ^ m < b ^ m := Nat.mod_lt _ hp
    have re : e % b ^ m < b ^ m := Nat.mod_lt _ hp
    have hba := low_bound (n := a) hb hc (m := m) fun i j hij hj => hR i j hij (by omega)
    rw [low_val, low_val]
    rw [mod_split, mod_split] at h
    generalize a % b ^ m = u at ih ra h
    generalize e % b ^ m = v at ih re h
    generalize dg b a m = d at h ⊢
    generalize dg b e m = f at h ⊢
    rcases Nat.lt_trichotomy d f with q | q | q
    · have k1 := Nat.mul_le_mul_right (c ^ valT c (her b m)) (show d + 1 ≤ f by omega)
      rw [Nat.succ_mul] at k1
      omega
    · subst q
      have := ih (by omega)
      omega
    · have k1 := Nat.mul_le_mul_left (b ^ m) (show f + 1 ≤ d by omega)
      rw [Nat.mul_succ] at k1
      omega
theorem val_lt {b c : Nat} (hb : 2 ≤ b) (hc : b ≤ c) : ∀ (e a : Nat), a < e → valT c (her b a) < valT c (her b e) := by
  intro e
  induction e using Nat.strongRecOn with
  | ind e ih =>
    intro a hae
    have he : e < b ^ e := Nat.lt_pow_self (by omega)
    rw [her_low hb (show a < b ^ e by omega), her_low hb he]
    refine low_mono hb hc (fun i j hij hj => ih j hj i hij) ?_
    rw [Nat.mod_eq_of_lt (show a < b ^ e by omega), Nat.mod_eq_of_lt he]
    exact hae
/-- The form of the value to the greater base is the form. -/
theorem raise_eq {b c : Nat} (hb : 2 ≤ b) (hc : b ≤ c) : ∀ n : Nat, her c (valT c (her b n)) = her b n := by
  intro n
  induction n using Nat.strongRecOn with
  | ind n ih =>
    have key : ∀ m : Nat, m ≤ n → lowT c (her c) (valT c (lowT b (her b) n m)) (valT c (her b m)) = lowT b (her b) n m := by
      intro m
      induction m with
      | zero => intro _; rfl
      | succ m ihm =>
        intro hm
        have ihm := ihm (by omega)
        have hbm := low_bound (n := n) hb hc (m := m) fun i j hij _ => val_lt hb hc j i hij
        have hd : dg b n m < b := Nat.mod_lt _ (by omega)
        have hlt := val_lt hb hc (m + 1) m (by omega)
        have hX : 0 < c ^ valT c (her b m) := Nat.pow_pos (by omega)
        obtain ⟨j, hj⟩ : ∃ j, valT c (her b (m + 1)) = (valT c (her b m) + 1) + j := ⟨valT c (her b (m + 1)) - (valT c (her b m) + 1), by omega⟩
        have hY : dg b n m * c ^ valT c (her b m) + valT c (lowT b (her b) n m) < c ^ (valT c (her b m) + 1) := by
          have h1 : (dg b n m + 1) * c ^ valT c (her b m) ≤ c * c ^ valT c (her b m) := Nat.mul_le_mul_right _ (by omega)
          rw [Nat.succ_mul] at h1
          rw [Nat.pow_succ, Nat.mul_comm _ c]
          omega
        rw [low_val, hj, lowT_stop (show 2 ≤ c by omega) hY]
        have hdg : dg c (dg b n m * c ^ valT c (her b m) + valT c (lowT b (her b) n m)) (valT c (her b m)) = dg b n m := by
          show (dg b n m * c ^ valT c (her b m) + valT c (lowT b (her b) n m)) / c ^ valT c (her b m) % c = dg b n m
          rw [Nat.mul_comm, Nat.mul_add_div hX, Nat.div_eq_of_lt hbm, Nat.add_zero, Nat.mod_eq_of_lt (by omega)]
        have hlow : lowT c (her c) (dg b n m * c ^ valT c (her b m) + valT c (lowT b (her b) n m)) (valT c (her b m)) = lowT b (her b) n m := by
          refine (lowT_mod (c := c) (y := valT c (lowT b (her b) n m)) ?_ (by omega)).trans ihm
          rw [Nat.mul_comm, Nat.mul_add_mod]
        show (if dg c _ (valT c (her b m)) = 0 then lowT c (her c) _ (valT c (her b m)) else cons (her c (valT c (her b m))) (dg c _ (valT c (her b m)) : Int) (lowT c (her c) _ (valT c (her b m)))) = lowT b (her b) n (m + 1)
        rw [hdg, hlow, ih m (by omega)]
        rfl
    have hbn := low_bound (n := n) hb hc (m := n) fun i j hij _ => val_lt hb hc j i hij
    have hk := key n (Nat.le_refl _)
    rw [← her_eq] at hk hbn
    rw [her_low (show 2 ≤ c by omega) hbn]
    exact hk
theorem val_pos {b c n : Nat} (hb : 2 ≤ b) (hc : b ≤ c) (h : 0 < n) : 0 < valT c (her b n) := by
  have := val_lt hb hc n 0 h
  omega
/-- A step of a Goodstein sequence lowers the ordinal. -/
theorem good_falls {b n : Nat} (hb : 2 ≤ b) (h : 0 < n) : 0 < cmpT (her b n) (her (b + 1) (valT (b + 1) (her b n) - 1)) := by
  have hp := val_pos (c := b + 1) hb (by omega) h
  have h1 := her_lt (b := b + 1) (by omega) (valT (b + 1) (her b n)) (valT (b + 1) (her b n) - 1) (by omega)
  rw [raise_eq hb (by omega)] at h1
  exact cmp_gt h1
end Go.Proofs.Try

namespace Go.Proofs.Try
open Go Go.AX T
theorem same_bytes {α : Type} (l : L8) {a b r : α} (h : b = r) : (if (!((bA l).toList == (bA l).toList)) = true then a else b) = r := by
  rw [if_neg (by simp)]; exact h
theorem deBase_eq (n b : Int) : spec_deBase n b = some ((decide (0 ≤ n) && decide (n ≤ 1000000)) && (decide (2 ≤ b) && decide (b ≤ 1000))) := by
  unfold spec_deBase
  rw [l1In_eq, l1In_eq]
  cases decide (0 ≤ n) && decide (n ≤ 1000000) <;> cases decide (2 ≤ b) && decide (b ≤ 1000) <;> rfl
theorem baseOk_eq (b : Int) : impl_baseOk b = some (decide (2 ≤ b) && decide (b ≤ 1000)) := by
  unfold impl_baseOk
  rw [impl_in_eq]
  cases decide (2 ≤ b) && decide (b ≤ 1000) <;> rfl
/-- The base in digits. -/
def baseT (b : Nat) : L8 := Lib.decDigits b
theorem baseT_len {b : Nat} (h : b ≤ 1000) : (baseT b).length ≤ 100 := by
  have := dec_len (u := b) (by omega)
  unfold baseT; omega
end Go.Proofs.Try

namespace Go.Proofs.Try
open Go Go.AX T
/-- A text with w in place of each letter w. -/
def subW (w : L8) : L8 → L8
  | [] => []
  | c :: l => (if c = 119 then w else [c]) ++ subW w l
theorem subW_app (w : L8) : ∀ a b : L8, subW w (a ++ b) = subW w a ++ subW w b
  | [], _ => rfl
  | c :: a, b => by simp only [List.cons_append, subW, subW_app w a b, List.append_assoc]
theorem subW_id {w : L8} : ∀ {a : L8}, (∀ c ∈ a, c ≠ 119) → subW w a = a
  | [], _ => rfl
  | c :: a, h => by
    simp only [subW]
    rw [if_neg (h c List.mem_cons_self), subW_id fun d hd => h d (List.mem_cons_of_mem _ hd)]
    rfl
theorem dec_plain : ∀ u : Nat, ∀ c ∈ Lib.decDigits u, c ≠ 119 := by
  have one : ∀ d : Nat, d < 10 → UInt8.ofNat (48 + d) ≠ 119 := by decide
  intro u
  induction u using Nat.strongRecOn with
  | ind u ih =>
    intro c hc
    rw [Lib.decDigits] at hc
    split at hc
    · rename_i h
      simp only [List.mem_singleton] at hc
      subst hc
      exact one u h
    · rename_i h
      rcases List.mem_append.1 hc with hc | hc
      · exact ih (u / 10) (by omega) c hc
      · simp only [List.mem_singleton] at hc
        subst hc
        exact one (u % 10) (by omega)
theorem subW_dec (w : L8) (u : Nat) : subW w (Lib.decDigits u) = Lib.decDigits u := subW_id (dec_plain u)
theorem subW_part (w te : L8) (e : T) (c : Int) : subW w (partT [119] te e c) = partT w (subW w te) e c := by
  cases e with
  | nil => simp only [partT, subW_dec]
  | cons e0 c0 l0 =>
    simp only [partT, subW_app]
    have h1 : subW w [119] = w := by simp [subW]
    rw [h1]
    congr 1
    · congr 1
      split
      · rfl
      · simp [subW, subW_app]
    · split
      · rfl
      · rw [subW_app, subW_dec]; simp [subW]
theorem subW_tail (w : L8) (f : L8 → L8) : ∀ ps : List L8, (∀ p ∈ ps, subW w p = f p) → subW w (Lib.joinTail [43] ps) = Lib.joinTail [43] (ps.map f)
  | [], _ => by simp [Lib.joinTail, subW]
  | p :: ps, h => by
    rw [tail_cons, List.map_cons, tail_cons]
    simp only [subW, subW_app]
    rw [h p List.mem_cons_self, subW_tail w f ps fun q hq => h q (List.mem_cons_of_mem _ hq)]
    simp
theorem subW_join (w : L8) : ∀ ps : List L8, subW w (joinP ps) = joinP (ps.map (subW w))
  | [] => by simp [joinP, subW]
  | p :: ps => by simp only [joinP, List.map_cons, subW_app]; rw [subW_tail w (subW w) ps fun _ _ => rfl]
theorem subW_parts (w : L8) : ∀ t : T, (partsT [119] t).map (subW w) = partsT w t
  | nil => rfl
  | cons e c l => by
    simp only [partsT, List.map_cons]
    rw [subW_parts w l, subW_part, subW_join, subW_parts w e]
theorem subW_text (w : L8) (t : T) : subW w (textT [119] t) = textT w t := by
  unfold textT
  rw [subW_join, subW_parts]
theorem her_one {B : Nat} (h : 2 ≤ B) : her (B + 1) B = cons nil B nil := by
  rw [her_low (m := 1) (by omega) (by rw [Nat.pow_one]; omega)]
  have hd : dg (B + 1) B 0 = B := by
    unfold dg
    rw [Nat.pow_zero, Nat.div_one, Nat.mod_eq_of_lt (by omega)]
  show (if dg (B + 1) B 0 = 0 then nil else cons (her (B + 1) 0) (dg (B + 1) B 0 : Int) nil) = _
  rw [hd, if_neg (by omega)]
  rfl
theorem herOrd_eq {k N B : Nat} (hk : 2100000 < k) (hN : N ≤ 1000000) (h2 : 2 ≤ B) (hB : B ≤ 1000) : impl_HereditaryOrdinal k N B = some ((toldT (her B N)).1.rows, (toldT (her B N)).2) := by
  have hs := her_small h2 hN
  have h3 : cap = 1099511627776 := rfl
  unfold impl_HereditaryOrdinal
  refine bind_of (impl_in_eq _ _ _) ?_
  refine ite_pos (by simp; omega) ?_
  refine bind_of (baseOk_eq _) ?_
  refine ite_pos (by simp; omega) ?_
  refine bind_of (hereditary_eq h2 k N (by omega) hN) ?_
  refine bind_of (told_eq k _ (by omega) (by omega)) ?_
  cases (toldT (her B N)).2 <;> rfl
theorem herOrd_out {k : Nat} {n b : Int} (h : ((decide (0 ≤ n) && decide (n ≤ 1000000)) && (decide (2 ≤ b) && decide (b ≤ 1000))) = false) : impl_HereditaryOrdinal k n b = some ([], false) := by
  unfold impl_HereditaryOrdinal
  refine bind_of (impl_in_eq _ _ _) ?_
  cases h1 : (decide (0 ≤ n) && decide (n ≤ 1000000)) with
  | false => refine ite_neg (by simp) rfl
  | true =>
    refine ite_pos rfl ?_
    refine bind_of (baseOk_eq _) ?_
    rw [h1, Bool.true_and] at h
    rw [h]
    refine ite_neg (by simp) rfl
theorem count9_ok {x : Rw} {a c : Int} (hx : bytes x) (h0 : 0 ≤ a) (h1 : a ≤ 90000000) : Drew x a 4 (spec_l1Cur_count9 x a c) (fun _ => True) := by
  unfold spec_l1Cur_count9
  refine Drew.bind (n := 2) (m := 2) (pick_ok hx h0 (by omega) (by omega)) fun v a' c' q1 q2 q3 => ?_
  dsimp only
  by_cases g : v = 0
  · rw [if_pos g]
    refine Drew.mono (Drew.bind (n := 2) (m := 0) (among_ok (Q := fun _ => True) hx q1 (by omega) (by simp) (by
      intro r hr
      simp only [List.mem_cons, List.not_mem_nil, or_false] at hr
      rcases hr with rfl | rfl | rfl | rfl <;> exact ⟨_, rfl, trivial⟩)) fun v2 a2 c2 p1 p2 p3 => ⟨_, a2, _, rfl, p1, by omega, trivial⟩) (by omega)
  · rw [if_neg g]
    by_cases g2 : v = 1
    · rw [if_pos g2]
      exact Drew.mono (Drew.bind (n := 2) (m := 0) (pick_ok hx q1 (by omega) (by omega)) fun v2 a2 c2 p1 p2 p3 => ⟨_, a2, _, rfl, p1, by omega, trivial⟩) (by omega)
    · rw [if_neg g2]
      exact Drew.mono (Drew.bind (n := 2) (m := 0) (pick_ok hx q1 (by omega) (by omega)) fun v2 a2 c2 p1 p2 p3 => ⟨_, a2, _, rfl, p1, by omega, trivial⟩) (by omega)
theorem base_ok {x : Rw} {a c : Int} (hx : bytes x) (h0 : 0 ≤ a) (h1 : a ≤ 90000000) : Drew x a 4 (spec_l1Cur_base x a c) (fun _ => True) := by
  unfold spec_l1Cur_base
  refine Drew.bind (n := 2) (m := 2) (one_ok hx h0 (by omega) (by omega)) fun v a' c' q1 q2 q3 => ?_
  dsimp only
  cases v with
  | true =>
    rw [if_pos rfl]
    refine Drew.mono (Drew.bind (n := 2) (m := 0) (among_ok (Q := fun _ => True) hx q1 (by omega) (by simp) (by
      intro r hr
      simp only [List.mem_cons, List.not_mem_nil, or_false] at hr
      rcases hr with rfl | rfl | rfl | rfl | rfl <;> exact ⟨_, rfl, trivial⟩)) fun v2 a2 c2 p1 p2 p3 => ⟨_, a2, _, rfl, p1, by omega, trivial⟩) (by omega)
  | false =>
    rw [if_neg (by simp)]
    exact Drew.mono (Drew.bind (n := 2) (m := 0) (pick_ok hx q1 (by omega) (by omega)) fun v2 a2 c2 p1 p2 p3 => ⟨_, a2, _, rfl, p1, by omega, trivial⟩) (by omega)
end Go.Proofs.Try

namespace Go.Proofs.Try
open Go Go.AX T
/-- A value, or what stands for too great ones. -/
def cutV (v : Nat) : Nat := if v ≤ 1000000 then v else 1000001
theorem pow_gt {c E : Nat} (hc : 2 ≤ c) (h : 1000000 < E) {a : Nat} (ha : 1 ≤ a) : 1000000 < a * c ^ E := by
  have h1 : E < c ^ E := Nat.lt_pow_self (by omega)
  have h2 : 1 * c ^ E ≤ a * c ^ E := Nat.mul_le_mul_right _ ha
  omega
/-- What a power that is cut says. -/
def CutP (q v : Nat) : Prop := (q ≤ 1000000 ↔ v ≤ 1000000) ∧ (q ≤ 1000000 → q = v) ∧ q ≤ 1100000000
theorem pow_step {c E p : Nat} (h : 0 < E) : p * c * c ^ (E - 1) = p * c ^ E := by
  obtain ⟨e, rfl⟩ : ∃ e, E = e + 1 := ⟨E - 1, by omega⟩
  rw [Nat.add_sub_cancel, Nat.pow_succ, Nat.mul_assoc, Nat.mul_comm c]
theorem pow_big {c E p : Nat} (hc : 2 ≤ c) (h : 1000000 < p) : 1000000 < p * c ^ E := by
  have h2 : p * 1 ≤ p * c ^ E := Nat.mul_le_mul_left _ (Nat.pow_pos (by omega))
  omega
theorem iPow {a1 : Rw} {c : Nat} {v20 : Int} {v21 : Nat} {K : Int → Option Int} (h2 : 2 ≤ c) (h9 : c ≤ 1100) : ∀ (f E p : Nat), E < f → E ≤ 1000001 → p ≤ 1100000000 → ∃ q : Nat, impl_valueOf_l1 a1 c v20 v21 K f E p = K q ∧ CutP q (p * c ^ E)
  | 0, _, _, h, _, _ => absurd h (Nat.not_lt_zero _)
  | f + 1, E, p, h, hE, hp => by
    simp only [impl_valueOf_l1]
    by_cases g : 0 < E
    · by_cases g2 : p ≤ 1000000
      · have hm : p * c ≤ 1000000 * 1100 := Nat.mul_le_mul g2 h9
        have hm' : ((p * c : Nat) : Int) = (p : Int) * c := by omega
        obtain ⟨q, e, hq⟩ := iPow (a1 := a1) (v20 := v20) (v21 := v21) (K := K) h2 h9 f (E - 1) (p * c) (by omega) (by omega) (by omega)
        rw [pow_step g] at hq
        refine ⟨q, ?_, hq⟩
        refine ite_pos (by omega) ?_
        refine ite_pos (by omega) ?_
        rw [wid (n := (E : Int) - 1) (by omega) (by omega), ← hm', wid (n := ((p * c : Nat) : Int)) (by omega) (by omega), show (E : Int) - 1 = ((E - 1 : Nat) : Int) by omega]
        exact e
      · refine ⟨p, ?_, ⟨fun q => by omega, fun q => ?_⟩, fun q => by omega, hp⟩
        · refine ite_pos (by omega) ?_
          exact ite_neg (by omega) rfl
        · have := pow_big (E := E) h2 (show 1000000 < p by omega)
          omega
    · have : E = 0 := by omega
      subst this
      refine ⟨p, ite_neg (by omega) rfl, ?_⟩
      rw [Nat.pow_zero, Nat.mul_one]
      exact ⟨Iff.rfl, fun _ => rfl, hp⟩
theorem sPow {c : Nat} {K : Int → Option Int} (h2 : 2 ≤ c) (h9 : c ≤ 1100) : ∀ (f E p : Nat), E < f → E ≤ 1000001 → p ≤ 1100000000 → ∃ q : Nat, spec_dePower_l0 c K f E p = K q ∧ CutP q (p * c ^ E)
  | 0, _, _, h, _, _ => absurd h (Nat.not_lt_zero _)
  | f + 1, E, p, h, hE, hp => by
    simp only [spec_dePower_l0]
    by_cases g : 0 < E
    · by_cases g2 : p ≤ 1000000
      · have hm : p * c ≤ 1000000 * 1100 := Nat.mul_le_mul g2 h9
        have hm' : ((p * c : Nat) : Int) = (p : Int) * c := by omega
        obtain ⟨q, e, hq⟩ := sPow (K := K) h2 h9 f (E - 1) (p * c) (by omega) (by omega) (by omega)
        rw [pow_step g] at hq
        refine ⟨q, ?_, hq⟩
        refine ite_pos (by omega) ?_
        refine ite_pos (by omega) ?_
        rw [wid (n := (E : Int) - 1) (by omega) (by omega), ← hm', wid (n := ((p * c : Nat) : Int)) (by omega) (by omega), show (E : Int) - 1 = ((E - 1 : Nat) : Int) by omega]
        exact e
      · refine ⟨p, ?_, ⟨fun q => by omega, fun q => ?_⟩, fun q => by omega, hp⟩
        · refine ite_pos (by omega) ?_
          exact ite_neg (by omega) rfl
        · have := pow_big (E := E) h2 (show 1000000 < p by omega)
          omega
    · have : E = 0 := by omega
      subst this
      refine ⟨p, ite_neg (by omega) rfl, ?_⟩
      rw [Nat.pow_zero, Nat.mul_one]
      exact ⟨Iff.rfl, fun _ => rfl, hp⟩
theorem cut_term {c q a V : Nat} (hc : 2 ≤ c) (ha : 1 ≤ a) (h : CutP q (a * c ^ cutV V)) : CutP q (a * c ^ V) := by
  unfold cutV at h
  split at h
  · exact h
  · have h1 := pow_gt hc (E := 1000001) (by omega) ha
    have h2 := pow_gt hc (E := V) (by omega) ha
    refine ⟨⟨fun g => ?_, fun g => by omega⟩, fun g => ?_, h.2.2⟩
    · have := h.1.1 g; omega
    · have := h.1.1 g; omega
theorem iVal_loop {k : Nat} {rec_ : Rw → Int → Option Int} {a : T} {c : Nat} {K : Int → Option Int} (hk : 2000000 < k) (h2 : 2 ≤ c) (h9 : c ≤ 1100) (hr : ∀ e : T, e.size < a.size → formA none e = true → rec_ e.rows c = some (cutV (valT c e) : Int)) :
    ∀ (t : T) (p : Option T) (i s : Nat), formA p t = true → t.size ≤ a.size → s ≤ 1000000 → impl_valueOf_l0 k rec_ a.rows c K t.rows i s = if s + valT c t ≤ 1000000 then K ((s + valT c t : Nat) : Int) else some 1000001
  | nil, _, i, s, _, _, hs => by
    rw [if_pos (show s + valT c nil ≤ 1000000 from hs)]
    rfl
  | cons e x l, p, i, s, hf, ht, hs => by
    simp only [formA, Bool.and_eq_true, decide_eq_true_eq] at hf
    obtain ⟨⟨⟨⟨h3, h4⟩, hfe⟩, _⟩, hfl⟩ := hf
    have hse : e.size < a.size := by simp only [size] at ht; omega
    have hsl : l.size ≤ a.size := by simp only [size] at ht; omega
    obtain ⟨n, rfl⟩ : ∃ n : Nat, x = n := ⟨x.toNat, by omega⟩
    have hE : cutV (valT c e) ≤ 1000001 := by unfold cutV; split <;> omega
    simp only [rows, impl_valueOf_l0, cell_T]
    refine bind_of (hr e hse hfe) ?_
    obtain ⟨q, eq, hq⟩ := iPow (a1 := a.rows) (c := c) (v20 := s) (v21 := i) (K := (fun (v68 : Int) => (if (1000000 : Int) < (IntKind.i64.wrap ((s : Int) + v68)) then some 1000001 else (impl_valueOf_l0 k rec_ a.rows c K l.rows (i + 1) (IntKind.i64.wrap ((s : Int) + v68)))))) h2 h9 k (cutV (valT c e)) n (by omega) hE (by omega)
    refine eq.trans ?_
    have hq := cut_term h2 (by omega) hq
    obtain ⟨q1, q2, q3⟩ := hq
    have hv : valT c (cons e (n : Int) l) = n * c ^ valT c e + valT c l := by simp only [valT, Int.toNat_natCast]
    rw [hv]
    generalize n * c ^ valT c e = A at q1 q2 ⊢
    rw [wid (n := (s : Int) + q) (by omega) (by omega)]
    by_cases g : 1000000 < s + q
    · refine (ite_pos (by omega) rfl).trans ?_
      rw [if_neg ?_]
      intro h
      have := q2 (q1.2 (by omega))
      omega
    · refine (ite_neg (by omega) rfl).trans ?_
      have hqa := q2 (by omega)
      subst hqa
      have := iVal_loop (K := K) hk h2 h9 hr l (some e) (i + 1) (s + q) hfl hsl (by omega)
      rw [show ((s + q : Nat) : Int) = (s : Int) + q by omega] at this
      rw [this, Nat.add_assoc]
theorem valueOf_eq {c : Nat} (h2 : 2 ≤ c) (h9 : c ≤ 1100) : ∀ (k : Nat) (a : T) (p : Option T), formA p a = true → a.size + 2000001 < k → a.size ≤ 100000 → impl_valueOf k a.rows c = some (cutV (valT c a) : Int)
  | 0, _, _, _, h, _ => absurd h (Nat.not_lt_zero _)
  | k + 1, a, p, hf, h, hs => by
    have hl := a.len_size
    simp only [impl_valueOf, impl_valueOf_b]
    refine ite_pos (by rw [rows_len]; simp only [cap]; omega) ?_
    have := iVal_loop (K := fun v => some v) (k := k) (rec_ := impl_valueOf k) (a := a) (c := c) (by omega) h2 h9 (fun e he hfe => valueOf_eq h2 h9 k e none hfe (by omega) (by omega)) a p 0 0 hf (Nat.le_refl _) (by omega)
    refine this.trans ?_
    rw [Nat.zero_add]
    unfold cutV
    split <;> rfl
theorem sVal_loop {k : Nat} {rec_ : Rw → Int → Option Int} {a : T} {c : Nat} {K : Int → Option Int} (hk : 2000000 < k) (h2 : 2 ≤ c) (h9 : c ≤ 1100) (hr : ∀ e : T, e.size < a.size → formA none e = true → rec_ e.rows c = some (cutV (valT c e) : Int)) :
    ∀ (t : T) (p : Option T) (s : Nat), formA p t = true → t.size ≤ a.size → s ≤ 1000000 → spec_deValue_l0 k rec_ a.rows c K t.rows s = if s + valT c t ≤ 1000000 then K ((s + valT c t : Nat) : Int) else some 1000001
  | nil, _, s, _, _, hs => by
    rw [if_pos (show s + valT c nil ≤ 1000000 from hs)]
    rfl
  | cons e x l, p, s, hf, ht, hs => by
    simp only [formA, Bool.and_eq_true, decide_eq_true_eq] at hf
    obtain ⟨⟨⟨⟨h3, h4⟩, hfe⟩, _⟩, hfl⟩ := hf
    have hse : e.size < a.size := by simp only [size] at ht; omega
    have hsl : l.size ≤ a.size := by simp only [size] at ht; omega
    obtain ⟨n, rfl⟩ : ∃ n : Nat, x = n := ⟨x.toNat, by omega⟩
    have hv : valT c (cons e (n : Int) l) = n * c ^ valT c e + valT c l := by simp only [valT, Int.toNat_natCast]
    simp only [rows, spec_deValue_l0, cell_T]
    refine bind_of (hr e hse hfe) ?_
    rw [hv]
    by_cases gv : valT c e ≤ 1000000
    · have hcut : cutV (valT c e) = valT c e := if_pos gv
      rw [hcut]
      refine (ite_neg (by omega) rfl).trans ?_
      obtain ⟨q, eq, hq⟩ := sPow (c := c) (K := fun (v8 : Int) => some v8) h2 h9 k (valT c e) 1 (by omega) (by omega) (by omega)
      rw [Nat.one_mul] at hq
      refine (bind_of (eq : spec_dePower k c (valT c e : Nat) = _) rfl).trans ?_
      obtain ⟨q1, q2, q3⟩ := hq
      have hmul : n * q ≤ 1000000 * 1100000000 := Nat.mul_le_mul (by omega) q3
      have hcast : ((n * q : Nat) : Int) = (n : Int) * q := by simp
      have hge : q ≤ n * q := by
        have := Nat.mul_le_mul_right q (show 1 ≤ n by omega)
        omega
      have hge2 : c ^ valT c e ≤ n * c ^ valT c e := by
        have := Nat.mul_le_mul_right (c ^ valT c e) (show 1 ≤ n by omega)
        omega
      rw [← hcast, wid (n := ((n * q : Nat) : Int)) (by omega) (by omega), wid (n := (s : Int) + ((n * q : Nat) : Int)) (by omega) (by omega)]
      by_cases g : 1000000 < s + n * q
      · refine (ite_pos (by omega) rfl).trans ?_
        rw [if_neg ?_]
        intro h
        have hw := q2 (q1.2 (by omega))
        rw [← hw] at h
        omega
      · refine (ite_neg (by omega) rfl).trans ?_
        have hw := q2 (by omega)
        have := sVal_loop (K := K) hk h2 h9 hr l (some e) (s + n * q) hfl hsl (by omega)
        rw [show ((s + n * q : Nat) : Int) = (s : Int) + ((n * q : Nat) : Int) by omega] at this
        rw [this, ← hw, Nat.add_assoc]
    · have hcut : cutV (valT c e) = 1000001 := if_neg gv
      rw [hcut]
      refine (ite_pos (by decide) rfl).trans ?_
      have := pow_gt h2 (E := valT c e) (by omega) (show 1 ≤ n by omega)
      rw [if_neg (by omega)]
      rfl
theorem deValue_eq {c : Nat} (h2 : 2 ≤ c) (h9 : c ≤ 1100) : ∀ (k : Nat) (a : T) (p : Option T), formA p a = true → a.size + 2000001 < k → a.size ≤ 100000 → spec_deValue k a.rows c = some (cutV (valT c a) : Int)
  | 0, _, _, _, h, _ => absurd h (Nat.not_lt_zero _)
  | k + 1, a, p, hf, h, hs => by
    have hl := a.len_size
    simp only [spec_deValue, spec_deValue_b]
    refine ite_pos (by rw [rows_len]; simp only [cap]; omega) ?_
    have := sVal_loop (K := fun v => some v) (k := k) (rec_ := spec_deValue k) (a := a) (c := c) (by omega) h2 h9 (fun e he hfe => deValue_eq h2 h9 k e none hfe (by omega) (by omega)) a p 0 hf (Nat.le_refl _) (by omega)
    refine this.trans ?_
    rw [Nat.zero_add]
    unfold cutV
    split <;> rfl
end Go.Proofs.Try

namespace Go.Proofs.Try
open Go Go.AX T
/-! ### the sequence -/
/-- The number behind n, 1 too great. -/
def upV (b n : Nat) : Nat := valT (b + 1) (her b n)
/-- The numbers behind n, at most m of them. -/
def runT : Nat → Nat → Nat → Option (List Nat)
  | 0, _, _ => some []
  | m + 1, b, n => if n = 0 then some [] else if upV b n ≤ 1000000 then (runT m (b + 1) (upV b n - 1)).map (fun l => (upV b n - 1) :: l) else none
def rowsZ (l : List Nat) : Rw := l.map fun x : Nat => [D.int .i64 (x : Int)]
theorem rowsZ_len (l : List Nat) : (rowsZ l).length = l.length := by simp [rowsZ]
theorem rowsZ_snoc (l : List Nat) (x : Nat) : rowsZ l ++ [[D.int .i64 (x : Int)]] = rowsZ (l ++ [x]) := by simp [rowsZ]
theorem upV_pos {b n : Nat} (hb : 2 ≤ b) (h : n ≠ 0) : 0 < upV b n := val_pos hb (by omega) (by omega)
theorem her_value {k b n : Nat} (hk : 2100000 < k) (hb : 2 ≤ b) (h9 : b ≤ 1090) (hn : n ≤ 1000000) : impl_valueOf k (her b n).rows ((b : Int) + 1) = some (cutV (upV b n) : Int) ∧ spec_deValue k (her b n).rows ((b : Int) + 1) = some (cutV (upV b n) : Int) := by
  have hs := her_small hb hn
  have hf := her_form hb (by omega) n
  have h1 := valueOf_eq (c := b + 1) (by omega) (by omega) k (her b n) none hf (by omega) (by omega)
  have h2 := deValue_eq (c := b + 1) (by omega) (by omega) k (her b n) none hf (by omega) (by omega)
  rw [show ((b + 1 : Nat) : Int) = (b : Int) + 1 by omega] at h1 h2
  exact ⟨h1, h2⟩
theorem deRaise_eq {k b n : Nat} (hk : 2100000 < k) (hb : 2 ≤ b) (h9 : b ≤ 1090) (hn : n ≤ 1000000) : spec_deRaise k n b = some (cutV (upV b n) : Int) := by
  unfold spec_deRaise
  refine bind_of (deForm_eq hb (by omega) k n (by omega) hn) ?_
  rw [wid (n := (b : Int) + 1) (by omega) (by omega)]
  exact bind_of (her_value hk hb h9 hn).2 rfl
def runR (o : Option (List Nat)) (K : Rw → Option (Rw × Bool)) (acc : List Nat) : Option (Rw × Bool) :=
  match o with
  | some l => K (rowsZ (acc ++ l))
  | none => some ([], false)
theorem iRun_loop {k B : Nat} {most : Nat} {K : Rw → Option (Rw × Bool)} (hk : 2100000 < k) (hB : 2 ≤ B) (h9 : B ≤ 1000) (hm : most ≤ 60) : ∀ (m f n j : Nat) (acc : List Nat), m < f → j + m = most → n ≤ 1000000 → acc.length ≤ j + 1 →
    impl_GoodsteinRun_l0 k B most K f n (rowsZ acc) j = runR (runT m (B + j) n) K acc
  | _, 0, _, _, _, h, _, _, _ => absurd h (Nat.not_lt_zero _)
  | 0, f + 1, n, j, acc, h, hj, hn, ha => by
    simp only [impl_GoodsteinRun_l0]
    refine ite_neg (by omega) ?_
    simp [runT, runR]
  | m + 1, f + 1, n, j, acc, h, hj, hn, ha => by
    simp only [impl_GoodsteinRun_l0]
    refine ite_pos (by omega) ?_
    by_cases h0 : n = 0
    · refine ite_neg (by omega) ?_
      simp [runT, runR, h0]
    · refine ite_pos (by omega) ?_
      have hp := upV_pos (b := B + j) (by omega) h0
      rw [wid (n := (B : Int) + j) (by omega) (by omega), wid (n := (B : Int) + j + 1) (by omega) (by omega), show (B : Int) + j = ((B + j : Nat) : Int) by omega]
      refine bind_of (hereditary_eq (b := B + j) (by omega) k n (by omega) hn) ?_
      refine bind_of (her_value hk (by omega) (by omega) hn).1 ?_
      simp only [runT, if_neg h0]
      unfold cutV
      by_cases g : upV (B + j) n ≤ 1000000
      · rw [if_pos g, if_pos g]
        refine ite_neg (by omega) ?_
        refine ite_pos (by rw [rowsZ_len]; simp only [cap]; omega) ?_
        rw [wid (n := ((upV (B + j) n : Nat) : Int) - 1) (by omega) (by omega), wid (n := (j : Int) + 1) (by omega) (by omega), show ((upV (B + j) n : Nat) : Int) - 1 = ((upV (B + j) n - 1 : Nat) : Int) by omega, rowsZ_snoc, show (j : Int) + 1 = ((j + 1 : Nat) : Int) by omega]
        rw [iRun_loop hk hB h9 hm m f (upV (B + j) n - 1) (j + 1) _ (by omega) (by omega) (by omega) (by simp; omega)]
        rw [show B + (j + 1) = B + j + 1 by omega]
        cases runT m (B + j + 1) (upV (B + j) n - 1) with
        | none => rfl
        | some l => simp [runR]
      · rw [if_neg g, if_neg g]
        exact ite_pos (by decide) rfl
theorem sRun_loop {k : Nat} {K : Rw → Option (Rw × Bool)} (hk : 2100000 < k) : ∀ (m f n b : Nat) (acc : List Nat), m < f → 2 ≤ b → b + m ≤ 1090 → n ≤ 1000000 → acc.length + m ≤ 1000 →
    spec_deRun_l0 k K f n b m (rowsZ acc) = runR (runT m b n) K acc
  | _, 0, _, _, _, h, _, _, _, _ => absurd h (Nat.not_lt_zero _)
  | 0, f + 1, n, b, acc, h, hb, h9, hn, ha => by
    simp only [spec_deRun_l0]
    refine ite_neg (by omega) ?_
    simp [runT, runR]
  | m + 1, f + 1, n, b, acc, h, hb, h9, hn, ha => by
    simp only [spec_deRun_l0]
    refine ite_pos (by omega) ?_
    by_cases h0 : n = 0
    · refine ite_neg (by omega) ?_
      simp [runT, runR, h0]
    · refine ite_pos (by omega) ?_
      have hp := upV_pos (b := b) hb h0
      refine bind_of (deRaise_eq hk hb (by omega) hn) ?_
      simp only [runT, if_neg h0]
      unfold cutV
      by_cases g : upV b n ≤ 1000000
      · rw [if_pos g, if_pos g]
        refine ite_neg (by omega) ?_
        refine ite_pos (by rw [rowsZ_len]; simp only [cap]; omega) ?_
        rw [wid (n := ((upV b n : Nat) : Int) - 1) (by omega) (by omega), wid (n := (b : Int) + 1) (by omega) (by omega), wid (n := ((m + 1 : Nat) : Int) - 1) (by omega) (by omega), show ((upV b n : Nat) : Int) - 1 = ((upV b n - 1 : Nat) : Int) by omega, rowsZ_snoc, show (b : Int) + 1 = ((b + 1 : Nat) : Int) by omega, show ((m + 1 : Nat) : Int) - 1 = (m : Int) by omega]
        rw [sRun_loop hk m f (upV b n - 1) (b + 1) _ (by omega) (by omega) (by omega) (by omega) (by simp; omega)]
        cases runT m (b + 1) (upV b n - 1) with
        | none => rfl
        | some l => simp [runR]
      · rw [if_neg g, if_neg g]
        exact ite_pos (by decide) rfl
/-- What is known of a run. -/
theorem runT_step : ∀ (m b n : Nat) (l : List Nat), runT m b n = some l → 2 ≤ b → n ≤ 1000000 → l.length ≤ m ∧ (∀ x ∈ l, x ≤ 1000000) ∧ (∀ j x y, (n :: l)[j]? = some x → l[j]? = some y → 0 < x ∧ upV (b + j) x ≤ 1000000 ∧ y + 1 = upV (b + j) x) ∧ (∀ z, (n :: l)[l.length]? = some z → z ≠ 0 → l.length = m)
  | 0, b, n, l, h, _, _ => by
    simp only [runT, Option.some.injEq] at h
    subst h
    exact ⟨by simp, by simp, by simp, by simp⟩
  | m + 1, b, n, l, h, hb, hn => by
    simp only [runT] at h
    split at h
    · rename_i h0
      simp only [Option.some.injEq] at h
      subst h
      subst h0
      refine ⟨by simp, by simp, by simp, fun z hz hz0 => ?_⟩
      simp at hz
      omega
    · rename_i h0
      have hp := upV_pos hb h0
      split at h
      · rename_i hu
        cases hr : runT m (b + 1) (upV b n - 1) with
        | none => rw [hr] at h; cases h
        | some l' =>
          rw [hr] at h
          simp only [Option.map_some, Option.some.injEq] at h
          subst h
          obtain ⟨i1, i2, i3, i4⟩ := runT_step m (b + 1) _ l' hr (by omega) (by omega)
          refine ⟨by simp; omega, ?_, ?_, ?_⟩
          · intro x hx
            rcases List.mem_cons.1 hx with rfl | hx
            · omega
            · exact i2 x hx
          · intro j x y hx hy
            cases j with
            | zero =>
              simp only [List.getElem?_cons_zero, Option.some.injEq] at hx hy
              subst hx
              subst hy
              exact ⟨by omega, hu, show upV b n - 1 + 1 = upV b n by omega⟩
            | succ j =>
              rw [List.getElem?_cons_succ] at hx hy
              have := i3 j x y hx hy
              rw [show b + (j + 1) = b + 1 + j by omega]
              exact this
          · intro z hz hz0
            rw [List.length_cons, List.getElem?_cons_succ] at hz
            rw [List.length_cons, i4 z hz hz0]
      · cases h
/-! ### the ordinals -/
def descT : Nat → List Nat → Option (List T)
  | _, [] => some []
  | b, x :: l => if ordP (her b x) = true then (descT (b + 1) l).map (fun ts => her b x :: ts) else none
def rowsQ (ts : List T) : Rw := ts.map fun t => [D.sl t.rows]
theorem rowsQ_len (ts : List T) : (rowsQ ts).length = ts.length := by simp [rowsQ]
theorem rowsQ_snoc (ts : List T) (t : T) : rowsQ ts ++ [[D.sl t.rows]] = rowsQ (ts ++ [t]) := by simp [rowsQ]
theorem descT_get : ∀ (l : List Nat) (b : Nat) (ts : List T), descT b l = some ts → ts.length = l.length ∧ ∀ j x, l[j]? = some x → ts[j]? = some (her (b + j) x) ∧ ordP (her (b + j) x) = true
  | [], b, ts, h => by
    simp only [descT, Option.some.injEq] at h
    subst h
    simp
  | x :: l, b, ts, h => by
    simp only [descT] at h
    split at h
    · rename_i ho
      cases hd : descT (b + 1) l with
      | none => rw [hd] at h; cases h
      | some ts' =>
        rw [hd] at h
        simp only [Option.map_some, Option.some.injEq] at h
        subst h
        obtain ⟨i1, i2⟩ := descT_get l (b + 1) ts' hd
        refine ⟨by simp [i1], fun j y hy => ?_⟩
        cases j with
        | zero =>
          simp only [List.getElem?_cons_zero, Option.some.injEq] at hy
          subst hy
          exact ⟨rfl, ho⟩
        | succ j =>
          rw [List.getElem?_cons_succ] at hy ⊢
          have := i2 j y hy
          rw [show b + (j + 1) = b + 1 + j by omega]
          exact this
    · cases h
def descR (o : Option (List T)) (K : Rw → Option (Rw × Bool)) (acc : List T) : Option (Rw × Bool) :=
  match o with
  | some ts => K (rowsQ (acc ++ ts))
  | none => some ([], false)
theorem iDesc_loop {k B : Nat} {o7 : Rw} {K : Rw → Option (Rw × Bool)} (hk : 2100000 < k) (hB : 2 ≤ B) (ho : o7.length ≤ 61) (h9 : B ≤ 1000) : ∀ (l : List Nat) (i : Nat) (acc : List T), i + l.length = o7.length → (∀ x ∈ l, x ≤ 1000000) → acc.length ≤ i →
    impl_DescentOf_l0 k B o7 K (rowsZ l) i (rowsQ acc) = descR (descT (B + i) l) K acc
  | [], i, acc, _, _, _ => by simp [rowsZ, impl_DescentOf_l0, descT, descR]
  | x :: l, i, acc, hi, hl, ha => by
    simp only [List.length_cons] at hi
    have hx := hl x List.mem_cons_self
    have hs := her_small (b := B + i) (n := x) (by omega) hx
    have h3 : cap = 1099511627776 := rfl
    show impl_DescentOf_l0 k B o7 K ([D.int .i64 (x : Int)] :: rowsZ l) i (rowsQ acc) = _
    simp only [impl_DescentOf_l0]
    refine ite_pos ⟨by omega, by omega⟩ ?_
    simp only [cell_i]
    rw [wid (n := (B : Int) + i) (by omega) (by omega), show (B : Int) + i = ((B + i : Nat) : Int) by omega]
    refine bind_of (hereditary_eq (b := B + i) (by omega) k x (by omega) hx) ?_
    refine bind_of (told_eq k _ (by omega) (by omega)) ?_
    simp only [descT]
    unfold toldT
    cases hp : ordP (her (B + i) x) with
    | true =>
      simp only [if_true]
      refine ite_pos (by rw [rowsQ_len]; omega) ?_
      rw [rowsQ_snoc, iDesc_loop hk hB ho h9 l (i + 1) _ (by omega) (fun y hy => hl y (List.mem_cons_of_mem _ hy)) (by simp; omega), show B + (i + 1) = B + i + 1 by omega]
      cases descT (B + i + 1) l with
      | none => rfl
      | some ts => simp [descR]
    | false => simp [descR]
theorem sDesc_loop {k B : Nat} {o7 : Rw} {K : Rw → Option (Rw × Bool)} (hk : 2100000 < k) (hB : 2 ≤ B) (ho : o7.length ≤ 61) (h9 : B ≤ 1000) : ∀ (l : List Nat) (i : Nat) (acc : List T), i + l.length = o7.length → (∀ x ∈ l, x ≤ 1000000) → acc.length ≤ i →
    spec_DescentOf_l0 k B o7 K (rowsZ l) i (rowsQ acc) = descR (descT (B + i) l) K acc
  | [], i, acc, _, _, _ => by simp [rowsZ, spec_DescentOf_l0, descT, descR]
  | x :: l, i, acc, hi, hl, ha => by
    simp only [List.length_cons] at hi
    have hx := hl x List.mem_cons_self
    have hs := her_small (b := B + i) (n := x) (by omega) hx
    have h3 : cap = 1099511627776 := rfl
    show spec_DescentOf_l0 k B o7 K ([D.int .i64 (x : Int)] :: rowsZ l) i (rowsQ acc) = _
    simp only [spec_DescentOf_l0]
    refine ite_pos ⟨by omega, by omega⟩ ?_
    simp only [cell_i]
    rw [wid (n := (B : Int) + i) (by omega) (by omega), show (B : Int) + i = ((B + i : Nat) : Int) by omega]
    refine bind_of (deForm_eq (b := B + i) (by omega) (by omega) k x (by omega) hx) ?_
    refine bind_of (odGood_all k _ (by omega) (by omega)) ?_
    simp only [descT]
    cases hp : ordP (her (B + i) x) with
    | true =>
      simp only [if_true]
      refine ite_pos (by rw [rowsQ_len]; omega) ?_
      rw [rowsQ_snoc, sDesc_loop hk hB ho h9 l (i + 1) _ (by omega) (fun y hy => hl y (List.mem_cons_of_mem _ hy)) (by simp; omega), show B + (i + 1) = B + i + 1 by omega]
      cases descT (B + i + 1) l with
      | none => rfl
      | some ts => simp [descR]
    | false => simp [descR]
end Go.Proofs.Try

namespace Go.Proofs.Try
open Go Go.AX T
theorem run_eq {k N B M : Nat} (hk : 2100000 < k) (hN : N ≤ 1000000) (h2 : 2 ≤ B) (hB : B ≤ 1000) (hM : M ≤ 60) : impl_GoodsteinRun k N B M = match runT M B N with | some l => some (rowsZ (N :: l), true) | none => some ([], false) := by
  unfold impl_GoodsteinRun
  refine bind_of (impl_in_eq _ _ _) ?_
  refine ite_pos (by simp; omega) ?_
  refine bind_of (baseOk_eq _) ?_
  refine ite_pos (by simp; omega) ?_
  refine bind_of (impl_in_eq _ _ _) ?_
  refine ite_pos (by simp; omega) ?_
  unfold impl_GoodsteinRun_p2
  have := iRun_loop (K := fun (v61 : Rw) => (impl_GoodsteinRun_p4 v61)) (B := B) (most := M) hk h2 hB hM M k N 0 [N] (by omega) (by omega) hN (by simp)
  refine this.trans ?_
  rw [Nat.add_zero]
  cases runT M B N <;> rfl
/-- Are the arguments in their ranges? -/
def okN (n b m : Int) : Bool := (decide (0 ≤ n) && decide (n ≤ 1000000)) && ((decide (2 ≤ b) && decide (b ≤ 1000)) && (decide (0 ≤ m) && decide (m ≤ 60)))
theorem run_out {k : Nat} {n b m : Int} (h : okN n b m = false) : impl_GoodsteinRun k n b m = some ([], false) := by
  unfold impl_GoodsteinRun
  unfold okN at h
  refine bind_of (impl_in_eq _ _ _) ?_
  cases h1 : (decide (0 ≤ n) && decide (n ≤ 1000000)) with
  | false => refine ite_neg (by simp) rfl
  | true =>
    rw [h1, Bool.true_and] at h
    refine ite_pos rfl ?_
    refine bind_of (baseOk_eq _) ?_
    cases h2 : (decide (2 ≤ b) && decide (b ≤ 1000)) with
    | false => refine ite_neg (by simp) rfl
    | true =>
      rw [h2, Bool.true_and] at h
      refine ite_pos rfl ?_
      refine bind_of (impl_in_eq _ _ _) ?_
      rw [h]
      refine ite_neg (by simp) rfl
def descA (N B M : Nat) : Rw × Bool :=
  match runT M B N with
  | some l => (match descT B (N :: l) with
    | some ts => (rowsQ ts, true)
    | none => ([], false))
  | none => ([], false)
theorem desc_eq {k N B M : Nat} (hk : 2100000 < k) (hN : N ≤ 1000000) (h2 : 2 ≤ B) (hB : B ≤ 1000) (hM : M ≤ 60) : impl_DescentOf k N B M = some (descA N B M) ∧ spec_DescentOf k N B M = some (descA N B M) := by
  unfold descA
  have h3 : cap = 1099511627776 := rfl
  constructor
  · unfold impl_DescentOf
    have hrun := run_eq hk hN h2 hB hM
    cases hr : runT M B N with
    | none => rw [hr] at hrun; refine bind_of hrun ?_; rfl
    | some l =>
      rw [hr] at hrun
      refine bind_of hrun ?_
      obtain ⟨r1, r2, _⟩ := runT_step M B N l hr h2 hN
      refine ite_pos rfl ?_
      unfold impl_DescentOf_p2
      rw [cond_true]
      refine ite_pos (by rw [rowsZ_len]; simp only [List.length_cons]; omega) ?_
      have := iDesc_loop (K := fun (v68 : Rw) => (impl_DescentOf_p5 v68)) (B := B) (o7 := rowsZ (N :: l)) hk h2 (by rw [rowsZ_len]; simp only [List.length_cons]; omega) hB (N :: l) 0 [] (by rw [rowsZ_len]; omega) (by
        intro x hx
        rcases List.mem_cons.1 hx with rfl | hx
        · exact hN
        · exact r2 x hx) (by simp)
      refine this.trans ?_
      rw [Nat.add_zero]
      cases hdd : descT B (N :: l) <;> simp [descR, hdd, impl_DescentOf_p5, spec_DescentOf_p6]
  · unfold spec_DescentOf
    refine bind_of (deBase_eq _ _) ?_
    refine ite_pos (by simp; omega) ?_
    have ht : spec_deTurns M = some true := by
      unfold spec_deTurns
      refine bind_of (l1In_eq _ _ _) ?_
      refine ite_pos (by simp; omega) rfl
    refine bind_of ht ?_
    refine ite_pos rfl ?_
    unfold spec_DescentOf_p2 spec_deRun
    have hrun := sRun_loop (K := fun (v20 : Rw) => some (v20, true)) hk M k N B [N] (by omega) h2 (by omega) hN (by simp; omega)
    cases hr : runT M B N with
    | none => rw [hr] at hrun; refine bind_of (y := ([], false)) hrun ?_; rfl
    | some l =>
      rw [hr] at hrun
      refine bind_of (y := (rowsZ (N :: l), true)) hrun ?_
      obtain ⟨r1, r2, _⟩ := runT_step M B N l hr h2 hN
      refine ite_pos rfl ?_
      unfold spec_DescentOf_p3
      rw [cond_true]
      refine ite_pos (by rw [rowsZ_len]; simp; omega) ?_
      have := sDesc_loop (K := fun (v74 : Rw) => (spec_DescentOf_p6 v74)) (B := B) (o7 := rowsZ (N :: l)) hk h2 (by rw [rowsZ_len]; simp only [List.length_cons]; omega) hB (N :: l) 0 [] (by rw [rowsZ_len]; omega) (by
        intro x hx
        rcases List.mem_cons.1 hx with rfl | hx
        · exact hN
        · exact r2 x hx) (by simp)
      refine this.trans ?_
      rw [Nat.add_zero]
      cases hdd : descT B (N :: l) <;> simp [descR, hdd, impl_DescentOf_p5, spec_DescentOf_p6]
theorem desc_out {k : Nat} {n b m : Int} (h : okN n b m = false) : impl_DescentOf k n b m = some ([], false) ∧ spec_DescentOf k n b m = some ([], false) := by
  constructor
  · unfold impl_DescentOf
    refine bind_of (run_out h) ?_
    rfl
  · unfold spec_DescentOf
    unfold okN at h
    refine bind_of (deBase_eq _ _) ?_
    rw [← Bool.and_assoc] at h
    cases h1 : ((decide (0 ≤ n) && decide (n ≤ 1000000)) && (decide (2 ≤ b) && decide (b ≤ 1000))) with
    | false => refine ite_neg (by simp) rfl
    | true =>
      rw [h1, Bool.true_and] at h
      refine ite_pos rfl ?_
      have ht : spec_deTurns m = some false := by
        unfold spec_deTurns
        refine bind_of (l1In_eq _ _ _) ?_
        rw [h]
        refine ite_neg (by simp) rfl
      refine bind_of ht ?_
      refine ite_neg (by simp) rfl
theorem row_sQ {α : Type} {ts : List T} {j : Nat} {t : T} {i : Int} (K : Rw → Option α) (hi : i = j) (h : ts[j]? = some t) : row_s (rowsQ ts) i K = K t.rows := by
  subst hi
  unfold row_s
  have : (rowsQ ts)[j]? = some [D.sl t.rows] := by simp [rowsQ, h]
  rw [if_pos (by omega), Int.toNat_natCast, this]
  rfl
theorem row_iZ {α : Type} {l : List Nat} {j : Nat} {x : Nat} {i : Int} (K : Int → Option α) (hi : i = j) (h : l[j]? = some x) : row_i (rowsZ l) i K = K x := by
  subst hi
  unfold row_i
  have : (rowsZ l)[j]? = some [D.int .i64 (x : Int)] := by simp [rowsZ, h]
  rw [if_pos (by omega), Int.toNat_natCast, this]
  rfl
theorem allOrd {k : Nat} {a1 : Rw} {K : Option Int} (hk : 2100000 < k) : ∀ (ts : List T) (i : Nat), (∀ t ∈ ts, ordP t = true) → slices_IndexFunc__IsDescent_1_l0 k a1 K (rowsQ ts) i = K
  | [], i, _ => by simp [rowsQ, slices_IndexFunc__IsDescent_1_l0]
  | t :: ts, i, h => by
    have ht := h t List.mem_cons_self
    have hz := ordP_size ht
    have h3 : cap = 1099511627776 := rfl
    show slices_IndexFunc__IsDescent_1_l0 k a1 K ([D.sl t.rows] :: rowsQ ts) i = K
    simp only [slices_IndexFunc__IsDescent_1_l0, cell_s]
    have e : impl_IsDescent_1 k t.rows = some false := by
      unfold impl_IsDescent_1
      refine bind_of (IsOrdinal_eq k t (by omega) (by omega)) ?_
      rw [ht]; rfl
    refine bind_of e ?_
    refine ite_neg (by simp) ?_
    exact allOrd hk ts (i + 1) fun u hu => h u (List.mem_cons_of_mem _ hu)
theorem falls_loop {k : Nat} {ts : List T} {K : Bool → Option (Bool × Bool)} (hk : 2100000 < k) (hl : ts.length ≤ 61) (ho : ∀ t ∈ ts, ordP t = true) (hf : ∀ j a b, ts[j]? = some a → ts[j + 1]? = some b → 0 < cmpT a b) :
    ∀ (f i : Nat), ts.length < f + i → 1 ≤ i → i ≤ ts.length → impl_IsDescent_l0 k (rowsQ ts) K f i true = K true
  | 0, i, h, _, _ => by omega
  | f + 1, i, h, h1, hi => by
    have h3 : cap = 1099511627776 := rfl
    simp only [impl_IsDescent_l0, cond_true, rowsQ_len]
    by_cases g : i < ts.length
    · refine ite_pos (by omega) ?_
      obtain ⟨a, ha⟩ : ∃ a, ts[i - 1]? = some a := ⟨ts[i - 1], List.getElem?_eq_getElem (by omega)⟩
      obtain ⟨b, hb⟩ : ∃ b, ts[i]? = some b := ⟨ts[i], List.getElem?_eq_getElem g⟩
      rw [wid (n := (i : Int) - 1) (by omega) (by omega), row_sQ (j := i - 1) _ (by omega) ha, row_sQ (j := i) _ rfl hb]
      have hza := ordP_size (ho a (List.mem_of_getElem? ha))
      refine bind_of (impl_cmp_eq k a b (by omega) (by omega)) ?_
      have hc := hf (i - 1) a b ha (by rw [show i - 1 + 1 = i by omega]; exact hb)
      refine ite_pos hc ?_
      rw [wid (n := (i : Int) + 1) (by omega) (by omega), show (i : Int) + 1 = ((i + 1 : Nat) : Int) by omega]
      exact falls_loop hk hl ho hf f (i + 1) (by omega) (by omega) (by omega)
    · exact ite_neg (by omega) rfl
theorem isDesc_eq {k : Nat} {ts : List T} (hk : 2100000 < k) (h0 : 1 ≤ ts.length) (hl : ts.length ≤ 61) (ho : ∀ t ∈ ts, ordP t = true) (hf : ∀ j a b, ts[j]? = some a → ts[j + 1]? = some b → 0 < cmpT a b) : impl_IsDescent k (rowsQ ts) = some (true, true) := by
  unfold impl_IsDescent
  refine ite_neg (by rw [rowsQ_len]; omega) ?_
  have e : slices_ContainsFunc__IsDescent_1 k (rowsQ ts) = some false := by
    unfold slices_ContainsFunc__IsDescent_1 slices_IndexFunc__IsDescent_1
    refine bind_of (y := -1) ?_ rfl
    refine ite_pos (by rw [rowsQ_len]; simp only [cap]; omega) ?_
    exact allOrd hk ts 0 ho
  refine bind_of e ?_
  refine ite_neg (by simp) ?_
  refine (falls_loop (K := fun (v19 : Bool) => (cond v19 (some (true, true)) (some (false, true)))) hk hl ho hf k 1 (by omega) (by omega) h0).trans rfl
theorem qsame_loop {rec_ : Rw → Rw → Option Bool} {a : T} (hr : ∀ e : T, e.size < a.size → rec_ e.rows e.rows = some true) : ∀ (t : T) (i : Nat), drop a i = t → laws_qSameOrdinal_l0 rec_ a.rows a.rows (laws_qSameOrdinal_p3) t.rows i = some true
  | nil, i, _ => rfl
  | cons e c l, i, hd => by
    have hs := drop_cons_size hd
    simp only [rows, laws_qSameOrdinal_l0, cell_T]
    rw [row_T rfl hd, if_pos rfl, hr e (by omega), Option.bind_some, if_pos rfl]
    exact qsame_loop hr l (i + 1) (drop_succ hd)
theorem qsame_refl : ∀ (k : Nat) (a : T), a.size < k → a.size ≤ cap → laws_qSameOrdinal k a.rows a.rows = some true
  | 0, _, h, _ => absurd h (Nat.not_lt_zero _)
  | k + 1, a, h, hc => by
    have := a.len_size
    simp only [laws_qSameOrdinal, laws_qSameOrdinal_b]
    rw [if_pos trivial, if_pos (by rw [rows_len]; omega)]
    exact qsame_loop (fun e he => qsame_refl k e (by omega) (by omega)) a 0 (drop_zero a)
theorem steps_eq {k N B M : Nat} {l : List Nat} {z : Nat} (hk : 2100000 < k) (hN : N ≤ 1000000) (h2 : 2 ≤ B) (hB : B ≤ 1000) (hM : M ≤ 60) (hr : runT M B N = some l) (hz : (N :: l)[l.length]? = some z) : impl_StepsToZero k N B M = some (if z = 0 then ((l.length : Int), true) else (0, false)) := by
  obtain ⟨r1, _⟩ := runT_step M B N l hr h2 hN
  unfold impl_StepsToZero
  have := run_eq hk hN h2 hB hM
  rw [hr] at this
  refine bind_of this ?_
  refine ite_pos rfl ?_
  rw [rowsZ_len, List.length_cons, wid (n := ((l.length + 1 : Nat) : Int) - 1) (by omega) (by omega)]
  refine ite_pos ⟨by omega, by omega⟩ ?_
  rw [row_iZ (j := l.length) _ (by omega) hz]
  by_cases h : z = 0
  · rw [if_pos h]
    refine ite_pos (by omega) ?_
    rw [show ((l.length + 1 : Nat) : Int) - 1 = (l.length : Int) by omega]
  · rw [if_neg h]
    exact ite_neg (by omega) rfl
theorem law_loop {k N B M : Nat} {l : List Nat} {ts : List T} {K : Option Bool} (hk : 2100000 < k) (hN : N ≤ 1000000) (h2 : 2 ≤ B) (hB : B ≤ 1000) (hM : M ≤ 60) (hr : runT M B N = some l) (hd : descT B (N :: l) = some ts) (hK : K = some true) :
    ∀ (f i : Nat), l.length < f + i → i ≤ l.length → laws_FnGoodsteinFalls_l0 k N B M (rowsQ ts) (rowsQ ts) (rowsZ (N :: l)) K f i = some true
  | 0, i, h, _ => by omega
  | f + 1, i, h, hi => by
    obtain ⟨r1, r2, r3, r4⟩ := runT_step M B N l hr h2 hN
    obtain ⟨d1, d2⟩ := descT_get _ _ _ hd
    have h3 : cap = 1099511627776 := rfl
    simp only [laws_FnGoodsteinFalls_l0, rowsZ_len, List.length_cons]
    rw [wid (n := (i : Int) + 1) (by omega) (by omega)]
    by_cases g : i < l.length
    · refine ite_pos (by omega) ?_
      obtain ⟨x, hx⟩ : ∃ x, (N :: l)[i]? = some x := ⟨(N :: l)[i]'(by simp; omega), List.getElem?_eq_getElem (by simp; omega)⟩
      obtain ⟨y, hy⟩ : ∃ y, l[i]? = some y := ⟨l[i], List.getElem?_eq_getElem g⟩
      obtain ⟨e1, e2⟩ := d2 i x hx
      obtain ⟨s1, s2, s3⟩ := r3 i x y hx hy
      have hz := ordP_size e2
      have hx9 : x ≤ 1000000 := by
        cases i with
        | zero => simp at hx; omega
        | succ i => rw [List.getElem?_cons_succ] at hx; exact r2 x (List.mem_of_getElem? hx)
      rw [row_sQ (j := i) _ rfl e1, row_sQ (j := i) _ rfl e1]
      refine bind_of (qsame_refl k _ (by omega) (by omega)) ?_
      refine ite_pos rfl ?_
      rw [wid (n := (B : Int) + i) (by omega) (by omega)]
      by_cases g9 : 1000 ≤ B + i
      · refine ite_pos (by omega) ?_
        exact bind_of (qsame_refl k _ (by omega) (by omega)) rfl
      · refine ite_neg (by omega) ?_
        refine ite_pos ⟨by omega, by omega⟩ ?_
        rw [row_iZ (j := i) _ rfl hx, show (B : Int) + i = ((B + i : Nat) : Int) by omega]
        have hraise : impl_RaiseBase k x ((B + i : Nat) : Int) = some ((upV (B + i) x : Int), true) := by
          unfold impl_RaiseBase
          refine bind_of (impl_in_eq _ _ _) ?_
          refine ite_pos (by simp; omega) ?_
          refine bind_of (baseOk_eq _) ?_
          refine ite_pos (by simp; omega) ?_
          refine bind_of (hereditary_eq (b := B + i) (by omega) k x (by omega) hx9) ?_
          rw [wid (n := ((B + i : Nat) : Int) + 1) (by omega) (by omega)]
          refine bind_of (her_value hk (by omega) (by omega) hx9).1 ?_
          unfold cutV
          rw [if_pos s2]
          exact ite_neg (by omega) rfl
        refine bind_of hraise ?_
        refine ite_pos rfl ?_
        refine bind_of (herOrd_eq (B := B + i) hk hx9 (by omega) (by omega)) ?_
        have ht : toldT (her (B + i) x) = (her (B + i) x, true) := by unfold toldT; rw [if_pos e2]
        rw [ht]
        refine ite_pos rfl ?_
        refine ite_pos ⟨by omega, by omega⟩ ?_
        rw [row_iZ (l := N :: l) (j := i + 1) (x := y) _ (by omega) (by rw [List.getElem?_cons_succ]; exact hy)]
        have hy9 := r2 y (List.mem_of_getElem? hy)
        rw [wid (n := (y : Int) + 1) (by omega) (by omega)]
        refine ite_pos (by omega) ?_
        refine bind_of (qsame_refl k (her (B + i) x) (by omega) (by omega)) ?_
        refine ite_pos rfl ?_
        rw [show (i : Int) + 1 = ((i + 1 : Nat) : Int) by omega]
        exact law_loop hk hN h2 hB hM hr hd hK f (i + 1) (by omega) (by omega)
    · exact ite_neg (by omega) hK
theorem p3_good {k : Nat} (hk : 2100000 < k) (n b m : Int) : laws_FnGoodsteinFalls_p3 k n b m = some true := by
  unfold laws_FnGoodsteinFalls_p3
  cases h : okN n b m with
  | false =>
    obtain ⟨e1, e2⟩ := desc_out (k := k) h
    refine bind_of e1 ?_
    refine ite_neg (by simp) ?_
    unfold laws_FnGoodsteinFalls_p4
    rw [cond_false]
    refine bind_of e2 ?_
    refine ite_neg (by simp) ?_
    rfl
  | true =>
    unfold okN at h
    simp only [Bool.and_eq_true, decide_eq_true_eq] at h
    obtain ⟨N, rfl⟩ : ∃ N : Nat, n = N := ⟨n.toNat, by omega⟩
    obtain ⟨B, rfl⟩ : ∃ B : Nat, b = B := ⟨b.toNat, by omega⟩
    obtain ⟨M, rfl⟩ : ∃ M : Nat, m = M := ⟨m.toNat, by omega⟩
    have hN : N ≤ 1000000 := by omega
    have h2 : 2 ≤ B := by omega
    have hB : B ≤ 1000 := by omega
    have hM : M ≤ 60 := by omega
    obtain ⟨e1, e2⟩ := desc_eq hk hN h2 hB hM
    refine bind_of e1 ?_
    have hrun := run_eq hk hN h2 hB hM
    unfold descA at e2 ⊢
    cases hr : runT M B N with
    | none =>
      rw [hr] at e2
      refine ite_neg (by simp) ?_
      unfold laws_FnGoodsteinFalls_p4
      rw [cond_false]
      refine bind_of e2 ?_
      refine ite_neg (by simp) ?_
      rfl
    | some l =>
      rw [hr] at e2 hrun
      obtain ⟨r1, r2, r3, r4⟩ := runT_step M B N l hr h2 hN
      cases hd : descT B (N :: l) with
      | none =>
        simp only [hd] at e2 ⊢
        refine ite_neg (by simp) ?_
        unfold laws_FnGoodsteinFalls_p4
        rw [cond_false]
        refine bind_of e2 ?_
        refine ite_neg (by simp) ?_
        rfl
      | some ts =>
        simp only [hd] at e2 ⊢
        obtain ⟨d1, d2⟩ := descT_get _ _ _ hd
        rw [List.length_cons] at d1
        refine ite_pos (by trivial) ?_
        unfold laws_FnGoodsteinFalls_p4
        rw [cond_true]
        refine bind_of e2 ?_
        refine ite_pos rfl ?_
        unfold laws_FnGoodsteinFalls_p5
        rw [cond_true, cond_true]
        refine ite_pos rfl ?_
        refine bind_of hrun ?_
        refine ite_pos rfl ?_
        unfold laws_FnGoodsteinFalls_p8
        rw [cond_true]
        have hlen : ∀ j a, ts[j]? = some a → ∃ x, (N :: l)[j]? = some x ∧ a = her (B + j) x ∧ ordP a = true := by
          intro j a ha
          have hj := (List.getElem?_eq_some_iff.1 ha).1
          obtain ⟨x, hx⟩ : ∃ x, (N :: l)[j]? = some x := ⟨(N :: l)[j]'(by simp; omega), List.getElem?_eq_getElem (by simp; omega)⟩
          obtain ⟨q1, q2⟩ := d2 j x hx
          rw [ha] at q1
          simp only [Option.some.injEq] at q1
          exact ⟨x, hx, q1, by rw [q1]; exact q2⟩
        have ho : ∀ t ∈ ts, ordP t = true := by
          intro t ht
          obtain ⟨j, hj⟩ := List.getElem?_of_mem ht
          exact (hlen j t hj).choose_spec.2.2
        have hf : ∀ j a b, ts[j]? = some a → ts[j + 1]? = some b → 0 < cmpT a b := by
          intro j a b ha hb
          obtain ⟨x, hx, rfl, _⟩ := hlen j a ha
          obtain ⟨y, hy, rfl, _⟩ := hlen (j + 1) b hb
          rw [List.getElem?_cons_succ] at hy
          obtain ⟨s1, s2, s3⟩ := r3 j x y hx hy
          have := good_falls (b := B + j) (n := x) (by omega) s1
          unfold upV at s3
          rw [← s3, Nat.add_sub_cancel] at this
          exact this
        refine bind_of (isDesc_eq hk (by omega) (by omega) ho hf) ?_
        refine ite_pos rfl ?_
        refine ite_pos rfl ?_
        unfold laws_FnGoodsteinFalls_p9
        rw [cond_true, cond_true, cond_true]
        refine ite_pos (by rw [rowsZ_len, rowsQ_len, d1]; simp) ?_
        refine ite_pos ⟨by omega, by rw [rowsZ_len]; simp⟩ ?_
        dsimp only
        refine (row_iZ (l := N :: l) (j := 0) (x := N) (i := 0) _ rfl rfl).trans ?_
        refine ite_pos rfl ?_
        refine law_loop hk hN h2 hB hM hr hd ?_ k 0 (by omega) (by omega)
        unfold laws_FnGoodsteinFalls_p11
        obtain ⟨z, hz⟩ : ∃ z, (N :: l)[l.length]? = some z := ⟨(N :: l)[l.length]'(by simp), List.getElem?_eq_getElem (by simp)⟩
        refine bind_of (steps_eq hk hN h2 hB hM hr hz) ?_
        by_cases h0 : z = 0
        · rw [if_pos h0]
          refine ite_pos rfl ?_
          unfold laws_FnGoodsteinFalls_p12
          rw [cond_true, rowsZ_len, List.length_cons, wid (n := ((l.length + 1 : Nat) : Int) - 1) (by omega) (by omega)]
          refine ite_pos ⟨by omega, by omega⟩ ?_
          rw [row_iZ (j := l.length) _ (by omega) hz]
          refine ite_pos (by omega) ?_
          exact ite_pos (by show (l.length : Int) = _; omega) rfl
        · rw [if_neg h0]
          refine ite_neg (by simp) ?_
          unfold laws_FnGoodsteinFalls_p12
          rw [cond_false, rowsZ_len, List.length_cons, wid (n := ((l.length + 1 : Nat) : Int) - 1) (by omega) (by omega)]
          refine ite_pos ⟨by omega, by omega⟩ ?_
          rw [row_iZ (j := l.length) _ (by omega) hz]
          refine ite_neg (by omega) ?_
          have := r4 z hz h0
          rw [wid (n := (M : Int) + 1) (by omega) (by omega)]
          exact ite_pos (by omega) rfl
theorem turns_ok {x : Rw} {a c : Int} (hx : bytes x) (h0 : 0 ≤ a) (h1 : a ≤ 90000000) : Drew x a 4 (spec_l1Cur_turns x a c) (fun _ => True) := by
  unfold spec_l1Cur_turns
  refine Drew.bind (n := 2) (m := 2) (one_ok hx h0 (by omega) (by omega)) fun v a' c' q1 q2 q3 => ?_
  dsimp only
  cases v with
  | true =>
    rw [if_pos rfl]
    refine Drew.mono (Drew.bind (n := 2) (m := 0) (among_ok (Q := fun _ => True) hx q1 (by omega) (by simp) (by
      intro r hr
      simp only [List.mem_cons, List.not_mem_nil, or_false] at hr
      rcases hr with rfl | rfl | rfl | rfl <;> exact ⟨_, rfl, trivial⟩)) fun v2 a2 c2 p1 p2 p3 => ⟨_, a2, _, rfl, p1, by omega, trivial⟩) (by omega)
  | false =>
    rw [if_neg (by simp)]
    exact Drew.mono (Drew.bind (n := 2) (m := 0) (pick_ok hx q1 (by omega) (by omega)) fun v2 a2 c2 p1 p2 p3 => ⟨_, a2, _, rfl, p1, by omega, trivial⟩) (by omega)
theorem FnGoodsteinFalls_pure {x y : Rw} (hx : bytes x) (hy : bytes y) : laws_FnGoodsteinFalls 6000000 x y = some true := by
  have p2 : laws_FnGoodsteinFalls_p2 6000000 x = some true := by
    unfold laws_FnGoodsteinFalls_p2 spec_DrawDescentOf
    obtain ⟨v, a', c', e, h1, h2, _⟩ := count9_ok (c := 0) hx (a := 0) (by omega) (by omega)
    obtain ⟨v2, a2, c2, e2, h3, h4, _⟩ := base_ok (c := c') hx h1 (by omega)
    obtain ⟨v3, a3, c3, e3, _⟩ := turns_ok (c := c2) hx h3 (by omega)
    rw [e, Option.bind_some, e2, Option.bind_some, e3, Option.bind_some, Option.bind_some]
    exact p3_good (by omega) v v2 v3
  unfold laws_FnGoodsteinFalls laws_big
  by_cases g1 : (1048576 : Int) < (x.length : Int)
  · rw [if_pos g1]; rfl
  · rw [if_neg g1]
    by_cases g2 : IntKind.i64.wrap (1048576 - (x.length : Int)) < (y.length : Int)
    · rw [if_pos g2]; rfl
    · rw [if_neg g2, Option.bind_some]
      refine ite_neg (by simp) p2
end Go.Proofs.Try

namespace Go.Proofs.Try
open Go Go.AX
def structTs (P : Program) (t : TypeId) : Option (List TypeId) := match P.underlying t with
  | some (.struct fs) => some (fs.toList.map fun f => f.type)
  | _ => none
def sliceT (P : Program) (t : TypeId) : Option TypeId := match P.underlying t with
  | some (.slice e) => some e
  | _ => none
def intT? (P : Program) (t : TypeId) : Option IntKind := match P.underlying t with
  | some (.int k) => some k
  | _ => none
def HasTs (H : TypeId → List D → Prop) : List TypeId → List D → Prop
  | [], ds => ds = []
  | t :: l, ds => ∃ a b, ds = a ++ b ∧ H t a ∧ HasTs H l b
theorem hasTs_of {H : TypeId → List D → Prop} : ∀ {l : List Field} {ds : List D}, HasFs H l ds → HasTs H (l.map fun f => f.type) ds
  | [], _, h => h
  | _ :: _, _, ⟨a, b, e, h1, h2⟩ => ⟨a, b, e, h1, hasTs_of h2⟩
theorem has_struct {P : Program} {n : Nat} {t : TypeId} {l : List TypeId} {ds : List D} (h : Has P (n + 1) t ds) (e : structTs P t = some l) : HasTs (Has P n) l ds := by
  unfold structTs at e
  simp only [Has] at h
  split at e
  · rename_i fs hu
    rw [hu] at h
    cases e
    exact hasTs_of h
  · cases e
theorem has_slice {P : Program} {n : Nat} {t u : TypeId} {ds : List D} (h : Has P (n + 1) t ds) (e : sliceT P t = some u) : ∃ es, ds = [.sl es] ∧ es.length ≤ maxLen ∧ ∀ r ∈ es, Has P n u r := by
  unfold sliceT at e
  simp only [Has] at h
  split at e
  · rename_i v hu
    rw [hu] at h
    cases e
    exact h
  · cases e
theorem has_int {P : Program} {n : Nat} {t : TypeId} {k : IntKind} {ds : List D} (h : Has P (n + 1) t ds) (e : intT? P t = some k) : ∃ i, ds = [.int k i] ∧ (Lit.int k i).wf = true := by
  unfold intT? at e
  simp only [Has] at h
  split at e
  · rename_i v hu
    rw [hu] at h
    cases e
    exact h
  · cases e
theorem has_bool {P : Program} {n : Nat} {t : TypeId} {ds : List D} (h : Has P (n + 1) t ds) (e : (match P.underlying t with | some .bool => true | _ => false) = true) : ∃ b, ds = [.bool b] := by
  simp only [Has] at h
  split at e
  · rename_i hu
    rw [hu] at h
    exact h
  · cases e
theorem has_str {P : Program} {n : Nat} {t : TypeId} {ds : List D} (h : Has P (n + 1) t ds) (e : (match P.underlying t with | some .string => true | _ => false) = true) : ∃ b, ds = [.str b] ∧ b.size ≤ maxLen := by
  simp only [Has] at h
  split at e
  · rename_i hu
    rw [hu] at h
    exact h
  · cases e
/-- Bytes. -/
def bytesOf (x : Rw) : Prop := ∀ r ∈ x, ∃ b : Int, r = [.int .u8 b] ∧ 0 ≤ b ∧ b < 256
theorem has_bytes {P : Program} {n : Nat} {t u : TypeId} {ds : List D} (h : Has P n t ds) (e : sliceT P t = some u) (e2 : intT? P u = some .u8) : ∃ es, ds = [.sl es] ∧ bytesOf es := by
  cases n with
  | zero => exact h.elim
  | succ n =>
    obtain ⟨es, rfl, _, hr⟩ := has_slice h e
    refine ⟨es, rfl, fun r hm => ?_⟩
    have hh := hr r hm
    cases n with
    | zero => exact hh.elim
    | succ n =>
      obtain ⟨i, rfl, hw⟩ := has_int hh e2
      have e1 : IntKind.u8.min = 0 := by decide
      have e2 : IntKind.u8.max = 255 := by decide
      simp only [Lit.wf, e1, e2, Bool.and_eq_true, decide_eq_true_eq] at hw
      exact ⟨i, rfl, by omega, by omega⟩
theorem argA_agg {P : Program} {t : TypeId} (e : aggT P t = true) (ds : List D) : argA P t ds = .agg (ds.map .d) := by unfold argA; rw [e]
theorem argA_one {P : Program} {t : TypeId} (e : aggT P t = false) (ds : List D) : argA P t ds = .d (ds.headD (.bool false)) := by unfold argA; rw [e]
theorem has_int1 {P : Program} {n : Nat} {t : TypeId} {k : IntKind} {ds : List D} (h : Has P n t ds) (e : intT? P t = some k) : ∃ i, ds = [.int k i] ∧ (Lit.int k i).wf = true := by
  cases n with
  | zero => exact h.elim
  | succ n => exact has_int h e
end Go.Proofs.Try

namespace Go.Proofs.Try
open Go Go.AX
set_option maxRecDepth 100000 in
theorem FnGoodsteinFalls_true {n0 n1 : Nat} {c0 c1 : List D} (w0 : Has prog n0 22 c0) (w1 : Has prog n1 22 c1) : Ct prog 5 [argA prog 22 c0, argA prog 22 c1] ⟨[], []⟩ (.d (.bool true)) ⟨[], []⟩ := by
  obtain ⟨u, rfl, bu⟩ := has_bytes w0 (u := 5) (by kernel_rfl) (by kernel_rfl)
  obtain ⟨v, rfl, bv⟩ := has_bytes w1 (u := 5) (by kernel_rfl) (by kernel_rfl)
  rw [argA_one (t := 22) (by kernel_rfl), argA_one (t := 22) (by kernel_rfl)]
  exact laws_FnGoodsteinFalls_ct (FnGoodsteinFalls_pure bu bv)
end Go.Proofs.Try
