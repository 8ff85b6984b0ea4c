/- What the printed functions compute: plain data. -/
import Derived.Test.YtmgjijfhbpajcaaDoorHL0
import Derived.Lib.Strings
import Derived.Lib.Join
import Derived.Lib.ItoaLen
set_option linter.unusedVariables false
set_option linter.unusedSimpArgs false
namespace Go.Proofs.Tryd
open Go Go.AX

theorem wid {n : Int} (h1 : -9223372036854775808 ≤ n) (h2 : n < 9223372036854775808) : IntKind.i64.wrap n = n := wrap_in h1 h2
/-- An ordinal: its terms, exponents and coefficients. -/
inductive T where
  | nil
  | cons (e : T) (c : Int) (l : T)
namespace T
def rows : T → Rw
  | nil => []
  | cons e c l => [.sl (rows e), .int .i64 c] :: rows l
def size : T → Nat
  | nil => 0
  | cons e _ l => size e + size l + 1
def len : T → Nat
  | nil => 0
  | cons _ _ l => len l + 1
def drop : T → Nat → T
  | t, 0 => t
  | nil, _ + 1 => nil
  | cons _ _ l, n + 1 => drop l n
def app : T → T → T
  | nil, b => b
  | cons e c l, b => cons e c (app l b)
@[simp] theorem drop_zero (t : T) : drop t 0 = t := by cases t <;> rfl
@[simp] theorem drop_nil (n : Nat) : drop nil n = nil := by cases n <;> rfl
@[simp] theorem rows_len (t : T) : (rows t).length = len t := by
  induction t with
  | nil => rfl
  | cons e c l _ ih => simp [rows, len, ih]
theorem len_size (t : T) : len t ≤ size t := by
  induction t with
  | nil => simp [len]
  | cons e c l _ ih => simp [len, size]; omega
@[simp] theorem rows_app (a b : T) : rows (app a b) = rows a ++ rows b := by
  induction a with
  | nil => rfl
  | cons e c l _ ih => simp [app, rows, ih]
theorem rows_drop (t : T) (i : Nat) : rows (drop t i) = (rows t).drop i := by
  induction t generalizing i with
  | nil => cases i <;> simp [drop, rows]
  | cons e c l _ ih => cases i with
    | zero => simp [drop]
    | succ i => simp [drop, rows, ih]
theorem rowsWide (t : T) : ∀ cs ∈ rows t, cs.length = 2 := by
  induction t with
  | nil => intro cs h; cases h
  | cons e c l _ ih =>
    intro cs h
    simp only [rows, List.mem_cons] at h
    rcases h with rfl | h
    · rfl
    · exact ih cs h
theorem rowsWide_drop (t : T) (i : Nat) : ∀ cs ∈ (rows t).drop i, cs.length = 2 := fun cs h => rowsWide t cs (List.mem_of_mem_drop h)
theorem drop_len (t : T) (i : Nat) : len (drop t i) = len t - i := by rw [← rows_len, rows_drop, List.length_drop, rows_len]
theorem drop_succ {t : T} {i : Nat} {e : T} {c : Int} {l : T} (h : drop t i = cons e c l) : drop t (i + 1) = l := by
  induction t generalizing i with
  | nil => simp at h
  | cons e' c' l' _ ih =>
    cases i with
    | zero => simp only [drop, cons.injEq] at h ⊢; simp [h.2.2]
    | succ i => exact ih h
theorem drop_size {t : T} {i : Nat} : size (drop t i) ≤ size t := by
  induction t generalizing i with
  | nil => simp
  | cons e c l _ ih =>
    cases i with
    | zero => simp
    | succ i => simp only [drop, size]; have := ih (i := i); omega
theorem drop_cons_size {t : T} {i : Nat} {e : T} {c : Int} {l : T} (h : drop t i = cons e c l) : size e + size l + 1 ≤ size t := by
  have := drop_size (t := t) (i := i); rw [h] at this; exact this
theorem drop_lt {t : T} {i : Nat} {e : T} {c : Int} {l : T} (h : drop t i = cons e c l) : i < len t := by
  have := drop_len t i; rw [h] at this; simp only [len] at this; omega
theorem drop_ge {t : T} {i : Nat} (h : drop t i = nil) : len t ≤ i := by
  have := drop_len t i; rw [h] at this; simp only [len] at this; omega
theorem drop_of_ge {t : T} {i : Nat} (h : len t ≤ i) : drop t i = nil := by
  have := drop_len t i
  cases hd : drop t i with
  | nil => rfl
  | cons e c l => rw [hd] at this; simp only [len] at this; omega
theorem rows_get {t : T} {i : Nat} {e : T} {c : Int} {l : T} (h : drop t i = cons e c l) : (rows t)[i]? = some [.sl (rows e), .int .i64 c] := by
  have := rows_drop t i
  rw [h] at this
  have h2 : ((rows t).drop i)[0]? = some [.sl (rows e), .int .i64 c] := by rw [← this]; rfl
  rwa [List.getElem?_drop, Nat.add_zero] at h2
@[simp] theorem app_nil (t : T) : app t nil = t := by
  induction t with
  | nil => rfl
  | cons e c l _ ih => simp [app, ih]
theorem app_assoc (a b c : T) : app (app a b) c = app a (app b c) := by
  induction a with
  | nil => rfl
  | cons e k l _ ih => simp [app, ih]
theorem size_app (a b : T) : (app a b).size = a.size + b.size := by
  induction a with
  | nil => simp [app, size]
  | cons e c l _ ih => simp [app, size, ih]; omega
theorem len_app (a b : T) : (app a b).len = a.len + b.len := by
  induction a with
  | nil => simp [app, len]
  | cons e c l _ ih => simp [app, len, ih]; omega
theorem rows_inj : ∀ {a b : T}, rows a = rows b → a = b
  | nil, nil, _ => rfl
  | nil, cons _ _ _, h => by simp [rows] at h
  | cons _ _ _, nil, h => by simp [rows] at h
  | cons e c l, cons f d m, h => by
    simp only [rows, List.cons.injEq, D.sl.injEq, D.int.injEq, true_and, and_true] at h
    obtain ⟨⟨h1, h2⟩, h3⟩ := h
    rw [rows_inj h1, h2, rows_inj h3]
end T
open T
theorem row_rows {α : Type} {t : T} {i : Int} {n : Nat} (hi : i = n) {e : T} {c : Int} {l : T} (h : drop t n = cons e c l) (F : Rw → List D → Option α) : (if 0 ≤ i then (match (rows t)[i.toNat]? with | some cs => F (rows t) cs | none => none) else none) = F (rows t) [.sl (rows e), .int .i64 c] := by
  subst hi
  rw [if_pos (by omega), Int.toNat_natCast, rows_get h]

/-! ### the order -/
def cmpI (a b : Int) : Int := if a < b then -1 else if b < a then 1 else 0
def cmpT : T → T → Int
  | nil, nil => 0
  | nil, cons _ _ _ => -1
  | cons _ _ _, nil => 1
  | cons e c l, cons f d m => if cmpT e f = 0 then (if cmpI c d = 0 then cmpT l m else cmpI c d) else cmpT e f
theorem cmpI_refl (a : Int) : cmpI a a = 0 := by simp [cmpI]
theorem cmpI_eq {a b : Int} : cmpI a b = 0 ↔ a = b := by unfold cmpI; split <;> (try split) <;> simp <;> omega
theorem cmpI_neg (a b : Int) : cmpI b a = - cmpI a b := by unfold cmpI; split <;> split <;> (try split) <;> omega
theorem cmpT_range (a b : T) : cmpT a b = -1 ∨ cmpT a b = 0 ∨ cmpT a b = 1 := by
  induction a generalizing b with
  | nil => cases b <;> simp [cmpT]
  | cons e c l ihe ihl =>
    cases b with
    | nil => simp [cmpT]
    | cons f d m =>
      simp only [cmpT]
      split
      · split
        · exact ihl m
        · unfold cmpI; split <;> (try split) <;> simp
      · exact ihe f
theorem cmpT_refl (a : T) : cmpT a a = 0 := by
  induction a with
  | nil => rfl
  | cons e c l ihe ihl => simp [cmpT, ihe, ihl, cmpI_refl]
theorem cmpT_eq {a b : T} : cmpT a b = 0 ↔ a = b := by
  induction a generalizing b with
  | nil => cases b <;> simp [cmpT]
  | cons e c l ihe ihl =>
    cases b with
    | nil => simp [cmpT]
    | cons f d m =>
      simp only [cmpT, cons.injEq]
      constructor
      · intro h
        split at h
        · rename_i h1
          split at h
          · rename_i h2; exact ⟨ihe.1 h1, cmpI_eq.1 h2, ihl.1 h⟩
          · rename_i h2; exact absurd h h2
        · rename_i h1; exact absurd h h1
      · rintro ⟨rfl, rfl, rfl⟩
        rw [if_pos (cmpT_refl e), if_pos (cmpI_refl c)]; exact cmpT_refl l
theorem cmpT_neg (a b : T) : cmpT b a = - cmpT a b := by
  induction a generalizing b with
  | nil => cases b <;> simp [cmpT]
  | cons e c l ihe ihl =>
    cases b with
    | nil => simp [cmpT]
    | cons f d m =>
      simp only [cmpT, ihe f, ihl m, cmpI_neg c d]
      split <;> split <;> (try split) <;> (try split) <;> omega
theorem cmpI_trans {a b c : Int} (h1 : cmpI a b < 0) (h2 : cmpI b c < 0) : cmpI a c < 0 := by
  unfold cmpI at *
  split at h1 <;> (try split at h1) <;> split at h2 <;> (try split at h2) <;> split <;> (try split) <;> omega
theorem cmpT_trans {a b c : T} (h1 : cmpT a b < 0) (h2 : cmpT b c < 0) : cmpT a c < 0 := by
  induction a generalizing b c with
  | nil =>
    cases b with
    | nil => simp [cmpT] at h1
    | cons f d m => cases c with
      | nil => simp [cmpT] at h2
      | cons g k n => simp [cmpT]
  | cons e x l ihe ihl =>
    cases b with
    | nil => simp [cmpT] at h1
    | cons f y m =>
      cases c with
      | nil => simp [cmpT] at h2
      | cons g z n =>
        simp only [cmpT] at h1 h2 ⊢
        by_cases q1 : cmpT e f = 0
        · rw [if_pos q1] at h1
          obtain rfl := cmpT_eq.1 q1
          by_cases q2 : cmpT e g = 0
          · rw [if_pos q2] at h2 ⊢
            by_cases q3 : cmpI x y = 0
            · rw [if_pos q3] at h1
              obtain rfl := cmpI_eq.1 q3
              by_cases q4 : cmpI x z = 0
              · rw [if_pos q4] at h2 ⊢; exact ihl h1 h2
              · rw [if_neg q4] at h2 ⊢; exact h2
            · rw [if_neg q3] at h1
              by_cases q4 : cmpI y z = 0
              · rw [if_pos q4] at h2
                obtain rfl := cmpI_eq.1 q4
                rw [if_neg q3]; exact h1
              · rw [if_neg q4] at h2
                have := cmpI_trans h1 h2
                rw [if_neg (by omega)]; exact this
          · rw [if_neg q2] at h2 ⊢; exact h2
        · rw [if_neg q1] at h1
          by_cases q2 : cmpT f g = 0
          · obtain rfl := cmpT_eq.1 q2
            rw [if_neg q1]; exact h1
          · rw [if_neg q2] at h2
            have := ihe h1 h2
            rw [if_neg (by omega)]; exact this

/-! ### what is right -/
def nodesL : T → Nat
  | nil => 0
  | cons e _ l => 2 + nodesL e + nodesL l
def dp : T → Nat
  | nil => 0
  | cons e _ l => max (1 + dp e) (dp l)
/-- Coefficients in their range, exponents that fall; p: the exponent ahead. -/
def formA : Option T → T → Bool
  | _, nil => true
  | p, cons e c l => decide (1 ≤ c) && decide (c ≤ 1000000) && formA none e && (match p with | none => true | some q => decide (0 < cmpT q e)) && formA (some e) l
def ordP (t : T) : Bool := decide (1 + nodesL t ≤ 60) && decide (dp t ≤ 6) && formA none t
theorem nodes_size (t : T) : nodesL t = 2 * size t := by
  induction t with
  | nil => rfl
  | cons e c l ihe ihl => simp only [nodesL, size, ihe, ihl]; omega
theorem ordP_size {t : T} (h : ordP t = true) : size t ≤ 30 := by
  simp only [ordP, Bool.and_eq_true, decide_eq_true_eq] at h
  have := nodes_size t
  omega
end Go.Proofs.Tryd

namespace Go.Proofs.Tryd
theorem bind_of {α β : Type} {o : Option α} {y : α} {K : α → Option β} {r : Option β} (h : o = some y) (hk : K y = r) : o.bind K = r := by rw [h]; exact hk
theorem ite_pos {α : Type} {c : Prop} [Decidable c] {a b r : α} (h : c) (hk : a = r) : (if c then a else b) = r := by rw [if_pos h]; exact hk
theorem ite_neg {α : Type} {c : Prop} [Decidable c] {a b r : α} (h : ¬ c) (hk : b = r) : (if c then a else b) = r := by rw [if_neg h]; exact hk
theorem cond_tt {α : Type} {a b r : α} (h : a = r) : cond true a b = r := h
theorem cond_ff {α : Type} {a b r : α} (h : b = r) : cond false a b = r := h
end Go.Proofs.Tryd

namespace Go.Proofs.Tryd
open Go Go.AX T
/-! ### rows of terms -/
@[simp] theorem cell_T {α : Type} (x : Rw) (c : Int) (K : Rw → Int → Option α) : cell_si [.sl x, .int .i64 c] K = K x c := rfl
theorem row_T {α : Type} {t : T} {i : Int} {n : Nat} (hi : i = n) {e : T} {c : Int} {l : T} (h : drop t n = cons e c l) (K : Rw → Int → Option α) : row_si t.rows i K = K e.rows c := by
  subst hi
  unfold row_si
  rw [if_pos (by omega), Int.toNat_natCast, rows_get h]; rfl
@[simp] theorem row_T0 {α : Type} (e : T) (c : Int) (l : T) (K : Rw → Int → Option α) : row_si (cons e c l).rows 0 K = K e.rows c := row_T (n := 0) rfl rfl K
theorem lenI (t : T) : ((t.rows.length : Nat) : Int) = (t.len : Int) := by rw [rows_len]
/-! ### impl's order -/
theorem impl_compare_eq (a b : Int) : impl_compare a b = some (cmpI a b) := by unfold impl_compare cmpI; split <;> (try split) <;> rfl
theorem CompareFunc_loop {rec_ : Rw → Rw → Option Int} {a b : T} {K : Option Int} (hr : ∀ e f : T, e.size < a.size → rec_ e.rows f.rows = some (cmpT e f)) (hK : K = (if (a.len : Int) < b.len then some (-1) else some 0)) :
    ∀ (t : T) (i : Nat), drop a i = t → i ≤ a.len → i ≤ b.len → slices_CompareFunc__cmpTerms_l0 rec_ a.rows b.rows K t.rows i = some (cmpT t (drop b i))
  | nil, i, hd, ha', hb => by
    simp only [rows, slices_CompareFunc__cmpTerms_l0, hK]
    have h1 := drop_ge hd
    by_cases h2 : i < b.len
    · cases hq : drop b i with
      | nil => have := drop_ge hq; omega
      | cons f d m =>
        have : a.len = i ∨ a.len < i := by omega
        rw [if_pos (by omega)]; rfl
    · rw [drop_of_ge (t := b) (by omega), if_neg (by
        intro q
        omega)]; rfl
  | cons e c l, i, hd, ha', hb => by
    simp only [rows, slices_CompareFunc__cmpTerms_l0, cell_T]
    have hs := drop_cons_size hd
    by_cases h2 : b.len ≤ i
    · rw [if_pos (by rw [lenI]; omega), drop_of_ge h2]; rfl
    · rw [if_neg (by rw [lenI]; omega)]
      cases hq : drop b i with
      | nil => have := drop_ge hq; omega
      | cons f d m =>
        rw [row_T rfl hq]
        simp only [impl_cmpTerms, hr e f (by omega), Option.bind_some, impl_compare_eq]
        by_cases h3 : cmpT e f = 0
        · simp only [h3, if_true, Option.bind_some]
          by_cases h4 : cmpI c d = 0
          · rw [if_pos h4, CompareFunc_loop hr hK l (i + 1) (drop_succ hd) (drop_lt hd) (by omega), drop_succ hq]
            simp [cmpT, h3, h4]
          · rw [if_neg h4]; simp [cmpT, h3, h4]
        · simp only [if_neg h3, Option.bind_some]; simp [cmpT, h3]
theorem impl_cmp_eq : ∀ (k : Nat) (a b : T), a.size < k → a.size ≤ cap → impl_cmp k a.rows b.rows = some (cmpT a b)
  | 0, _, _, h, _ => absurd h (Nat.not_lt_zero _)
  | k + 1, a, b, h, hc => by
    have hl := a.len_size
    simp only [impl_cmp, impl_cmp_b, slices_CompareFunc__cmpTerms]
    rw [if_pos (by rw [rows_len]; omega)]
    rw [CompareFunc_loop (a := a) (b := b) (fun e f he => impl_cmp_eq k e f (by omega) (by omega)) (by rw [lenI, lenI]) a 0 (drop_zero a) (by omega) (by omega)]
    simp
/-! ### spec's order -/
/-- Coefficients whose differences do not run over. -/
def calm : T → Prop
  | nil => True
  | cons e c l => calm e ∧ (-1000000000000000 ≤ c ∧ c ≤ 1000000000000000) ∧ calm l
theorem calm_drop {t : T} (h : calm t) : ∀ {i : Nat}, calm (drop t i) := by
  induction t with
  | nil => intro i; simpa using h
  | cons e c l _ ih => intro i; cases i with
    | zero => simpa using h
    | succ i => exact ih h.2.2
theorem sign_eq {c d : Int} (hc : -1000000000000000 ≤ c ∧ c ≤ 1000000000000000) (hd : -1000000000000000 ≤ d ∧ d ≤ 1000000000000000) : spec_l1Sign (IntKind.i64.wrap (c - d)) = some (cmpI c d) := by
  rw [wid (by omega) (by omega)]
  unfold spec_l1Sign cmpI
  by_cases h1 : c < d
  · rw [if_neg (by omega), if_pos (by omega), if_pos h1]
  · by_cases h2 : d < c
    · rw [if_pos (by omega), if_neg h1, if_pos h2]
    · rw [if_neg (by omega), if_neg (by omega), if_neg h1, if_neg h2]
theorem odCmp_loop {rec_ : Rw → Rw → Option Int} {a b : T} {K : Option Int} (ha : calm a) (hb : calm b) (hr : ∀ e f : T, e.size < a.size → calm e → calm f → rec_ e.rows f.rows = some (cmpT e f)) (hK : K = (if (a.len : Int) < b.len then some (-1) else some 0)) :
    ∀ (t : T) (i : Nat), drop a i = t → i ≤ a.len → i ≤ b.len → spec_odCmp_l0 rec_ a.rows b.rows K t.rows i = some (cmpT t (drop b i))
  | nil, i, hd, ha', hb' => by
    simp only [rows, spec_odCmp_l0, hK]
    have h1 := drop_ge hd
    by_cases h2 : i < b.len
    · cases hq : drop b i with
      | nil => have := drop_ge hq; omega
      | cons f d m => rw [if_pos (by omega)]; rfl
    · rw [drop_of_ge (t := b) (by omega), if_neg (by
        intro q
        omega)]; rfl
  | cons e c l, i, hd, ha', hb' => by
    simp only [rows, spec_odCmp_l0, cell_T]
    have hs := drop_cons_size hd
    have hca := calm_drop ha (i := i)
    rw [hd] at hca
    by_cases h2 : i = b.len
    · rw [if_pos (by rw [lenI]; omega), drop_of_ge (by omega)]; rfl
    · rw [if_neg (by rw [lenI]; omega)]
      cases hq : drop b i with
      | nil => have := drop_ge hq; omega
      | cons f d m =>
        have hcb := calm_drop hb (i := i)
        rw [hq] at hcb
        rw [row_T rfl hq]
        simp only [hr e f (by omega) hca.1 hcb.1, Option.bind_some]
        by_cases h3 : cmpT e f = 0
        · rw [if_pos h3]
          by_cases h4 : c = d
          · subst h4
            rw [if_pos rfl, odCmp_loop ha hb hr hK l (i + 1) (drop_succ hd) (drop_lt hd) (drop_lt hq), drop_succ hq]
            simp [cmpT, h3, cmpI_refl]
          · rw [if_neg h4, sign_eq hca.2.1 hcb.2.1]
            have : cmpI c d ≠ 0 := fun q => h4 (cmpI_eq.1 q)
            simp [cmpT, h3, this]
        · rw [if_neg h3]; simp [cmpT, h3]
theorem odCmp_eq : ∀ (k : Nat) (a b : T), calm a → calm b → a.size < k → a.size ≤ cap → spec_odCmp k a.rows b.rows = some (cmpT a b)
  | 0, _, _, _, _, h, _ => absurd h (Nat.not_lt_zero _)
  | k + 1, a, b, ha, hb, h, hc => by
    have hl := a.len_size
    simp only [spec_odCmp, spec_odCmp_b]
    rw [if_pos (by rw [rows_len]; omega)]
    have := odCmp_loop (rec_ := spec_odCmp k) (a := a) (b := b) (K := spec_odCmp_p2 a.rows b.rows) ha hb (fun e f he h1 h2 => odCmp_eq k e f h1 h2 (by omega) (by omega)) (by unfold spec_odCmp_p2; rw [lenI, lenI]) a 0 (drop_zero a) (by omega) (by omega)
    rw [this, drop_zero]
end Go.Proofs.Tryd

namespace Go.Proofs.Tryd
open Go Go.AX T
theorem impl_in_eq (n a b : Int) : impl_in n a b = some (decide (a ≤ n) && decide (n ≤ b)) := by
  unfold impl_in
  by_cases h1 : a ≤ n <;> by_cases h2 : n ≤ b <;> simp [h1, h2]
theorem l1In_eq (n a b : Int) : spec_l1In n a b = some (decide (a ≤ n) && decide (n ≤ b)) := by
  unfold spec_l1In
  by_cases h1 : a ≤ n <;> by_cases h2 : n ≤ b <;> simp [h1, h2]
/-- The exponent of the term ahead of the i-th. -/
def ahead (t : T) : Nat → Option T
  | 0 => none
  | i + 1 => match drop t i with
    | cons e _ _ => some e
    | nil => none
theorem ahead_succ {t : T} {i : Nat} {e : T} {c : Int} {l : T} (h : drop t i = cons e c l) : ahead t (i + 1) = some e := by simp [ahead, h]
theorem ahead_some {t : T} {i : Nat} (h0 : 0 < i) (h : i ≤ t.len) : ∃ q c l, drop t (i - 1) = cons q c l ∧ ahead t i = some q := by
  obtain ⟨j, rfl⟩ : ∃ j, i = j + 1 := ⟨i - 1, by omega⟩
  cases hq : drop t j with
  | nil => have := drop_ge hq; omega
  | cons q c l => exact ⟨q, c, l, hq, ahead_succ hq⟩
theorem dp_drop {t : T} : ∀ {i : Nat}, dp (drop t i) ≤ dp t := by
  induction t with
  | nil => intro i; simp
  | cons e c l _ ih => intro i; cases i with
    | zero => simp
    | succ i => have := ih (i := i); simp only [drop, dp]; omega
/-- What a check of a tree tells. -/
def Tells (r : Bool × Int) (n : Int) (ok : Prop) (m : Int) : Prop := (r.1 = true ↔ ok) ∧ (r.1 = true → r.2 = m) ∧ 0 ≤ r.2 ∧ r.2 ≤ 61 ∧ n ≤ r.2
theorem at2_loop {k : Nat} {rec_ : Rw → Int → Int → Int → Option (Bool × Int)} {a : T} {d1 deep : Int} (hd : 0 ≤ deep ∧ deep ≤ 6) (hk : a.size ≤ k) (hc : a.size ≤ cap)
    (hr : ∀ (e : T) (x n : Int), e.size < a.size → 0 ≤ n → n ≤ 60 → ∃ r, rec_ e.rows x (deep + 1) n = some r ∧ Tells r n (n + 1 + nodesL e ≤ 60 ∧ deep + 1 + dp e ≤ 6 ∧ formA none e = true) (n + 1 + nodesL e)) :
    ∀ (t : T) (i : Nat) (m : Int), drop a i = t → i ≤ a.len → 0 ≤ m → m ≤ 60 → ∃ r, impl_ordinalAt_2_l0 k rec_ a.rows d1 deep (fun v => impl_ordinalAt_2_p3 v) t.rows i m = some r ∧ Tells r m (m + nodesL t ≤ 60 ∧ deep + dp t ≤ 6 ∧ formA (ahead a i) t = true) (m + nodesL t)
  | nil, i, m, hdr, hi, h0, h60 => by
    refine ⟨(true, m), rfl, ?_⟩
    simp only [Tells, nodesL, dp, formA]
    refine ⟨⟨fun _ => ⟨by omega, by omega, trivial⟩, fun _ => trivial⟩, fun _ => by omega, h0, by omega, by omega⟩
  | cons e c l, i, m, hdr, hi, h0, h60 => by
    have hs := drop_cons_size hdr
    simp only [rows, impl_ordinalAt_2_l0, cell_T]
    rw [wid (n := m + 1) (by omega) (by omega)]
    by_cases h1 : 60 < m + 1
    · rw [if_pos h1]
      refine ⟨_, rfl, ?_⟩
      simp only [Tells, nodesL]
      refine ⟨⟨fun h => (by cases h), fun h => by omega⟩, fun h => (by cases h), by omega, by omega, by omega⟩
    · rw [if_neg h1, impl_in_eq, Option.bind_some]
      by_cases h2 : (decide (1 ≤ c) && decide (c ≤ 1000000)) = true
      · rw [if_pos h2, wid (n := deep + 1) (by omega) (by omega)]
        obtain ⟨r1, e1, t1, t2, t3, t4, t5⟩ := hr e c (m + 1) (by omega) (by omega) (by omega)
        rw [e1, Option.bind_some]
        obtain ⟨b1, m1⟩ := r1
        dsimp only at t1 t2 t3 t4 t5 ⊢
        cases b1 with
        | false =>
          rw [if_neg (by simp)]
          refine ⟨_, rfl, ?_⟩
          simp only [Tells]
          refine ⟨⟨fun h => (by cases h), fun h => ?_⟩, fun h => (by cases h), t3, t4, by omega⟩
          obtain ⟨q1, q2, q3⟩ := h
          simp only [nodesL, dp, formA, Bool.and_eq_true] at q1 q2 q3
          exact t1.2 ⟨by omega, by omega, q3.1.1.2⟩
        | true =>
          obtain ⟨u1, u2, u3⟩ := t1.1 rfl
          obtain rfl := t2 rfl
          rw [if_pos rfl]
          have go : ∀ (hp : (match ahead a i with | none => true | some q => decide (0 < cmpT q e)) = true), ∃ r, impl_ordinalAt_2_l0 k rec_ a.rows d1 deep (fun v => impl_ordinalAt_2_p3 v) l.rows (i + 1) (m + 1 + 1 + nodesL e) = some r ∧ Tells r m (m + nodesL (cons e c l) ≤ 60 ∧ deep + dp (cons e c l) ≤ 6 ∧ formA (ahead a i) (cons e c l) = true) (m + nodesL (cons e c l)) := by
            intro hp
            obtain ⟨r, er, s1, s2, s3, s4, s5⟩ := at2_loop hd hk hc hr l (i + 1) (m + 1 + 1 + nodesL e) (drop_succ hdr) (drop_lt hdr) (by omega) (by omega)
            refine ⟨r, er, ?_⟩
            rw [ahead_succ hdr] at s1
            simp only [Tells, nodesL, dp, formA, Bool.and_eq_true]
            refine ⟨s1.trans ⟨fun q => ⟨by have := q.1; omega, by have := q.2.1; omega, ⟨⟨(by simpa using h2), u3⟩, hp⟩, q.2.2⟩, fun q => ⟨by have := q.1; omega, by have := q.2.1; omega, q.2.2.2⟩⟩, fun q => by rw [s2 q]; omega, s3, s4, by omega⟩
          by_cases h3 : (0 : Int) < (i : Int)
          · obtain ⟨q, qc, ql, hq, ha⟩ := ahead_some (t := a) (i := i) (by omega) hi
            have hqs := drop_cons_size hq
            rw [if_pos h3, wid (n := (i : Int) - 1) (by omega) (by have := a.len_size; have : cap = 1099511627776 := rfl; omega), row_T (n := i - 1) (by omega) hq, impl_cmp_eq k q e (by omega) (by omega), Option.bind_some]
            by_cases h4 : cmpT q e ≤ 0
            · rw [if_pos h4]
              refine ⟨_, rfl, ?_⟩
              simp only [Tells]
              refine ⟨⟨fun h => (by cases h), fun h => ?_⟩, fun h => (by cases h), t3, t4, by omega⟩
              obtain ⟨_, _, q3⟩ := h
              simp only [formA, ha, Bool.and_eq_true, decide_eq_true_eq] at q3
              have := q3.1.2
              omega
            · rw [if_neg h4]
              exact go (by rw [ha]; simp; omega)
          · rw [if_neg h3]
            have : i = 0 := by omega
            subst this
            exact go rfl
      · rw [if_neg h2]
        refine ⟨_, rfl, ?_⟩
        simp only [Tells]
        refine ⟨⟨fun h => (by cases h), fun h => ?_⟩, fun h => (by cases h), by omega, by omega, by omega⟩
        obtain ⟨_, _, q3⟩ := h
        simp only [formA, Bool.and_eq_true] at q3 h2
        exact absurd q3.1.1.1 h2
theorem at2_eq : ∀ (k : Nat) (a : T) (x deep n : Int), a.size < k → a.size ≤ cap → 0 ≤ deep → deep ≤ 7 → 0 ≤ n → n ≤ 60 →
    ∃ r, impl_ordinalAt_2 k a.rows x deep n = some r ∧ Tells r n (n + 1 + nodesL a ≤ 60 ∧ deep + dp a ≤ 6 ∧ formA none a = true) (n + 1 + nodesL a)
  | 0, _, _, _, _, h, _, _, _, _, _ => absurd h (Nat.not_lt_zero _)
  | k + 1, a, x, deep, n, h, hc, h0, h7, n0, n60 => by
    have hl := a.len_size
    simp only [impl_ordinalAt_2, impl_ordinalAt_2_b]
    rw [wid (n := n + 1) (by omega) (by omega)]
    by_cases h1 : 60 < n + 1
    · rw [if_pos h1]
      refine ⟨_, rfl, ?_⟩
      simp only [Tells]
      exact ⟨⟨fun h => (by cases h), fun h => by omega⟩, fun h => (by cases h), by omega, by omega, by omega⟩
    · rw [if_neg h1]
      by_cases h2 : 6 < deep
      · rw [if_pos h2]
        refine ⟨_, rfl, ?_⟩
        simp only [Tells]
        exact ⟨⟨fun h => (by cases h), fun h => by omega⟩, fun h => (by cases h), by omega, by omega, by omega⟩
      · rw [if_neg h2, if_pos (by rw [rows_len]; omega)]
        obtain ⟨r, e, s1, s2, s3, s4, s5⟩ := at2_loop (k := k) (rec_ := impl_ordinalAt_2 k) (a := a) (d1 := x) (deep := deep) (by omega) (by omega) hc (fun e y m he m0 m60 => at2_eq k e y (deep + 1) m (by omega) (by omega) (by omega) (by omega) m0 m60) a 0 (n + 1) (drop_zero a) (by omega) (by omega) (by omega)
        exact ⟨r, e, s1, s2, s3, s4, by omega⟩
theorem at1_loop {k : Nat} {a : T} (hk : a.size < k) (hc : a.size ≤ cap) :
    ∀ (t : T) (i : Nat) (m : Int), drop a i = t → i ≤ a.len → 0 ≤ m → m ≤ 60 → ∃ r : Bool × Int, impl_ordinalAt_l0 k a.rows 0 (fun v => impl_ordinalAt_p3 a.rows v) t.rows i m = some (r.1, a.rows, r.2) ∧ (r.1 = true ↔ m + nodesL t ≤ 60 ∧ dp t ≤ 6 ∧ formA (ahead a i) t = true) ∧ (r.1 = true → r.2 = m + nodesL t)
  | nil, i, m, hdr, hi, h0, h60 => by
    refine ⟨(true, m), rfl, ?_⟩
    simp only [nodesL, dp, formA]
    exact ⟨⟨fun _ => ⟨by omega, by omega, trivial⟩, fun _ => trivial⟩, fun _ => by omega⟩
  | cons e c l, i, m, hdr, hi, h0, h60 => by
    have hs := drop_cons_size hdr
    simp only [rows, impl_ordinalAt_l0, cell_T]
    rw [wid (n := m + 1) (by omega) (by omega)]
    by_cases h1 : 60 < m + 1
    · rw [if_pos h1]
      exact ⟨(false, _), rfl, ⟨fun h => (by cases h), fun h => by simp only [nodesL] at h; omega⟩, fun h => (by cases h)⟩
    · rw [if_neg h1, impl_in_eq, Option.bind_some]
      by_cases h2 : (decide (1 ≤ c) && decide (c ≤ 1000000)) = true
      · rw [if_pos h2, wid (n := 0 + 1) (by omega) (by omega)]
        obtain ⟨r1, e1, t1, t2, t3, t4, t5⟩ := at2_eq k e c (0 + 1) (m + 1) (by omega) (by omega) (by omega) (by omega) (by omega) (by omega)
        rw [e1, Option.bind_some]
        obtain ⟨b1, m1⟩ := r1
        dsimp only at t1 t2 t3 t4 t5 ⊢
        cases b1 with
        | false =>
          rw [if_neg (by simp)]
          refine ⟨(false, _), rfl, ⟨fun h => (by cases h), fun h => ?_⟩, fun h => (by cases h)⟩
          obtain ⟨q1, q2, q3⟩ := h
          simp only [nodesL, dp, formA, Bool.and_eq_true] at q1 q2 q3
          exact t1.2 ⟨by omega, by omega, q3.1.1.2⟩
        | true =>
          obtain ⟨u1, u2, u3⟩ := t1.1 rfl
          obtain rfl := t2 rfl
          rw [if_pos rfl]
          have go : ∀ (hp : (match ahead a i with | none => true | some q => decide (0 < cmpT q e)) = true), ∃ r : Bool × Int, impl_ordinalAt_l0 k a.rows 0 (fun v => impl_ordinalAt_p3 a.rows v) l.rows (i + 1) (m + 1 + 1 + nodesL e) = some (r.1, a.rows, r.2) ∧ (r.1 = true ↔ m + nodesL (cons e c l) ≤ 60 ∧ dp (cons e c l) ≤ 6 ∧ formA (ahead a i) (cons e c l) = true) ∧ (r.1 = true → r.2 = m + nodesL (cons e c l)) := by
            intro hp
            obtain ⟨r, er, s1, s2⟩ := at1_loop hk hc l (i + 1) (m + 1 + 1 + nodesL e) (drop_succ hdr) (drop_lt hdr) (by omega) (by omega)
            refine ⟨r, er, ?_⟩
            rw [ahead_succ hdr] at s1
            simp only [nodesL, dp, formA, Bool.and_eq_true]
            exact ⟨s1.trans ⟨fun q => ⟨by have := q.1; omega, by have := q.2.1; omega, ⟨⟨(by simpa using h2), u3⟩, hp⟩, q.2.2⟩, fun q => ⟨by have := q.1; omega, by have := q.2.1; omega, q.2.2.2⟩⟩, fun q => by rw [s2 q]; omega⟩
          by_cases h3 : (0 : Int) < (i : Int)
          · obtain ⟨q, qc, ql, hq, ha⟩ := ahead_some (t := a) (i := i) (by omega) hi
            have hqs := drop_cons_size hq
            rw [if_pos h3, wid (n := (i : Int) - 1) (by omega) (by have := a.len_size; have : cap = 1099511627776 := rfl; omega), row_T (n := i - 1) (by omega) hq, impl_cmp_eq k q e (by omega) (by omega), Option.bind_some]
            by_cases h4 : cmpT q e ≤ 0
            · rw [if_pos h4]
              refine ⟨(false, _), rfl, ⟨fun h => (by cases h), fun h => ?_⟩, fun h => (by cases h)⟩
              obtain ⟨_, _, q3⟩ := h
              simp only [formA, ha, Bool.and_eq_true, decide_eq_true_eq] at q3
              have := q3.1.2
              omega
            · rw [if_neg h4]
              exact go (by rw [ha]; simp; omega)
          · rw [if_neg h3]
            have : i = 0 := by omega
            subst this
            exact go rfl
      · rw [if_neg h2]
        refine ⟨(false, _), rfl, ⟨fun h => (by cases h), fun h => ?_⟩, fun h => (by cases h)⟩
        obtain ⟨_, _, q3⟩ := h
        simp only [formA, Bool.and_eq_true] at q3 h2
        exact absurd q3.1.1.1 h2
theorem at1_eq (k : Nat) (a : T) (hk : a.size < k) (hc : a.size ≤ cap) : ∃ r : Bool × Int, impl_ordinalAt k a.rows 0 0 = some (r.1, a.rows, r.2) ∧ (r.1 = true ↔ ordP a = true) ∧ (r.1 = true → r.2 = 1 + nodesL a) := by
  have hl := a.len_size
  unfold impl_ordinalAt
  rw [wid (n := 0 + 1) (by omega) (by omega), if_neg (by omega), if_neg (by omega), if_pos (by rw [rows_len]; omega)]
  obtain ⟨r, e, s, v⟩ := at1_loop hk hc a 0 (0 + 1) (drop_zero a) (by omega) (by omega) (by omega)
  refine ⟨r, e, s.trans ?_, fun q => by rw [v q]; omega⟩
  simp only [ordP, Bool.and_eq_true, decide_eq_true_eq, ahead]
  exact ⟨fun q => ⟨⟨by have := q.1; omega, q.2.1⟩, q.2.2⟩, fun q => ⟨by have := q.1.1; omega, q.1.2, q.2⟩⟩
theorem IsOrdinal_eq (k : Nat) (a : T) (hk : a.size < k) (hc : a.size ≤ cap) : impl_IsOrdinal k a.rows = some (ordP a) := by
  obtain ⟨r, e, s, _⟩ := at1_eq k a hk hc
  unfold impl_IsOrdinal
  rw [e, Option.bind_some]
  cases hb : ordP a with
  | true => rw [if_pos (s.2 hb)]
  | false => rw [if_neg (fun q => by rw [s.1 q] at hb; cases hb)]
theorem clone_loop {rec_ : Rw → Option Rw} {a : T} {K : Rw → Option Rw} (hr : ∀ e : T, e.size < a.size → rec_ e.rows = some e.rows) : ∀ (t : T) (acc : Rw), t.size ≤ a.size → acc.length + t.len ≤ cap → impl_cloneOrdinal_l0 rec_ a.rows K t.rows acc = K (acc ++ t.rows)
  | nil, acc, _, _ => by simp [rows, impl_cloneOrdinal_l0]
  | cons e c l, acc, hs, hl => by
    simp only [size, len] at hs hl
    simp only [rows, impl_cloneOrdinal_l0, cell_T, hr e (by omega), Option.bind_some]
    rw [if_pos (by omega), clone_loop hr l _ (by omega) (by simp; omega)]
    simp
theorem clone_eq : ∀ (k : Nat) (a : T), a.size < k → a.size ≤ cap → impl_cloneOrdinal k a.rows = some a.rows
  | 0, _, h, _ => absurd h (Nat.not_lt_zero _)
  | k + 1, a, h, hc => by
    have hl := a.len_size
    simp only [impl_cloneOrdinal, impl_cloneOrdinal_b]
    rw [if_pos (by rw [rows_len]; omega), clone_loop (fun e he => clone_eq k e (by omega) (by omega)) a [] (Nat.le_refl _) (by simp; omega)]
    simp
def toldT (t : T) : T × Bool := if ordP t then (t, true) else (nil, false)
/-! ### spec's check -/
end Go.Proofs.Tryd

namespace Go.Proofs.Tryd
open Go Go.AX T
theorem fr_snocLen (l e : T) (c : Int) : (app l (cons e c nil)).len = l.len + 1 := by rw [len_app]; rfl
/-- Slices no longer than a machine has. -/
def fitT : T → Prop
  | nil => True
  | cons e c l => fitT e ∧ (e.len : Int) ≤ 9223372036854775807 ∧ fitT l
end Go.Proofs.Tryd

namespace Go.Proofs.Tryd
open Go Go.AX T
theorem fr_drop_app (l r : T) : drop (app l r) l.len = r := by
  induction l with
  | nil => simp [app, len]
  | cons e c l _ ih => exact ih
def mkT : T → Int → T
  | nil, _ => nil
  | cons e _ l, k => cons (mkT e k) (k + size e) (mkT l (k + size e + 1))
theorem mkT_len (t : T) (k : Int) : (mkT t k).len = t.len := by
  induction t generalizing k with
  | nil => rfl
  | cons e c l _ ih => simp [mkT, len, ih]
theorem mkT_size (t : T) (k : Int) : (mkT t k).size = t.size := by
  induction t generalizing k with
  | nil => rfl
  | cons e c l ihe ih => simp [mkT, size, ihe, ih]
theorem set_rows (l e e' r : T) (c c' : Int) : (app l (cons e c r)).rows.set l.len [D.sl e'.rows, D.int .i64 c'] = (app l (cons e' c' r)).rows := by
  rw [rows_app, rows_app, ← rows_len l, List.set_append_right (h := Nat.le_refl _), Nat.sub_self]; rfl
end Go.Proofs.Tryd

namespace Go.Proofs.Tryd
open Go Go.AX T
abbrev w (n : Int) : Int := IntKind.i64.wrap n
theorem drop_app (l r : T) : drop (app l r) l.len = r := by
  induction l with
  | nil => simp [app, len]
  | cons e c l _ ih => exact ih
theorem T.snoc (t : T) : t = nil ∨ ∃ l x c, t = app l (cons x c nil) := by
  induction t with
  | nil => exact .inl rfl
  | cons e c l _ ih =>
    rcases ih with rfl | ⟨l', x, d, rfl⟩
    · exact .inr ⟨nil, e, c, rfl⟩
    · exact .inr ⟨cons e c l', x, d, rfl⟩
theorem calm_app {a b : T} : calm (app a b) ↔ calm a ∧ calm b := by
  induction a with
  | nil => simp [app, calm]
  | cons e c l _ ih => simp only [app, calm, ih, and_assoc]
/-! ### impl's sum -/
def goP : T → T → Int → T → T
  | nil, f, d, m => cons f d m
  | cons e c l, f, d, m => if cmpT e f = 1 then cons e c (goP l f d m) else if cmpT e f = 0 then cons e (w (c + d)) m else goP l f d m
def plusT : T → T → T
  | a, nil => a
  | a, cons f d m => goP a f d m
theorem goP_size (a f : T) (d : Int) (m : T) : (goP a f d m).size ≤ a.size + f.size + m.size + 1 := by
  induction a with
  | nil => simp [goP, size]
  | cons e c l _ ih =>
    simp only [goP]
    split
    · simp only [size]; omega
    · split
      · simp only [size]; omega
      · simp only [size]; omega
theorem plusT_size (a b : T) : (plusT a b).size ≤ a.size + b.size := by
  cases b with
  | nil => simp [plusT]
  | cons f d m => simp only [plusT, size]; have := goP_size a f d m; omega
theorem impl_isZero_eq (t : T) : impl_isZero t.rows = some (match t with | nil => true | cons _ _ _ => false) := by
  unfold impl_isZero
  cases t with
  | nil => rfl
  | cons e c l => rw [if_neg (by rw [lenI]; simp only [len]; omega)]
theorem calm_less {a b : T} (h : ordP a = true) : True := trivial
theorem form_calm {p : Option T} {t : T} (h : formA p t = true) : calm t := by
  induction t generalizing p with
  | nil => trivial
  | cons e c l ihe ihl =>
    simp only [formA, Bool.and_eq_true, decide_eq_true_eq] at h
    obtain ⟨⟨⟨⟨h1, h2⟩, h3⟩, _⟩, h5⟩ := h
    exact ⟨ihe h3, by omega, ihl h5⟩
theorem ordP_form {t : T} (h : ordP t = true) : formA none t = true := by
  simp only [ordP, Bool.and_eq_true] at h; exact h.2
theorem form_any {p : Option T} {t : T} (h : formA p t = true) : formA none t = true := by
  cases t with
  | nil => rfl
  | cons e c l =>
    simp only [formA, Bool.and_eq_true] at h ⊢
    exact ⟨⟨⟨h.1.1.1, h.1.1.2⟩, trivial⟩, h.2⟩
end Go.Proofs.Tryd

namespace Go.Proofs.Tryd
open Go Go.AX T
/-- Without the terms at the end that are less than w^e. -/
def popT : T → T → T
  | nil, _ => nil
  | cons x c l, e => match popT l e with
    | nil => if cmpT x e < 0 then nil else cons x c nil
    | cons y d m => cons x c (cons y d m)
/-- A term added at the end. -/
def addL : T → T → Int → T
  | nil, e, d => cons e d nil
  | cons x c l, e, d => match l with
    | nil => if cmpT x e = 0 then cons x (w (c + d)) nil else cons x c (cons e d nil)
    | cons _ _ _ => cons x c (addL l e d)
def splus : T → T → T
  | a, nil => a
  | a, cons f d m => splus (addL (popT a f) f d) m
theorem popT_snoc (l x : T) (c : Int) (e : T) : popT (app l (cons x c nil)) e = if cmpT x e < 0 then popT l e else app l (cons x c nil) := by
  induction l with
  | nil => simp [app, popT]
  | cons y d l _ ih =>
    by_cases h : cmpT x e < 0
    · rw [if_pos h] at ih ⊢
      simp only [app, popT]
      rw [ih]
    · rw [if_neg h] at ih ⊢
      simp only [app, popT]
      rw [ih]
      cases l <;> simp [app]
theorem addL_snoc (l x : T) (c : Int) (e : T) (d : Int) : addL (app l (cons x c nil)) e d = if cmpT x e = 0 then app l (cons x (w (c + d)) nil) else app (app l (cons x c nil)) (cons e d nil) := by
  induction l with
  | nil => simp only [app, addL]
  | cons y k l _ ih =>
    have : app l (cons x c nil) ≠ nil := by cases l <;> simp [app]
    simp only [app, addL]
    split
    · rename_i h; exact absurd h this
    · rename_i h
      rw [ih]
      split <;> rfl
theorem popT_size (a e : T) : (popT a e).size ≤ a.size := by
  induction a with
  | nil => simp [popT, size]
  | cons x c l _ ih =>
    simp only [popT]
    split
    · split <;> simp [size]
    · rename_i h; rw [h] at ih; simp only [size] at ih ⊢; omega
theorem addL_size (a e : T) (d : Int) : (addL a e d).size ≤ a.size + e.size + 1 := by
  induction a with
  | nil => simp [addL, size]
  | cons x c l _ ih =>
    simp only [addL]
    split
    · split <;> simp [size] <;> omega
    · simp only [size] at ih ⊢; omega
theorem splus_size (a b : T) : (splus a b).size ≤ a.size + b.size := by
  induction b generalizing a with
  | nil => simp [splus, size]
  | cons f d m _ ih =>
    have h1 := ih (addL (popT a f) f d)
    have h2 := addL_size (popT a f) f d
    have h3 := popT_size a f
    simp only [splus, size] at *; omega
/-- Coefficients within a bound. -/
def sm (B : Int) : T → Prop
  | nil => True
  | cons e c l => sm B e ∧ (-B ≤ c ∧ c ≤ B) ∧ sm B l
theorem sm_calm {B : Int} {t : T} (h : sm B t) (hB : B ≤ 1000000000000000) : calm t := by
  induction t with
  | nil => trivial
  | cons e c l ihe ihl => exact ⟨ihe h.1, by have := h.2.1; omega, ihl h.2.2⟩
theorem sm_mono {B C : Int} {t : T} (h : sm B t) (hB : B ≤ C) : sm C t := by
  induction t with
  | nil => trivial
  | cons e c l ihe ihl => exact ⟨ihe h.1, by have := h.2.1; omega, ihl h.2.2⟩
theorem sm_app {B : Int} {a b : T} : sm B (app a b) ↔ sm B a ∧ sm B b := by
  induction a with
  | nil => simp [app, sm]
  | cons e c l _ ih => simp only [app, sm, ih, and_assoc]
theorem sm_pop {B : Int} {a e : T} (h : sm B a) : sm B (popT a e) := by
  induction a with
  | nil => trivial
  | cons x c l _ ih =>
    have ih := ih h.2.2
    simp only [popT]
    split
    · split
      · trivial
      · exact ⟨h.1, h.2.1, trivial⟩
    · rename_i hq; rw [hq] at ih; exact ⟨h.1, h.2.1, ih⟩
theorem sm_addL {B C : Int} {a e : T} {d : Int} (h : sm B a) (he : sm C e) (hd : -C ≤ d ∧ d ≤ C) (hB : 0 ≤ B ∧ 0 ≤ C ∧ B + C ≤ 1000000000000000) : sm (B + C) (addL a e d) := by
  induction a with
  | nil => exact ⟨sm_mono he (by omega), by omega, trivial⟩
  | cons x c l _ ih =>
    obtain ⟨h1, h2, h3⟩ := h
    simp only [addL]
    split
    · split
      · refine ⟨sm_mono h1 (by omega), ?_, trivial⟩
        show _ ≤ w (c + d) ∧ w (c + d) ≤ _
        rw [show w (c + d) = c + d from wid (by omega) (by omega)]; omega
      · exact ⟨sm_mono h1 (by omega), by omega, sm_mono he (by omega), by omega, trivial⟩
    · exact ⟨sm_mono h1 (by omega), by omega, ih h3⟩
theorem snoc_last (l x : T) (c : Int) : drop (app l (cons x c nil)) l.len = cons x c nil := drop_app l _
/-! ### right ones -/
theorem form_sm {p : Option T} {t : T} (h : formA p t = true) : sm 1000000 t := by
  induction t generalizing p with
  | nil => trivial
  | cons e c l ihe ihl =>
    simp only [formA, Bool.and_eq_true, decide_eq_true_eq] at h
    obtain ⟨⟨⟨⟨h1, h2⟩, h3⟩, _⟩, h5⟩ := h
    exact ⟨ihe h3, by omega, ihl h5⟩
/-- Exponents that fall, from below p on. -/
def falls : Option T → T → Prop
  | _, nil => True
  | p, cons e _ l => (∀ q, p = some q → 0 < cmpT q e) ∧ falls (some e) l
theorem form_falls {p : Option T} {t : T} (h : formA p t = true) : falls p t := by
  induction t generalizing p with
  | nil => trivial
  | cons e c l _ ihl =>
    simp only [formA, Bool.and_eq_true, decide_eq_true_eq] at h
    refine ⟨fun q hq => ?_, ihl h.2⟩
    subst hq
    simpa using h.1.2
theorem cmp_lt_of {a b c : T} (h1 : 0 < cmpT a b) (h2 : cmpT b c = 1 ∨ cmpT b c = 0) : 0 < cmpT a c := by
  rcases h2 with h2 | h2
  · have q1 : cmpT b a < 0 := by rw [cmpT_neg a b]; omega
    have q2 : cmpT c b < 0 := by rw [cmpT_neg b c]; omega
    have := cmpT_trans q2 q1
    rw [cmpT_neg c a]; omega
  · obtain rfl := cmpT_eq.1 h2; exact h1
/-- In falling terms, those ahead of a greater one are greater. -/
theorem goP_pop {a f : T} {d : Int} : ∀ {p : Option T}, falls p a → addL (popT a f) f d = goP a f d nil
  | p, h => by
    induction a generalizing p with
    | nil => rfl
    | cons e c l _ ih =>
      have h2 := h.2
      have key : ∀ {x : T}, falls (some x) l → cmpT x f ≤ 0 → popT l f = nil := by
        intro x hx hxf
        clear ih h h2
        induction l generalizing x with
        | nil => rfl
        | cons y k m _ ihm =>
          have hy := hx.1 x rfl
          have hyf : cmpT y f < 0 := by
            rcases cmpT_range x f with q | q | q
            · have q2 : cmpT y x < 0 := by rw [cmpT_neg x y]; omega
              exact cmpT_trans q2 (by omega)
            · obtain rfl := cmpT_eq.1 q
              rw [cmpT_neg x y]; omega
            · omega
          simp only [popT, ihm hx.2 (by omega), if_pos hyf]
      have ih := ih _ h2
      simp only [popT, goP]
      rcases cmpT_range e f with q | q | q
      · rw [key h2 (by omega)]
        have e1 : ¬ cmpT e f = 1 := by omega
        have e2 : ¬ cmpT e f = 0 := by omega
        simp only [if_neg e1, if_neg e2, if_pos (by omega : cmpT e f < 0)]
        rw [← ih, key h2 (by omega)]
      · rw [key h2 (by omega)]
        have e1 : ¬ cmpT e f = 1 := by omega
        simp only [if_neg e1, if_pos q, if_neg (by omega : ¬ cmpT e f < 0), addL]
      · simp only [if_pos q]
        rw [← ih]
        cases hq : popT l f with
        | nil =>
          simp only [if_neg (by omega : ¬ cmpT e f < 0), addL, if_neg (by omega : ¬ cmpT e f = 0)]
        | cons y k m => simp only [addL]
theorem goP_app {a f : T} {d : Int} {m : T} : goP a f d m = app (goP a f d nil) m := by
  induction a with
  | nil => rfl
  | cons e c l _ ih =>
    simp only [goP]
    split
    · simp only [app, ih]
    · split
      · rfl
      · exact ih
/-- What is less than all ahead of it is only added at the end. -/
theorem splus_end {a x : T} {c : Int} : ∀ {m : T}, falls (some x) m → splus (app a (cons x c nil)) m = app (app a (cons x c nil)) m
  | nil, _ => by simp [splus]
  | cons g k m, h => by
    have h1 := h.1 x rfl
    simp only [splus]
    rw [popT_snoc, if_neg (by omega), addL_snoc, if_neg (by omega)]
    rw [splus_end (a := app a (cons x c nil)) h.2, app_assoc (app a (cons x c nil))]
    rfl
theorem goP_snoc {a f : T} {d : Int} : ∃ l c, goP a f d nil = app l (cons f c nil) := by
  induction a with
  | nil => exact ⟨nil, d, rfl⟩
  | cons e c l _ ih =>
    obtain ⟨l', c', h⟩ := ih
    simp only [goP]
    split
    · exact ⟨cons e c l', c', by rw [h]; rfl⟩
    · split
      · rename_i q; obtain rfl := cmpT_eq.1 q; exact ⟨nil, _, rfl⟩
      · exact ⟨l', c', h⟩
theorem splus_plus {a b : T} (ha : falls none a) (hb : falls none b) : splus a b = plusT a b := by
  cases b with
  | nil => cases a <;> rfl
  | cons f d m =>
    simp only [splus, plusT]
    rw [goP_pop ha, goP_app (m := m)]
    obtain ⟨l, c, h⟩ := goP_snoc (a := a) (f := f) (d := d)
    rw [h]
    exact splus_end hb.2
theorem plusT_sm {B C : Int} {a b : T} (ha : sm B a) (hb : sm C b) (hB : 0 ≤ B ∧ 0 ≤ C ∧ B + C ≤ 1000000000000000) : sm (B + C) (plusT a b) := by
  cases b with
  | nil => exact sm_mono ha (by omega)
  | cons f d m =>
    simp only [plusT]
    have hm : sm (B + C) m := sm_mono hb.2.2 (by omega)
    induction a with
    | nil => exact ⟨sm_mono hb.1 (by omega), by have := hb.2.1; omega, hm⟩
    | cons e c l _ ih =>
      have h1 := ha.2.1
      have h2 := hb.2.1
      simp only [goP]
      split
      · exact ⟨sm_mono ha.1 (by omega), by omega, ih ha.2.2⟩
      · split
        · refine ⟨sm_mono ha.1 (by omega), ?_, hm⟩
          show _ ≤ w (c + d) ∧ w (c + d) ≤ _
          rw [show w (c + d) = c + d from wid (by omega) (by omega)]; omega
        · exact ih ha.2.2
def intT (n : Int) : T := if n = 0 then nil else cons nil n nil
theorem intT_size (n : Int) : (intT n).size ≤ 1 := by unfold intT; split <;> simp [size]
theorem intT_sm {n B : Int} (h : -B ≤ n ∧ n ≤ B) : sm B (intT n) := by
  unfold intT; split
  · trivial
  · exact ⟨trivial, h, trivial⟩
theorem snocRows (l e : T) (c : Int) : l.rows ++ [[D.sl e.rows, D.int .i64 c]] = (app l (cons e c nil)).rows := by rw [rows_app]; rfl
end Go.Proofs.Tryd

namespace Go.Proofs.Tryd
open Go Go.AX T
end Go.Proofs.Tryd

namespace Go.Proofs.Tryd
open Go Go.AX T
theorem told_eq (k : Nat) (a : T) (h : a.size < k) (hc : a.size ≤ cap) : impl_told k a.rows = some ((toldT a).1.rows, (toldT a).2) := by
  unfold impl_told toldT
  rw [IsOrdinal_eq k a h hc, Option.bind_some]
  cases ordP a with
  | false => rfl
  | true => rw [if_pos rfl, clone_eq k a h hc]; rfl
end Go.Proofs.Tryd

namespace Go.Proofs.Tryd
open Go Go.AX T
def bytes (x : Rw) : Prop := ∀ r ∈ x, ∃ b : Int, r = [.int .u8 b] ∧ 0 ≤ b ∧ b < 256
/-- A drawn value: its place moves on by at most n. -/
def Drew {α : Type} (x : Rw) (a n : Int) (r : Option (α × Rw × Int × Int)) (Q : α → Prop) : Prop :=
  ∃ v a' c', r = some (v, x, a', c') ∧ 0 ≤ a' ∧ a' ≤ a + n ∧ Q v
theorem Drew.mono {α : Type} {x : Rw} {a n m : Int} {r : Option (α × Rw × Int × Int)} {Q : α → Prop} (h : Drew x a n r Q) (hn : n ≤ m) : Drew x a m r Q := by
  obtain ⟨v, a', c', e, h1, h2, h3⟩ := h
  exact ⟨v, a', c', e, h1, by omega, h3⟩
theorem Drew.bind {α β : Type} {x : Rw} {a n m : Int} {r : Option (α × Rw × Int × Int)} {Q : α → Prop} {S : β → Prop} {F : α × Rw × Int × Int → Option (β × Rw × Int × Int)} (h : Drew x a n r Q)
    (hF : ∀ v a' c', 0 ≤ a' → a' ≤ a + n → Q v → Drew x a' m (F (v, x, a', c')) S) : Drew x a (n + m) (r.bind F) S := by
  obtain ⟨v, a', c', e, h1, h2, h3⟩ := h
  obtain ⟨u, a2, c2, e2, q1, q2, q3⟩ := hF v a' c' h1 h2 h3
  exact ⟨u, a2, c2, by rw [e, Option.bind_some, e2], q1, by omega, q3⟩
theorem and255 (n : Nat) (b : BitVec n) : (b &&& BitVec.ofInt n 255).toNat ≤ 255 := by
  rw [BitVec.toNat_and]
  refine Nat.le_trans Nat.and_le_right ?_
  rw [BitVec.toNat_ofInt]
  show (((255 : Nat) : Int) % ((2 ^ n : Nat) : Int)).toNat ≤ 255
  rw [← Int.natCast_emod, Int.toNat_natCast]
  exact Nat.mod_le _ _
theorem next_ok {x : Rw} {a c : Int} (hx : bytes x) (h0 : 0 ≤ a) (h1 : a ≤ 1000000000) : Drew x a 1 (spec_l1Cur_next x a c) (fun v => 0 ≤ v ∧ v < 256) := by
  have e1 : IntKind.i64.wrap (a + 1) = a + 1 := wid (by omega) (by omega)
  have big : ∀ b : BitVec (IntKind.u64).bits, 0 ≤ IntKind.i64.wrap (IntKind.u64.wrap (b &&& BitVec.ofInt (IntKind.u64).bits 255).toNat) ∧ IntKind.i64.wrap (IntKind.u64.wrap (b &&& BitVec.ofInt (IntKind.u64).bits 255).toNat) < 256 := by
    intro b
    have := and255 _ b
    generalize (b &&& BitVec.ofInt (IntKind.u64).bits 255).toNat = n at *
    have e2 : IntKind.u64.wrap (n : Int) = n := by
      show ((n : Int)) % 18446744073709551616 = n
      omega
    rw [e2, wid (by omega) (by omega)]; omega
  unfold spec_l1Cur_next
  rw [e1]
  by_cases g : a < (x.length : Int)
  · rw [if_pos g]
    obtain ⟨n, rfl⟩ : ∃ n : Nat, a = n := ⟨a.toNat, by omega⟩
    have hn : n < x.length := by omega
    obtain ⟨b, hb, hb0, hb1⟩ := hx x[n] (List.getElem_mem hn)
    have e3 : ∀ {α : Type} (K : Int → Option α), row_iu8 x (n : Int) K = K b := by
      intro α K
      unfold row_iu8
      rw [if_pos (by omega), Int.toNat_natCast, List.getElem?_eq_getElem hn, hb]
      rfl
    rw [e3, if_pos (by omega)]
    exact ⟨_, _, _, rfl, by omega, by omega, by rw [wid (by omega) (by omega)]; omega⟩
  · rw [if_neg g]
    split
    · exact ⟨_, _, _, rfl, by omega, by omega, by omega⟩
    · exact ⟨_, _, _, rfl, by omega, by omega, big _⟩
theorem pick_ok {x : Rw} {a c m : Int} (hx : bytes x) (h0 : 0 ≤ a) (h1 : a ≤ 100000000) (hm : 1 ≤ m) : Drew x a 2 (spec_l1Cur_pick x a c m) (fun v => 0 ≤ v ∧ v < m) := by
  unfold spec_l1Cur_pick
  by_cases g : m ≤ 1
  · rw [if_pos g]; exact ⟨_, _, _, rfl, h0, by omega, by omega⟩
  · rw [if_neg g]
    refine Drew.bind (n := 1) (m := 1) (next_ok hx h0 (by omega)) fun v a' c' q1 q2 q3 => ?_
    have tm : ∀ u : Int, 0 ≤ u → 0 ≤ u.tmod m ∧ u.tmod m < m := fun u hu => ⟨Int.tmod_nonneg _ hu, Int.tmod_lt_of_pos _ (by omega)⟩
    by_cases g2 : 200 < m
    · rw [if_pos g2]
      refine Drew.mono (Drew.bind (n := 1) (m := 0) (next_ok hx q1 (by omega)) fun v2 a2 c2 p1 p2 p3 => ?_) (by omega)
      rw [if_pos (by omega)]
      refine ⟨_, a2, _, rfl, p1, by omega, tm _ ?_⟩
      have e1 : IntKind.i64.wrap (v * 256) = v * 256 := wid (by omega) (by omega)
      show 0 ≤ IntKind.i64.wrap (IntKind.i64.wrap (v * 256) + v2)
      rw [e1, wid (by omega) (by omega)]; omega
    · rw [if_neg g2, if_pos (by omega)]
      exact ⟨_, a', _, rfl, q1, by omega, tm _ q3.1⟩
theorem among_ok {x : Rw} {a c : Int} {es : Rw} {Q : Int → Prop} (hx : bytes x) (h0 : 0 ≤ a) (h1 : a ≤ 100000000) (he : 1 ≤ es.length) (hQ : ∀ r ∈ es, ∃ i, r = [.int .i64 i] ∧ Q i) : Drew x a 2 (spec_l1Cur_among x a c es) Q := by
  unfold spec_l1Cur_among
  refine Drew.mono (Drew.bind (n := 2) (m := 0) (pick_ok hx h0 h1 (by omega)) fun v a' c' q1 q2 q3 => ?_) (by omega)
  obtain ⟨n, rfl⟩ : ∃ n : Nat, v = n := ⟨v.toNat, by omega⟩
  have hn : n < es.length := by omega
  obtain ⟨i, hi, hq⟩ := hQ es[n] (List.getElem_mem hn)
  have e3 : ∀ {α : Type} (K : Int → Option α), row_i es (n : Int) K = K i := by
    intro α K
    unfold row_i
    rw [if_pos (by omega), Int.toNat_natCast, List.getElem?_eq_getElem hn, hi]
    rfl
  show Drew x a' 0 (row_i es (n : Int) _) Q
  rw [e3]
  exact ⟨_, a', _, rfl, q1, by omega, hq⟩
theorem one_ok {x : Rw} {a c m : Int} (hx : bytes x) (h0 : 0 ≤ a) (h1 : a ≤ 100000000) (hm : 1 ≤ m) : Drew x a 2 (spec_l1Cur_one x a c m) (fun _ => True) := by
  unfold spec_l1Cur_one
  refine Drew.mono (Drew.bind (n := 2) (m := 0) (pick_ok hx h0 h1 hm) fun v a' c' q1 q2 q3 => ?_) (by omega)
  split <;> exact ⟨_, a', _, rfl, q1, by omega, trivial⟩
theorem odInt_eq (n : Int) : spec_odInt n = some (intT n).rows := by
  unfold spec_odInt spec_odTerm intT
  by_cases h : n = 0
  · rw [if_pos h, if_pos h]; rfl
  · rw [if_neg h, if_neg h]; rfl
theorem odTerm_ok (e : T) {n : Int} (hn : n ≠ 0) : spec_odTerm e.rows n = some (cons e n nil).rows := by
  unfold spec_odTerm; rw [if_neg hn]; rfl
/-- What meet has yet to add. -/
def due (f : Bool) (e : T) : Nat := cond f 0 (e.size + 1)
end Go.Proofs.Tryd

namespace Go.Proofs.Tryd
open Go Go.AX
abbrev L8 := List UInt8
def bA (l : L8) : ByteArray := ⟨l.toArray⟩
theorem bA_data (l : L8) : (bA l).data.toList = l := by simp [bA]
theorem bA_size (l : L8) : (bA l).size = l.length := by rw [Lib.size_eq, bA_data]
theorem bA_toList (l : L8) : (bA l).toList = l := by rw [ByteArray.toList_eq, bA_data]
theorem bA_inj {a b : ByteArray} (h : a.data.toList = b.data.toList) : a = b := by
  cases a; cases b; simp only [ByteArray.mk.injEq]; exact Array.toList_inj.1 h
theorem bA_app (a b : L8) : bA a ++ bA b = bA (a ++ b) := by
  apply bA_inj
  rw [ByteArray.data_append, Array.toList_append, bA_data, bA_data, bA_data]
theorem bA_nil : ByteArray.mk #[] = bA [] := rfl
theorem bA_43 : ByteArray.mk #[43] = bA [43] := rfl
theorem bA_42 : ByteArray.mk #[42] = bA [42] := rfl
theorem bA_41 : ByteArray.mk #[41] = bA [41] := rfl
theorem bA_45 : ByteArray.mk #[45] = bA [45] := rfl
theorem bA_47 : ByteArray.mk #[47] = bA [47] := rfl
theorem bA_48 : ByteArray.mk #[48] = bA [48] := rfl
theorem bA_94 : ByteArray.mk #[94, 40] = bA [94, 40] := rfl
theorem bA_119 : ByteArray.mk #[119] = bA [119] := rfl
theorem u8_lt {n : Int} (h0 : 0 ≤ n) (h1 : n ≤ 255) : IntKind.u8.wrap n = n := by
  simp only [IntKind.wrap, IntKind.bits, IntKind.signed]
  simp
  omega
theorem strD_one {n : Int} (h0 : 0 ≤ n) (h1 : n ≤ 9) : strD [[.int .u8 (IntKind.u8.wrap (IntKind.i64.wrap (48 + n)))]] = some (bA [UInt8.ofNat (48 + n.toNat)]) := by
  rw [wrap_in (by omega) (by omega), u8_lt (by omega) (by omega)]
  have : (48 + n).toNat = 48 + n.toNat := by omega
  simp only [strD, strN, Option.map_some, List.foldl_cons, List.foldl_nil, this]
  rfl
theorem num_eq : ∀ (k : Nat) (n : Int), 0 ≤ n → n < k → n ≤ 1000000000000000 → spec_l1Num k n = some (bA (Lib.decDigits n.toNat))
  | 0, n, h0, h1, _ => by omega
  | k + 1, n, h0, h1, h2 => by
    have hlen : ∀ u : Nat, u ≤ 1000000000000000 → (Lib.decDigits u).length ≤ 21 := by
      intro u hu
      have := Lib.itoa_length_le (u : Int) (by omega) (by omega)
      unfold Lib.itoa at this
      rwa [if_neg (by omega), show ((u : Int)).toNat = u by omega] at this
    simp only [spec_l1Num, spec_l1Num_b]
    rw [Lib.decDigits]
    by_cases h : n < 10
    · rw [if_pos h, dif_pos (by omega), strD_one h0 (by omega), Option.bind_some]
    · rw [if_neg h, dif_neg (by omega)]
      have e1 : n.tdiv 10 = n / 10 := Int.tdiv_eq_ediv_of_nonneg h0
      have e2 : n.tmod 10 = n % 10 := Int.tmod_eq_emod_of_nonneg h0
      rw [e1, e2, wrap_in (by omega) (by omega), num_eq k (n / 10) (by omega) (by omega) (by omega), Option.bind_some, strD_one (by omega) (by omega), Option.bind_some]
      have e3 : (n / 10).toNat = n.toNat / 10 := by omega
      have e4 : (n % 10).toNat = n.toNat % 10 := by omega
      have := hlen (n.toNat / 10) (by omega)
      rw [e3, e4, if_pos (by rw [bA_size, bA_size, List.length_singleton]; omega), bA_app]
theorem dec_len {u : Nat} (hu : u ≤ 1000000000000000) : (Lib.decDigits u).length ≤ 21 := by
  have := Lib.itoa_length_le (u : Int) (by omega) (by omega)
  unfold Lib.itoa at this
  rwa [if_neg (by omega), show ((u : Int)).toNat = u by omega] at this
theorem dec_ne (u : Nat) : Lib.decDigits u ≠ [] := by
  rw [Lib.decDigits]
  split <;> simp
theorem itoa_eq {n : Int} (h0 : 0 ≤ n) (h1 : n ≤ 1000000000000000) : lib_Itoa n = some (bA (Lib.decDigits n.toNat)) := by
  unfold lib_Itoa
  rw [if_pos ⟨by omega, by omega⟩]
  unfold Lib.itoa
  rw [if_neg (by omega)]
  rfl
end Go.Proofs.Tryd

namespace Go.Proofs.Tryd
open Go Go.AX T
def joinP : List L8 → L8
  | [] => [48]
  | p :: r => p ++ Lib.joinTail [43] r
def one1 : T := cons nil 1 nil
def partT (w te : L8) (e : T) (c : Int) : L8 :=
  match e with
  | nil => Lib.decDigits c.toNat
  | cons _ _ _ => (w ++ (if cmpT e one1 = 0 then [] else [94, 40] ++ te ++ [41])) ++ (if c = 1 then [] else [42] ++ Lib.decDigits c.toNat)
def partsT (w : L8) : T → List L8
  | nil => []
  | cons e c l => partT w (joinP (partsT w e)) e c :: partsT w l
def textT (w : L8) (t : T) : L8 := joinP (partsT w t)
theorem tail_cons (p : L8) (r : List L8) : Lib.joinTail [43] (p :: r) = 43 :: (p ++ Lib.joinTail [43] r) := by simp [Lib.joinTail]
/-- How long a text may be. -/
def roomT (w : L8) (t : T) : Nat := (w.length + 30) * t.size
theorem roomT_cons (w : L8) (e : T) (c : Int) (l : T) : roomT w (cons e c l) = roomT w e + roomT w l + (w.length + 30) := by
  simp only [roomT, size, Nat.mul_add, Nat.mul_one]
theorem partT_len {w te : L8} {e : T} {c : Int} (h1 : 1 ≤ c) (h2 : c ≤ 1000000) : (partT w te e c).length ≤ te.length + w.length + 28 := by
  have hd := dec_len (u := c.toNat) (by omega)
  have hc : (if c = 1 then ([] : L8) else [42] ++ Lib.decDigits c.toNat).length ≤ 22 := by
    split
    · simp
    · simp only [List.length_append, List.length_cons, List.length_nil]; omega
  cases e with
  | nil => simp only [partT]; omega
  | cons e0 c0 l0 =>
    simp only [partT, List.length_append]
    have : (if cmpT (cons e0 c0 l0) one1 = 0 then ([] : L8) else [94, 40] ++ te ++ [41]).length ≤ te.length + 3 := by
      split
      · simp
      · simp only [List.length_append, List.length_cons, List.length_nil]; omega
    omega
theorem parts_len {w : L8} : ∀ {t : T} {p : Option T}, formA p t = true → (Lib.joinTail [43] (partsT w t)).length ≤ roomT w t
  | nil, _, _ => by simp [partsT, Lib.joinTail]
  | cons e c l, p, h => by
    simp only [formA, Bool.and_eq_true, decide_eq_true_eq] at h
    obtain ⟨⟨⟨⟨h1, h2⟩, h3⟩, _⟩, h4⟩ := h
    have he := parts_len (w := w) h3
    have hl := parts_len (w := w) h4
    have hd := dec_len (u := c.toNat) (by omega)
    have hj : (joinP (partsT w e)).length ≤ roomT w e + 1 := by
      cases hq : partsT w e with
      | nil => simp [joinP]
      | cons q r =>
        rw [hq, tail_cons] at he
        simp only [joinP, List.length_cons, List.length_append] at he ⊢
        omega
    have hp := partT_len (w := w) (te := joinP (partsT w e)) (e := e) h1 h2
    rw [roomT_cons]
    simp only [partsT, tail_cons, List.length_cons, List.length_append]
    omega
theorem join_len {w : L8} {t : T} {p : Option T} (h : formA p t = true) : (textT w t).length ≤ roomT w t + 1 := by
  have := parts_len (w := w) h
  unfold textT
  cases hq : partsT w t with
  | nil => simp [joinP]
  | cons q r =>
    rw [hq, tail_cons] at this
    simp only [joinP, List.length_cons, List.length_append] at this ⊢
    omega
end Go.Proofs.Tryd

namespace Go.Proofs.Tryd
open Go Go.AX T
def zerT : T → Bool
  | nil => true
  | cons _ _ _ => false
theorem isZt (t : T) : impl_isZero t.rows = some (zerT t) := by unfold impl_isZero; cases t <;> rfl
theorem odZt (t : T) : spec_odZero t.rows = some (zerT t) := by unfold spec_odZero; cases t <;> rfl
theorem odOne : spec_odInt 1 = some one1.rows := rfl
theorem fiOne : impl_finite 1 = some one1.rows := rfl
theorem calm_one : calm one1 := by simp [one1, calm]
theorem calm_form : ∀ {t : T} {p : Option T}, formA p t = true → calm t
  | nil, _, _ => trivial
  | cons e c l, p, h => by
    simp only [formA, Bool.and_eq_true, decide_eq_true_eq] at h
    obtain ⟨⟨⟨⟨h1, h2⟩, h3⟩, _⟩, h4⟩ := h
    exact ⟨calm_form h3, ⟨by omega, by omega⟩, calm_form h4⟩
theorem txe (te : L8) : ((bA [94, 40]) ++ bA te) ++ bA [41] = bA ([94, 40] ++ te ++ [41]) := by rw [bA_app, bA_app]
theorem room_e {w : L8} {t e : T} (h : e.size ≤ t.size) : roomT w e ≤ roomT w t := Nat.mul_le_mul_left _ h
/-! ### the program -/
def rowsP (ps : List L8) : Rw := ps.map fun p => [D.str (bA p)]
theorem rowsP_snoc (acc : List L8) (p : L8) : rowsP acc ++ [[D.str (bA p)]] = rowsP (acc ++ [p]) := by simp [rowsP]
theorem strsD_rows : ∀ ps : List L8, strsD (rowsP ps) = some (ps.map bA)
  | [] => rfl
  | p :: ps => by
    have := strsD_rows ps
    simp only [rowsP, List.map_cons, strsD] at this ⊢
    rw [this]
theorem iText_loop {k : Nat} {w : L8} {rec_ : Rw → ByteArray → Option ByteArray} {a : T} {K : Rw → Option ByteArray} (hk : 2000000 < k) (hs : a.size ≤ 100000) (hw : w.length ≤ 100) (hr : ∀ e : T, e.size < a.size → formA none e = true → rec_ e.rows (bA w) = some (bA (textT w e))) :
    ∀ (t : T) (p : Option T) (acc : List L8), formA p t = true → t.size ≤ a.size → acc.length + t.len ≤ 1000000000 → roomT w t ≤ 1000000000 → impl_ordinalText_l0 k rec_ a.rows (bA w) K t.rows (rowsP acc) = K (rowsP (acc ++ partsT w t))
  | nil, _, acc, _, _, _, _ => by simp [rows, impl_ordinalText_l0, partsT]
  | cons e c l, p, acc, hf, ht, hn, hb => by
    have hF := hf
    simp only [formA, Bool.and_eq_true, decide_eq_true_eq] at hf
    obtain ⟨⟨⟨⟨h1, h2⟩, h3⟩, _⟩, h4⟩ := hf
    have hse : e.size < a.size := by simp only [size] at ht; omega
    have hsl : l.size ≤ a.size := by simp only [size] at ht; omega
    have hte := join_len (w := w) h3
    have hd := dec_len (u := c.toNat) (by omega)
    rw [roomT_cons] at hb
    simp only [len] at hn
    have hnum := itoa_eq (n := c) (by omega) (by omega)
    have fin : ∀ q : L8, q = partT w (textT w e) e c → (if (rowsP acc).length + 1 ≤ cap then impl_ordinalText_l0 k rec_ a.rows (bA w) K l.rows (rowsP acc ++ [[D.str (bA q)]]) else none) = K (rowsP (acc ++ partsT w (cons e c l))) := by
      intro q hq
      rw [if_pos (by simp only [rowsP, List.length_map, cap]; omega), rowsP_snoc, iText_loop hk hs hw hr l (some e) _ h4 hsl (by simp only [List.length_append, List.length_singleton]; omega) (by omega)]
      subst hq
      simp only [partsT, textT, List.append_assoc, List.cons_append, List.nil_append]
    simp only [rows, impl_ordinalText_l0, cell_T]
    rw [bA_42, bA_41, bA_94]
    refine bind_of (isZt e) ?_
    cases e with
    | nil =>
      refine ite_pos rfl ?_
      refine bind_of hnum ?_
      exact fin _ rfl
    | cons e0 c0 l0 =>
      refine ite_neg (by simp [zerT]) ?_
      refine bind_of fiOne ?_
      refine bind_of (impl_cmp_eq k (cons e0 c0 l0) one1 (by omega) (by simp only [cap]; omega)) ?_
      by_cases g : cmpT (cons e0 c0 l0) one1 = 0
      · refine ite_pos g ?_
        by_cases h : c = 1
        · refine ite_pos h ?_
          exact fin _ (by simp only [partT, if_pos g, if_pos h, List.append_nil])
        · refine ite_neg h ?_
          refine bind_of hnum ?_
          refine ite_pos (by rw [bA_size, bA_size, List.length_singleton]; omega) ?_
          refine ite_pos (by simp only [bA_app, bA_size, List.length_append, List.length_singleton]; omega) ?_
          simp only [bA_app]
          exact fin _ (by simp only [partT, if_pos g, if_neg h, List.append_nil])
      · refine ite_neg g ?_
        refine bind_of (hr _ hse h3) ?_
        refine ite_pos (by rw [bA_size, bA_size]; simp only [List.length_cons, List.length_nil]; omega) ?_
        refine ite_pos (by rw [bA_app, bA_size, bA_size]; simp only [List.length_append, List.length_cons, List.length_nil]; omega) ?_
        refine ite_pos (by simp only [bA_app, bA_size, List.length_append, List.length_cons, List.length_nil]; omega) ?_
        by_cases h : c = 1
        · refine ite_pos h ?_
          simp only [bA_app]
          exact fin _ (by simp only [partT, if_neg g, if_pos h, List.append_nil])
        · refine ite_neg h ?_
          refine bind_of hnum ?_
          refine ite_pos (by rw [bA_size, bA_size, List.length_singleton]; omega) ?_
          refine ite_pos (by simp only [bA_app, bA_size, List.length_append, List.length_cons, List.length_nil]; omega) ?_
          simp only [bA_app]
          exact fin _ (by simp only [partT, if_neg g, if_neg h])
theorem joinP_join : ∀ {ps : List L8}, ps ≠ [] → Lib.join ps [43] = joinP ps
  | [], h => absurd rfl h
  | p :: r, _ => Lib.join_cons p r [43]
theorem parts_count {w : L8} : ∀ t : T, (partsT w t).length = t.len
  | nil => rfl
  | cons e c l => by simp only [partsT, List.length_cons, len, parts_count l]
theorem iText_eq {w : L8} (hw : w.length ≤ 100) : ∀ (k : Nat) (a : T) (p : Option T), formA p a = true → a.size + 2000001 < k → a.size ≤ 100000 → impl_ordinalText k a.rows (bA w) = some (bA (textT w a))
  | 0, _, _, _, h, _ => absurd h (Nat.not_lt_zero _)
  | k + 1, a, p, hf, h, hs => by
    have hl := a.len_size
    have hroom : roomT w a ≤ 1000000000 := by
      have : roomT w a ≤ 130 * a.size := Nat.mul_le_mul_right _ (by omega)
      omega
    simp only [impl_ordinalText, impl_ordinalText_b]
    rw [if_pos (by rw [rows_len]; simp only [cap]; omega), show ([] : Rw) = rowsP [] from rfl, iText_loop (a := a) (by omega) hs hw (fun e he hfe => iText_eq hw k e none hfe (by omega) (by omega)) a p [] hf (Nat.le_refl _) (by simp only [List.length_nil]; omega) hroom, List.nil_append]
    unfold impl_ordinalText_p3
    have hc := parts_count (w := w) a
    have hlen := join_len (w := w) hf
    cases hq : partsT w a with
    | nil =>
      refine ite_pos rfl ?_
      simp only [textT, hq, joinP]
      rfl
    | cons q r =>
      refine ite_neg (by simp [rowsP]; omega) ?_
      have hj : Lib.join (((q :: r).map bA).map (·.data.toList)) [43] = textT w a := by
        rw [List.map_map, show ((fun x : ByteArray => x.data.toList) ∘ bA) = id from funext bA_data, List.map_id, joinP_join (by simp), textT, hq]
      refine bind_of (y := bA (textT w a)) ?_ rfl
      unfold lib_Join
      refine bind_of (strsD_rows _) ?_
      rw [show (ByteArray.mk #[43]).data.toList = [43] from rfl, hj]
      refine ite_pos ⟨?_, by omega⟩ rfl
      rw [List.length_map, ← hq, hc]
      omega
theorem impl_text (k : Nat) (a : T) (h : a.size + 2000001 < k) (hc : a.size ≤ cap) : impl_OrdinalText k a.rows = some (if ordP a then (bA (textT [119] a), true) else (bA [], false)) := by
  unfold impl_OrdinalText
  refine bind_of (IsOrdinal_eq k a (by omega) hc) ?_
  cases ho : ordP a with
  | false => refine ite_neg (by simp) ?_; rfl
  | true =>
    refine ite_pos rfl ?_
    have hz := ordP_size ho
    simp only [ordP, Bool.and_eq_true] at ho
    refine bind_of (iText_eq (w := [119]) (by simp) k a none ho.2 h (by omega)) ?_
    rfl
end Go.Proofs.Tryd

namespace Go.Proofs.Tryd
open Go Go.AX T
/-- The digit of n at the place i. -/
def dg (b n i : Nat) : Nat := n / b ^ i % b
/-- The terms of the digits below the place m; H gives the exponents. -/
def lowT (b : Nat) (H : Nat → T) (n : Nat) : Nat → T
  | 0 => nil
  | m + 1 => if dg b n m = 0 then lowT b H n m else cons (H m) (dg b n m : Int) (lowT b H n m)
def herF : Nat → Nat → Nat → T
  | 0, _, _ => nil
  | f + 1, b, n => lowT b (herF f b) n n
/-- The hereditary form of n to the base b. -/
def her (b n : Nat) : T := herF (n + 1) b n
theorem lowT_congr {b n : Nat} {H H' : Nat → T} : ∀ {m : Nat}, (∀ i, i < m → H i = H' i) → lowT b H n m = lowT b H' n m
  | 0, _ => rfl
  | m + 1, h => by
    simp only [lowT]
    rw [lowT_congr (m := m) fun i hi => h i (by omega), h m (by omega)]
theorem herF_eq {b : Nat} : ∀ (f f' n : Nat), n < f → n < f' → herF f b n = herF f' b n
  | 0, _, _, h, _ => absurd h (Nat.not_lt_zero _)
  | _ + 1, 0, _, _, h => absurd h (Nat.not_lt_zero _)
  | f + 1, f' + 1, n, h, h' => lowT_congr fun i hi => herF_eq f f' i (by omega) (by omega)
theorem her_eq (b n : Nat) : her b n = lowT b (her b) n n := lowT_congr fun i hi => herF_eq n (i + 1) i hi (by omega)
theorem dg_zero {b n i : Nat} (h : n < b ^ i) : dg b n i = 0 := by
  unfold dg
  rw [Nat.div_eq_of_lt h, Nat.zero_mod]
theorem lowT_stop {b n m : Nat} {H : Nat → T} (hb : 2 ≤ b) (h : n < b ^ m) : ∀ j, lowT b H n (m + j) = lowT b H n m
  | 0 => rfl
  | j + 1 => by
    have : n < b ^ (m + j) := Nat.lt_of_lt_of_le h (Nat.pow_le_pow_right (by omega) (by omega))
    show (if dg b n (m + j) = 0 then lowT b H n (m + j) else _) = _
    rw [if_pos (dg_zero this), lowT_stop hb h j]
theorem her_low {b n m : Nat} (hb : 2 ≤ b) (h : n < b ^ m) : her b n = lowT b (her b) n m := by
  have h1 := lowT_stop (H := her b) hb h n
  have h2 := lowT_stop (H := her b) hb (Nat.lt_pow_self (n := n) (show 1 < b by omega)) m
  rw [her_eq, ← h1, ← h2, Nat.add_comm]
theorem her_zero (b : Nat) : her b 0 = nil := rfl
/-! ### the order -/
theorem mod_split (b n m : Nat) : n % b ^ (m + 1) = n % b ^ m + b ^ m * dg b n m := Nat.mod_pow_succ
theorem low_lead {b n j : Nat} {H : Nat → T} (d : Int) (l : T) : ∀ {m : Nat}, (∀ i, i < m → cmpT (H i) (H j) = -1) → cmpT (lowT b H n m) (cons (H j) d l) = -1
  | 0, _ => rfl
  | m + 1, h => by
    simp only [lowT]
    split
    · exact low_lead d l fun i hi => h i (by omega)
    · simp only [cmpT, h m (by omega)]; rw [if_neg (by decide)]
theorem lowT_cmp {b a c : Nat} {H : Nat → T} (hb : 2 ≤ b) : ∀ {m : Nat}, (∀ i j, i < j → j < m → cmpT (H i) (H j) = -1) → (a % b ^ m < c % b ^ m → cmpT (lowT b H a m) (lowT b H c m) = -1) ∧ (a % b ^ m = c % b ^ m → lowT b H a m = lowT b H c m)
  | 0, _ => by simp [Nat.mod_one, lowT]
  | m + 1, h => by
    obtain ⟨i1, i2⟩ := lowT_cmp (a := a) (c := c) hb (m := m) fun i j hij hj => h i j hij (by omega)
    have hp : 0 < b ^ m := Nat.pow_pos (by omega)
    have ra : a % b ^ m < b ^ m := Nat.mod_lt _ hp
    have rc : c % b ^ m < b ^ m := Nat.mod_lt _ hp
    rw [mod_split, mod_split]
    simp only [lowT]
    generalize a % b ^ m = u at i1 i2 ra ⊢
    generalize c % b ^ m = v at i1 i2 rc ⊢
    generalize dg b a m = d
    generalize dg b c m = e
    have key : (d < e → b ^ m * d + b ^ m ≤ b ^ m * e) ∧ (e < d → b ^ m * e + b ^ m ≤ b ^ m * d) := by
      refine ⟨fun q => ?_, fun q => ?_⟩
      · have := Nat.mul_le_mul_left (b ^ m) (show d + 1 ≤ e by omega); rwa [Nat.mul_succ] at this
      · have := Nat.mul_le_mul_left (b ^ m) (show e + 1 ≤ d by omega); rwa [Nat.mul_succ] at this
    rcases Nat.lt_trichotomy d e with q | q | q
    · have k1 := key.1 q
      refine ⟨fun _ => ?_, fun g => by omega⟩
      rw [if_neg (show ¬ e = 0 by omega)]
      split
      · exact low_lead _ _ fun i hi => h i m hi (by omega)
      · have hI : cmpI (d : Int) (e : Int) = -1 := by unfold cmpI; rw [if_pos (by omega)]
        simp only [cmpT, cmpT_refl, if_true, hI]
        rw [if_neg (by decide)]
    · subst q
      refine ⟨fun g => ?_, fun g => by rw [i2 (by omega)]⟩
      have g1 := i1 (by omega)
      split
      · exact g1
      · simp only [cmpT, cmpT_refl, cmpI_refl, if_true]; exact g1
    · have k1 := key.2 q
      exact ⟨fun g => by omega, fun g => by omega⟩
theorem her_lt {b : Nat} (hb : 2 ≤ b) : ∀ (c a : Nat), a < c → cmpT (her b a) (her b c) = -1 := by
  intro c
  induction c using Nat.strongRecOn with
  | ind c ih =>
    intro a hac
    have hc : c < b ^ c := Nat.lt_pow_self (by omega)
    rw [her_low hb (show a < b ^ c by omega), her_low hb hc]
    refine (lowT_cmp (a := a) (c := c) hb fun i j hij hj => ih j hj i hij).1 ?_
    rw [Nat.mod_eq_of_lt (show a < b ^ c by omega), Nat.mod_eq_of_lt hc]
    exact hac
theorem cmp_gt {a b : T} (h : cmpT a b = -1) : 0 < cmpT b a := by
  have := cmpT_neg a b
  omega
theorem low_form {b n : Nat} {H : Nat → T} (hb : 2 ≤ b) (h9 : b ≤ 1000001) : ∀ {m : Nat} {p : Option T}, (∀ i j, i < j → j < m → cmpT (H i) (H j) = -1) → (∀ i, i < m → formA none (H i) = true) → (∀ i, i < m → (match p with | none => true | some q => decide (0 < cmpT q (H i))) = true) → formA p (lowT b H n m) = true
  | 0, _, _, _, _ => by simp [lowT, formA]
  | m + 1, p, hH, hF, hp => by
    simp only [lowT]
    split
    · exact low_form hb h9 (fun i j a c => hH i j a (by omega)) (fun i hi => hF i (by omega)) fun i hi => hp i (by omega)
    · rename_i hd
      have h1 : dg b n m < b := Nat.mod_lt _ (by omega)
      simp only [formA, Bool.and_eq_true, decide_eq_true_eq]
      refine ⟨⟨⟨⟨by omega, by omega⟩, hF m (by omega)⟩, hp m (by omega)⟩, ?_⟩
      refine low_form hb h9 (fun i j a c => hH i j a (by omega)) (fun i hi => hF i (by omega)) fun i hi => ?_
      simp only [decide_eq_true_eq]
      exact cmp_gt (hH i m hi (by omega))
theorem her_form {b : Nat} (hb : 2 ≤ b) (h9 : b ≤ 1000001) : ∀ n : Nat, formA none (her b n) = true := by
  intro n
  induction n using Nat.strongRecOn with
  | ind n ih =>
    rw [her_eq]
    exact low_form hb h9 (fun i j hij _ => her_lt hb j i hij) (fun i hi => ih i hi) fun i hi => rfl
/-! ### how large -/
theorem low_size {b n S : Nat} {H : Nat → T} : ∀ {m : Nat}, (∀ i, i < m → (H i).size ≤ S) → (lowT b H n m).size ≤ m * (S + 1)
  | 0, _ => by simp [lowT, size]
  | m + 1, h => by
    have := low_size (b := b) (n := n) (m := m) fun i hi => h i (by omega)
    have h1 := h m (by omega)
    rw [Nat.succ_mul]
    simp only [lowT]
    split
    · omega
    · simp only [size]; omega
theorem low_len {b n : Nat} {H : Nat → T} : ∀ {m : Nat}, (lowT b H n m).len ≤ m
  | 0 => by simp [lowT, len]
  | m + 1 => by
    have := low_len (b := b) (n := n) (H := H) (m := m)
    simp only [lowT]
    split
    · omega
    · simp only [len]; omega
theorem her_size {b n S : Nat} (L : Nat) (hb : 2 ≤ b) (h : n < 2 ^ L) (hs : ∀ i, i < L → (her b i).size ≤ S) : (her b n).size ≤ L * (S + 1) := by
  rw [her_low hb (Nat.lt_of_lt_of_le h (Nat.pow_le_pow_left hb L))]
  exact low_size hs
theorem her_small {b n : Nat} (hb : 2 ≤ b) (h : n ≤ 1000000) : (her b n).size ≤ 1620 := by
  have s0 : ∀ i, i < 1 → (her b i).size ≤ 0 := fun i hi => by
    have := her_size (b := b) (n := i) (S := 0) 0 hb (by omega) (fun j hj => by omega)
    omega
  have s1 : ∀ i, i < 2 → (her b i).size ≤ 1 := fun i hi => her_size (b := b) (n := i) 1 hb (by omega) s0
  have s2 : ∀ i, i < 4 → (her b i).size ≤ 4 := fun i hi => her_size (b := b) (n := i) 2 hb (by omega) s1
  have s3 : ∀ i, i < 8 → (her b i).size ≤ 15 := fun i hi => her_size (b := b) (n := i) 3 hb (by omega) fun j hj => s2 j (by omega)
  have s4 : ∀ i, i < 32 → (her b i).size ≤ 80 := fun i hi => her_size (b := b) (n := i) 5 hb (by omega) fun j hj => s3 j (by omega)
  exact her_size (b := b) (n := n) 20 hb (by omega) fun j hj => s4 j (by omega)
end Go.Proofs.Tryd

namespace Go.Proofs.Tryd
open Go Go.AX T
theorem dText_tail {k : Nat} {w : L8} {rec_ : Rw → ByteArray → Option ByteArray} {a : T} {K : ByteArray → Option ByteArray} (hw : w.length ≤ 100) (hk : 2000000 < k) (hs : a.size ≤ 100000) (hr : ∀ e : T, e.size < a.size → formA none e = true → rec_ e.rows (bA w) = some (bA (textT w e))) :
    ∀ (t : T) (p : Option T) (n : Nat) (acc : L8), formA p t = true → t.size ≤ a.size → 0 < n → acc.length + roomT w t ≤ 1000000000 → spec_deText_l0 k rec_ a.rows (bA w) K t.rows n (bA acc) = K (bA (acc ++ Lib.joinTail [43] (partsT w t)))
  | nil, _, n, acc, _, _, _, _ => by simp [rows, spec_deText_l0, partsT, Lib.joinTail]
  | cons e c l, p, n, acc, hf, ht, hn, hb => by
    have hF := hf
    simp only [formA, Bool.and_eq_true, decide_eq_true_eq] at hf
    obtain ⟨⟨⟨⟨h1, h2⟩, h3⟩, _⟩, h4⟩ := hf
    have hse : e.size < a.size := by simp only [size] at ht; omega
    have hsl : l.size ≤ a.size := by simp only [size] at ht; omega
    have hte := join_len (w := w) h3
    have hpl := partT_len (w := w) (te := textT w e) (e := e) h1 h2
    have hd := dec_len (u := c.toNat) (by omega)
    rw [roomT_cons] at hb
    have hnum := num_eq k c (by omega) (by omega) (by omega)
    have fin : ∀ q : L8, q = partT w (textT w e) e c → spec_deText_l0 k rec_ a.rows (bA w) K l.rows (n + 1) (bA (acc ++ [43] ++ q)) = K (bA (acc ++ Lib.joinTail [43] (partsT w (cons e c l)))) := by
      intro q hq
      rw [dText_tail hw hk hs hr l (some e) (n + 1) _ h4 hsl (by omega) (by subst hq; simp only [List.length_append, List.length_singleton]; omega)]
      subst hq
      simp only [partsT, tail_cons, textT, List.append_assoc, List.cons_append, List.nil_append]
    simp only [rows, spec_deText_l0, cell_T]
    rw [bA_43, bA_42, bA_41, bA_94]
    refine ite_pos (by omega) ?_
    refine ite_pos (by rw [bA_size, bA_size, List.length_singleton]; omega) ?_
    refine bind_of (odZt e) ?_
    cases e with
    | nil =>
      refine ite_pos rfl ?_
      refine bind_of hnum ?_
      refine ite_pos (by rw [bA_app, bA_size, bA_size, List.length_append, List.length_singleton]; omega) ?_
      rw [bA_app, bA_app]
      exact fin _ rfl
    | cons e0 c0 l0 =>
      refine ite_neg (by simp [zerT]) ?_
      refine ite_pos (by rw [bA_app, bA_size, bA_size, List.length_append, List.length_singleton]; omega) ?_
      refine bind_of odOne ?_
      refine bind_of (odCmp_eq k (cons e0 c0 l0) one1 (calm_form h3) calm_one (by omega) (by simp only [cap]; omega)) ?_
      by_cases g : cmpT (cons e0 c0 l0) one1 = 0
      · refine ite_pos g ?_
        by_cases h : 1 < c
        · refine ite_pos h ?_
          refine bind_of hnum ?_
          refine ite_pos (by rw [bA_size, bA_size, List.length_singleton]; omega) ?_
          refine ite_pos (by simp only [bA_app, bA_size, List.length_append, List.length_singleton]; omega) ?_
          simp only [bA_app]
          rw [show acc ++ [43] ++ w ++ ([42] ++ Lib.decDigits c.toNat) = acc ++ [43] ++ (w ++ ([42] ++ Lib.decDigits c.toNat)) by simp]
          exact fin _ (by simp only [partT, if_pos g, if_neg (show ¬ c = 1 by omega), List.append_nil])
        · refine ite_neg h ?_
          simp only [bA_app]
          exact fin _ (by simp only [partT, if_pos g, if_pos (show c = 1 by omega), List.append_nil])
      · refine ite_neg g ?_
        refine bind_of (hr _ hse h3) ?_
        refine ite_pos (by rw [bA_size, bA_size]; simp only [List.length_cons, List.length_nil]; omega) ?_
        refine ite_pos (by rw [bA_app, bA_size, bA_size]; simp only [List.length_append, List.length_cons, List.length_nil]; omega) ?_
        refine ite_pos (by simp only [bA_app, bA_size, List.length_append, List.length_cons, List.length_nil]; omega) ?_
        by_cases h : 1 < c
        · refine ite_pos h ?_
          refine bind_of hnum ?_
          refine ite_pos (by rw [bA_size, bA_size, List.length_singleton]; omega) ?_
          refine ite_pos (by simp only [bA_app, bA_size, List.length_append, List.length_cons, List.length_nil]; omega) ?_
          simp only [bA_app]
          rw [show acc ++ [43] ++ w ++ ([94, 40] ++ textT w (cons e0 c0 l0) ++ [41]) ++ ([42] ++ Lib.decDigits c.toNat) = acc ++ [43] ++ (w ++ ([94, 40] ++ textT w (cons e0 c0 l0) ++ [41]) ++ ([42] ++ Lib.decDigits c.toNat)) by simp]
          exact fin _ (by simp only [partT, if_neg g, if_neg (show ¬ c = 1 by omega)])
        · refine ite_neg h ?_
          simp only [bA_app]
          rw [show acc ++ [43] ++ w ++ ([94, 40] ++ textT w (cons e0 c0 l0) ++ [41]) = acc ++ [43] ++ (w ++ ([94, 40] ++ textT w (cons e0 c0 l0) ++ [41])) by simp]
          exact fin _ (by simp only [partT, if_neg g, if_pos (show c = 1 by omega), List.append_nil])
theorem dText_head {k : Nat} {w : L8} {rec_ : Rw → ByteArray → Option ByteArray} {a : T} {K : ByteArray → Option ByteArray} (hw : w.length ≤ 100) (hk : 2000000 < k) (hs : a.size ≤ 100000) (hr : ∀ e : T, e.size < a.size → formA none e = true → rec_ e.rows (bA w) = some (bA (textT w e))) :
    ∀ (t : T) (p : Option T), formA p t = true → t.size ≤ a.size → roomT w t ≤ 1000000000 → spec_deText_l0 k rec_ a.rows (bA w) K t.rows 0 (bA []) = K (bA (match partsT w t with | [] => [] | _ :: _ => textT w t))
  | nil, _, _, _, _ => rfl
  | cons e c l, p, hf, ht, hb => by
    have hF := hf
    simp only [formA, Bool.and_eq_true, decide_eq_true_eq] at hf
    obtain ⟨⟨⟨⟨h1, h2⟩, h3⟩, _⟩, h4⟩ := hf
    have hse : e.size < a.size := by simp only [size] at ht; omega
    have hsl : l.size ≤ a.size := by simp only [size] at ht; omega
    have hte := join_len (w := w) h3
    have hpl := partT_len (w := w) (te := textT w e) (e := e) h1 h2
    have hd := dec_len (u := c.toNat) (by omega)
    rw [roomT_cons] at hb
    have hnum := num_eq k c (by omega) (by omega) (by omega)
    have fin : ∀ q : L8, q = partT w (textT w e) e c → spec_deText_l0 k rec_ a.rows (bA w) K l.rows (0 + 1) (bA ([] ++ q)) = K (bA (match partsT w (cons e c l) with | [] => [] | _ :: _ => textT w (cons e c l))) := by
      intro q hq
      rw [dText_tail hw hk hs hr l (some e) (0 + 1) _ h4 hsl (by omega) (by subst hq; simp only [List.nil_append]; omega)]
      subst hq
      simp only [partsT, textT, joinP, List.nil_append]
    simp only [rows, spec_deText_l0, cell_T]
    rw [bA_42, bA_41, bA_94]
    refine ite_neg (by simp) ?_
    refine bind_of (odZt e) ?_
    cases e with
    | nil =>
      refine ite_pos rfl ?_
      refine bind_of hnum ?_
      refine ite_pos (by rw [bA_size, bA_size, List.length_nil]; omega) ?_
      rw [bA_app]
      exact fin _ rfl
    | cons e0 c0 l0 =>
      refine ite_neg (by simp [zerT]) ?_
      refine ite_pos (by rw [bA_size, bA_size, List.length_nil]; omega) ?_
      refine bind_of odOne ?_
      refine bind_of (odCmp_eq k (cons e0 c0 l0) one1 (calm_form h3) calm_one (by omega) (by simp only [cap]; omega)) ?_
      by_cases g : cmpT (cons e0 c0 l0) one1 = 0
      · refine ite_pos g ?_
        by_cases h : 1 < c
        · refine ite_pos h ?_
          refine bind_of hnum ?_
          refine ite_pos (by rw [bA_size, bA_size, List.length_singleton]; omega) ?_
          refine ite_pos (by simp only [bA_app, bA_size, List.length_append, List.length_singleton, List.length_nil]; omega) ?_
          simp only [bA_app]
          rw [show ([] : L8) ++ w ++ ([42] ++ Lib.decDigits c.toNat) = [] ++ (w ++ ([42] ++ Lib.decDigits c.toNat)) by simp]
          exact fin _ (by simp only [partT, if_pos g, if_neg (show ¬ c = 1 by omega), List.append_nil])
        · refine ite_neg h ?_
          simp only [bA_app]
          exact fin _ (by simp only [partT, if_pos g, if_pos (show c = 1 by omega), List.append_nil])
      · refine ite_neg g ?_
        refine bind_of (hr _ hse h3) ?_
        refine ite_pos (by rw [bA_size, bA_size]; simp only [List.length_cons, List.length_nil]; omega) ?_
        refine ite_pos (by rw [bA_app, bA_size, bA_size]; simp only [List.length_append, List.length_cons, List.length_nil]; omega) ?_
        refine ite_pos (by simp only [bA_app, bA_size, List.length_append, List.length_cons, List.length_nil]; omega) ?_
        by_cases h : 1 < c
        · refine ite_pos h ?_
          refine bind_of hnum ?_
          refine ite_pos (by rw [bA_size, bA_size, List.length_singleton]; omega) ?_
          refine ite_pos (by simp only [bA_app, bA_size, List.length_append, List.length_cons, List.length_nil]; omega) ?_
          simp only [bA_app]
          rw [show ([] : L8) ++ w ++ ([94, 40] ++ textT w (cons e0 c0 l0) ++ [41]) ++ ([42] ++ Lib.decDigits c.toNat) = [] ++ (w ++ ([94, 40] ++ textT w (cons e0 c0 l0) ++ [41]) ++ ([42] ++ Lib.decDigits c.toNat)) by simp]
          exact fin _ (by simp only [partT, if_neg g, if_neg (show ¬ c = 1 by omega)])
        · refine ite_neg h ?_
          simp only [bA_app]
          rw [show ([] : L8) ++ w ++ ([94, 40] ++ textT w (cons e0 c0 l0) ++ [41]) = [] ++ (w ++ ([94, 40] ++ textT w (cons e0 c0 l0) ++ [41])) by simp]
          exact fin _ (by simp only [partT, if_neg g, if_pos (show c = 1 by omega), List.append_nil])
theorem dText_eq {w : L8} (hw : w.length ≤ 100) : ∀ (k : Nat) (a : T) (p : Option T), formA p a = true → a.size + 2000001 < k → a.size ≤ 100000 → spec_deText k a.rows (bA w) = some (bA (textT w a))
  | 0, _, _, _, h, _ => absurd h (Nat.not_lt_zero _)
  | k + 1, a, p, hf, h, hs => by
    have hl := a.len_size
    have hroom : roomT w a ≤ 1000000000 := by
      have : roomT w a ≤ 130 * a.size := Nat.mul_le_mul_right _ (by omega)
      omega
    simp only [spec_deText, spec_deText_b]
    refine bind_of (odZt a) ?_
    cases a with
    | nil => refine ite_pos rfl ?_; rfl
    | cons e c l =>
      refine ite_neg (by simp [zerT]) ?_
      unfold spec_deText_p2
      rw [if_pos (by rw [rows_len]; simp only [cap]; omega), bA_nil, dText_head (a := cons e c l) hw (by omega) hs (fun e he hfe => dText_eq hw k e none hfe (by omega) (by omega)) (cons e c l) p hf (Nat.le_refl _) hroom]
      rfl
/-! ### the forms -/
theorem dg_int (b n i : Nat) : (((n / b ^ i : Nat) : Int)).tmod (b : Int) = (dg b n i : Int) := by
  rw [Int.tmod_eq_emod_of_nonneg (Int.natCast_nonneg _)]
  unfold dg
  exact (Int.natCast_emod _ _).symm
theorem nx_int (b n i : Nat) : (((n / b ^ i : Nat) : Int)).tdiv (b : Int) = ((n / b ^ (i + 1) : Nat) : Int) := by
  rw [Int.tdiv_eq_ediv_of_nonneg (Int.natCast_nonneg _), Nat.pow_succ, ← Nat.div_div_eq_div_mul]
  exact (Int.natCast_ediv _ _).symm
theorem dg_lt {b n i : Nat} (hb : 2 ≤ b) (h : dg b n i ≠ 0) : i < n := by
  have h1 : b ^ i ≤ n := by
    rcases Nat.lt_or_ge n (b ^ i) with g | g
    · exact absurd (dg_zero g) h
    · exact g
  exact Nat.lt_of_lt_of_le (Nat.lt_pow_self (by omega)) h1
theorem div_small {b n i : Nat} (h : n / b ^ i = 0) (hb : 2 ≤ b) : n < b ^ i := by
  rcases Nat.div_eq_zero_iff.1 h with g | g
  · have : 0 < b ^ i := Nat.pow_pos (by omega)
    omega
  · exact g
theorem div_next {b n i : Nat} (hb : 2 ≤ b) (h : 0 < n / b ^ i) : n / b ^ (i + 1) < n / b ^ i := by
  rw [Nat.pow_succ, ← Nat.div_div_eq_div_mul]
  exact Nat.div_lt_self h (by omega)
theorem div_le (b n i : Nat) : n / b ^ i ≤ n := Nat.div_le_self _ _
theorem deForm_loop {rec_ : Int → Int → Option Rw} {b n : Nat} {K : Rw → Option Rw} (hb : 2 ≤ b) (h9 : b ≤ 1000001) (hn : n ≤ 1000000) (hr : ∀ i : Nat, i < n → rec_ i b = some (her b i).rows) :
    ∀ (f i : Nat), n / b ^ i < f → i ≤ n + 1 → spec_deForm_l0 rec_ b K f ((n / b ^ i : Nat) : Int) i (lowT b (her b) n i).rows = K (her b n).rows
  | 0, _, h, _ => absurd h (Nat.not_lt_zero _)
  | f + 1, i, h, hi => by
    simp only [spec_deForm_l0]
    by_cases g : 0 < n / b ^ i
    · have hin : i < n := by
        rcases Nat.lt_or_ge i n with q | q
        · exact q
        · have : n < b ^ i := Nat.lt_of_lt_of_le (Nat.lt_pow_self (n := n) (show 1 < b by omega)) (Nat.pow_le_pow_right (by omega) q)
          rw [Nat.div_eq_of_lt this] at g
          omega
      have hle := div_le b n i
      have hle2 := div_le b n (i + 1)
      have hlen := low_len (b := b) (n := n) (H := her b) (m := i)
      have hnx := div_next hb g
      refine ite_pos (Int.natCast_pos.2 g) ?_
      refine ite_pos (by omega) ?_
      rw [dg_int, nx_int, wid (n := ((n / b ^ (i + 1) : Nat) : Int)) (Int.le_trans (by decide) (Int.natCast_nonneg _)) (Int.lt_of_le_of_lt (Int.ofNat_le.2 (Nat.le_trans hle2 hn)) (by decide)), wid (n := (i : Int) + 1) (by omega) (by omega)]
      have ih := deForm_loop (K := K) hb h9 hn hr f (i + 1) (by omega) (by omega)
      rw [show ((i + 1 : Nat) : Int) = (i : Int) + 1 by omega] at ih
      by_cases hd : dg b n i = 0
      · refine ite_neg (by omega) ?_
        rw [show lowT b (her b) n (i + 1) = lowT b (her b) n i from if_pos hd] at ih
        exact ih
      · refine ite_pos (by omega) ?_
        refine bind_of (hr i hin) ?_
        rw [show lowT b (her b) n (i + 1) = cons (her b i) (dg b n i : Int) (lowT b (her b) n i) from if_neg hd] at ih
        refine ite_pos ⟨?_, rowsWide _⟩ ih
        rw [rows_len]
        simp only [List.length_singleton, cap]
        omega
    · refine ite_neg (fun q => g (Int.natCast_pos.1 q)) ?_
      rw [her_low hb (div_small (b := b) (n := n) (i := i) (Nat.eq_zero_of_not_pos g) hb)]
theorem deForm_eq {b : Nat} (hb : 2 ≤ b) (h9 : b ≤ 1000001) : ∀ (k n : Nat), n + 1 < k → n ≤ 1000000 → spec_deForm k n b = some (her b n).rows
  | 0, _, h, _ => absurd h (Nat.not_lt_zero _)
  | k + 1, n, h, hn => by
    simp only [spec_deForm, spec_deForm_b]
    have := deForm_loop (K := fun v => some v) (b := b) (n := n) hb h9 hn (rec_ := spec_deForm k) (fun i hi => deForm_eq hb h9 k i (by omega) (by omega)) k 0 (by rw [Nat.pow_zero, Nat.div_one]; omega) (by omega)
    rw [Nat.pow_zero, Nat.div_one] at this
    exact this
def digR (b n i : Nat) : Rw := (List.range i).map fun j => [D.int .i64 (dg b n j : Int)]
theorem digR_len (b n i : Nat) : (digR b n i).length = i := by simp [digR]
theorem digR_snoc (b n i : Nat) : digR b n i ++ [[D.int .i64 (dg b n i : Int)]] = digR b n (i + 1) := by simp [digR, List.range_succ]
theorem intsD_map : ∀ zs : List Int, intsD (zs.map fun z => [D.int .i64 z]) = some zs
  | [] => rfl
  | z :: zs => by simp only [List.map_cons, intsD, intsD_map zs]
theorem her_digits {b n : Nat} {K : Rw → Option Rw} (hb : 2 ≤ b) (hn : n ≤ 1000000) :
    ∀ (f i : Nat), n / b ^ i < f → i ≤ n + 1 → ∃ L, n < b ^ L ∧ L ≤ n + 1 ∧ impl_hereditary_l0 b K f ((n / b ^ i : Nat) : Int) (digR b n i) = K (digR b n L)
  | 0, _, h, _ => absurd h (Nat.not_lt_zero _)
  | f + 1, i, h, hi => by
    simp only [impl_hereditary_l0]
    by_cases g : 0 < n / b ^ i
    · have hin : i < n := by
        rcases Nat.lt_or_ge i n with q | q
        · exact q
        · have : n < b ^ i := Nat.lt_of_lt_of_le (Nat.lt_pow_self (n := n) (show 1 < b by omega)) (Nat.pow_le_pow_right (by omega) q)
          rw [Nat.div_eq_of_lt this] at g
          omega
      have hle := div_le b n i
      have hle2 := div_le b n (i + 1)
      have hnx := div_next hb g
      obtain ⟨L, l1, l2, l3⟩ := her_digits (K := K) hb hn f (i + 1) (by omega) (by omega)
      refine ⟨L, l1, l2, ?_⟩
      refine ite_pos (Int.natCast_pos.2 g) ?_
      refine ite_pos (by omega) ?_
      refine ite_pos (by rw [digR_len]; simp only [cap]; omega) ?_
      rw [dg_int, nx_int, wid (n := ((n / b ^ (i + 1) : Nat) : Int)) (Int.le_trans (by decide) (Int.natCast_nonneg _)) (Int.lt_of_le_of_lt (Int.ofNat_le.2 (Nat.le_trans hle2 hn)) (by decide)), digR_snoc]
      exact l3
    · exact ⟨i, div_small (Nat.eq_zero_of_not_pos g) hb, hi, ite_neg (fun q => g (Int.natCast_pos.1 q)) rfl⟩
theorem her_rounds {rec_ : Int → Int → Option Rw} {b n L : Nat} {y : Rw} {K : Rw → Option Rw} (hb : 2 ≤ b) (hn : n ≤ 1000000) (hL : L ≤ n + 1) (hr : ∀ i : Nat, i < n → rec_ i b = some (her b i).rows) :
    ∀ (m : Nat) (acc : T), m ≤ L → acc.len + m ≤ 1000002 → impl_hereditary_rf0 rec_ b y ((List.range L).map fun j => (dg b n j : Int)) K m acc.rows = K (acc.rows ++ (lowT b (her b) n m).rows)
  | 0, acc, _, _ => by simp [impl_hereditary_rf0, lowT, rows]
  | m + 1, acc, hm, ha => by
    have hz : (((List.range L).map fun j => (dg b n j : Int))[m]?.getD 0) = (dg b n m : Int) := by
      rw [List.getElem?_map, List.getElem?_range (by omega)]; rfl
    simp only [impl_hereditary_rf0, hz]
    by_cases hd : dg b n m = 0
    · refine ite_neg (by omega) ?_
      rw [show lowT b (her b) n (m + 1) = lowT b (her b) n m from if_pos hd]
      exact her_rounds hb hn hL hr m acc (by omega) (by omega)
    · refine ite_pos (by omega) ?_
      refine bind_of (hr m (dg_lt hb hd)) ?_
      refine ite_pos (by rw [rows_len]; simp only [cap]; omega) ?_
      refine ite_pos ⟨by omega, by simp only [List.length_singleton]; omega⟩ ?_
      have ih := her_rounds (y := y) (K := K) hb hn hL hr m (app acc (cons (her b m) (dg b n m : Int) nil)) (by omega) (by rw [len_app]; simp only [len]; omega)
      rw [show lowT b (her b) n (m + 1) = cons (her b m) (dg b n m : Int) (lowT b (her b) n m) from if_neg hd]
      have hrow : (acc.rows ++ [[D.sl ([]), D.int .i64 0]])[acc.rows.length]? = some [D.sl ([]), D.int .i64 0] := by simp
      unfold row_si
      rw [if_pos (by omega), Int.toNat_natCast, hrow]
      simp only [cell_si]
      have hset : (acc.rows ++ [[D.sl ([]), D.int .i64 0]]).set acc.rows.length [D.sl (her b m).rows, D.int .i64 (dg b n m : Int)] = (app acc (cons (her b m) (dg b n m : Int) nil)).rows := by
        rw [rows_app]
        simp [rows]
      rw [hset, ih, rows_app]
      simp [rows]
theorem hereditary_eq {b : Nat} (hb : 2 ≤ b) : ∀ (k n : Nat), n + 1 < k → n ≤ 1000000 → impl_hereditary k n b = some (her b n).rows
  | 0, _, h, _ => absurd h (Nat.not_lt_zero _)
  | k + 1, n, h, hn => by
    simp only [impl_hereditary, impl_hereditary_b]
    obtain ⟨L, l1, l2, l3⟩ := her_digits (K := (fun (v10 : Rw) => ((lib_Backward v10).bind fun y17 => ((intsD y17).bind fun zs19 => (if zs19.length ≤ cap then (impl_hereditary_rf0 (impl_hereditary k) b y17 zs19 (fun (v29 : Rw) => some v29) zs19.length ([] : Rw)) else none))))) (b := b) (n := n) hb hn k 0 (by rw [Nat.pow_zero, Nat.div_one]; omega) (by omega)
    rw [Nat.pow_zero, Nat.div_one] at l3
    refine l3.trans ?_
    refine bind_of (y := digR b n L) rfl ?_
    refine bind_of (y := (List.range L).map fun j => (dg b n j : Int)) ?_ ?_
    · rw [← intsD_map]
      simp [digR, Function.comp_def]
    · refine ite_pos (by simp only [List.length_map, List.length_range, cap]; omega) ?_
      have := her_rounds (y := digR b n L) (K := fun v => some v) (rec_ := impl_hereditary k) (b := b) (n := n) (L := L) hb hn l2 (fun i hi => hereditary_eq hb k i (by omega) (by omega)) L nil (Nat.le_refl _) (by simp only [len]; omega)
      rw [List.length_map, List.length_range]
      refine this.trans ?_
      rw [her_low hb l1]
      simp [rows]
end Go.Proofs.Tryd

namespace Go.Proofs.Tryd
open Go Go.AX T
theorem same_bytes {α : Type} (l : L8) {a b r : α} (h : b = r) : (if (!((bA l).toList == (bA l).toList)) = true then a else b) = r := by
  rw [if_neg (by simp)]; exact h
theorem deBase_eq (n b : Int) : spec_deBase n b = some ((decide (0 ≤ n) && decide (n ≤ 1000000)) && (decide (2 ≤ b) && decide (b ≤ 1000))) := by
  unfold spec_deBase
  rw [l1In_eq, l1In_eq]
  cases decide (0 ≤ n) && decide (n ≤ 1000000) <;> cases decide (2 ≤ b) && decide (b ≤ 1000) <;> rfl
theorem baseOk_eq (b : Int) : impl_baseOk b = some (decide (2 ≤ b) && decide (b ≤ 1000)) := by
  unfold impl_baseOk
  rw [impl_in_eq]
  cases decide (2 ≤ b) && decide (b ≤ 1000) <;> rfl
/-- The base in digits. -/
def baseT (b : Nat) : L8 := Lib.decDigits b
theorem baseT_len {b : Nat} (h : b ≤ 1000) : (baseT b).length ≤ 100 := by
  have := dec_len (u := b) (by omega)
  unfold baseT; omega
theorem htext_both {k N B : Nat} (hk : 2100000 < k) (hN : N ≤ 1000000) (h2 : 2 ≤ B) (hB : B ≤ 1000) :
    spec_HereditaryText k N B = some (bA (textT (baseT B) (her B N)), true) ∧ impl_HereditaryText k N B = some (bA (textT (baseT B) (her B N)), true) := by
  have hs := her_small h2 hN
  have hf := her_form h2 (by omega) N
  have hn := num_eq k B (by omega) (by omega) (by omega)
  have hi := itoa_eq (n := B) (by omega) (by omega)
  rw [Int.toNat_natCast] at hn hi
  constructor
  · unfold spec_HereditaryText
    refine bind_of (deBase_eq _ _) ?_
    refine ite_pos (by simp; omega) ?_
    refine bind_of (deForm_eq h2 (by omega) k N (by omega) hN) ?_
    refine bind_of hn ?_
    refine bind_of (dText_eq (w := baseT B) (baseT_len hB) k (her B N) none hf (by omega) (by omega)) rfl
  · unfold impl_HereditaryText
    refine bind_of (impl_in_eq _ _ _) ?_
    refine ite_pos (by simp; omega) ?_
    refine bind_of (baseOk_eq _) ?_
    refine ite_pos (by simp; omega) ?_
    refine bind_of (hereditary_eq h2 k N (by omega) hN) ?_
    refine bind_of hi ?_
    refine bind_of (iText_eq (w := baseT B) (baseT_len hB) k (her B N) none hf (by omega) (by omega)) rfl
theorem htext_out {k : Nat} {n b : Int} (h : ((decide (0 ≤ n) && decide (n ≤ 1000000)) && (decide (2 ≤ b) && decide (b ≤ 1000))) = false) : spec_HereditaryText k n b = some (bA [], false) ∧ impl_HereditaryText k n b = some (bA [], false) := by
  constructor
  · unfold spec_HereditaryText
    refine bind_of (deBase_eq _ _) ?_
    rw [h]
    refine ite_neg (by simp) rfl
  · unfold impl_HereditaryText
    refine bind_of (impl_in_eq _ _ _) ?_
    cases h1 : (decide (0 ≤ n) && decide (n ≤ 1000000)) with
    | false => refine ite_neg (by simp) rfl
    | true =>
      refine ite_pos rfl ?_
      refine bind_of (baseOk_eq _) ?_
      rw [h1, Bool.true_and] at h
      rw [h]
      refine ite_neg (by simp) rfl
end Go.Proofs.Tryd

namespace Go.Proofs.Tryd
open Go Go.AX T
/-- A text with w in place of each letter w. -/
def subW (w : L8) : L8 → L8
  | [] => []
  | c :: l => (if c = 119 then w else [c]) ++ subW w l
theorem subW_app (w : L8) : ∀ a b : L8, subW w (a ++ b) = subW w a ++ subW w b
  | [], _ => rfl
  | c :: a, b => by simp only [List.cons_append, subW, subW_app w a b, List.append_assoc]
theorem subW_id {w : L8} : ∀ {a : L8}, (∀ c ∈ a, c ≠ 119) → subW w a = a
  | [], _ => rfl
  | c :: a, h => by
    simp only [subW]
    rw [if_neg (h c List.mem_cons_self), subW_id fun d hd => h d (List.mem_cons_of_mem _ hd)]
    rfl
theorem dec_plain : ∀ u : Nat, ∀ c ∈ Lib.decDigits u, c ≠ 119 := by
  have one : ∀ d : Nat, d < 10 → UInt8.ofNat (48 + d) ≠ 119 := by decide
  intro u
  induction u using Nat.strongRecOn with
  | ind u ih =>
    intro c hc
    rw [Lib.decDigits] at hc
    split at hc
    · rename_i h
      simp only [List.mem_singleton] at hc
      subst hc
      exact one u h
    · rename_i h
      rcases List.mem_append.1 hc with hc | hc
      · exact ih (u / 10) (by omega) c hc
      · simp only [List.mem_singleton] at hc
        subst hc
        exact one (u % 10) (by omega)
theorem subW_dec (w : L8) (u : Nat) : subW w (Lib.decDigits u) = Lib.decDigits u := subW_id (dec_plain u)
theorem subW_part (w te : L8) (e : T) (c : Int) : subW w (partT [119] te e c) = partT w (subW w te) e c := by
  cases e with
  | nil => simp only [partT, subW_dec]
  | cons e0 c0 l0 =>
    simp only [partT, subW_app]
    have h1 : subW w [119] = w := by simp [subW]
    rw [h1]
    congr 1
    · congr 1
      split
      · rfl
      · simp [subW, subW_app]
    · split
      · rfl
      · rw [subW_app, subW_dec]; simp [subW]
theorem subW_tail (w : L8) (f : L8 → L8) : ∀ ps : List L8, (∀ p ∈ ps, subW w p = f p) → subW w (Lib.joinTail [43] ps) = Lib.joinTail [43] (ps.map f)
  | [], _ => by simp [Lib.joinTail, subW]
  | p :: ps, h => by
    rw [tail_cons, List.map_cons, tail_cons]
    simp only [subW, subW_app]
    rw [h p List.mem_cons_self, subW_tail w f ps fun q hq => h q (List.mem_cons_of_mem _ hq)]
    simp
theorem subW_join (w : L8) : ∀ ps : List L8, subW w (joinP ps) = joinP (ps.map (subW w))
  | [] => by simp [joinP, subW]
  | p :: ps => by simp only [joinP, List.map_cons, subW_app]; rw [subW_tail w (subW w) ps fun _ _ => rfl]
theorem subW_parts (w : L8) : ∀ t : T, (partsT [119] t).map (subW w) = partsT w t
  | nil => rfl
  | cons e c l => by
    simp only [partsT, List.map_cons]
    rw [subW_parts w l, subW_part, subW_join, subW_parts w e]
theorem subW_text (w : L8) (t : T) : subW w (textT [119] t) = textT w t := by
  unfold textT
  rw [subW_join, subW_parts]
theorem her_one {B : Nat} (h : 2 ≤ B) : her (B + 1) B = cons nil B nil := by
  rw [her_low (m := 1) (by omega) (by rw [Nat.pow_one]; omega)]
  have hd : dg (B + 1) B 0 = B := by
    unfold dg
    rw [Nat.pow_zero, Nat.div_one, Nat.mod_eq_of_lt (by omega)]
  show (if dg (B + 1) B 0 = 0 then nil else cons (her (B + 1) 0) (dg (B + 1) B 0 : Int) nil) = _
  rw [hd, if_neg (by omega)]
  rfl
theorem subLoop {p dgt : L8} {o52 : ByteArray} {K : ByteArray → Option Bool} (hp : p.length ≤ 1000000) (hd : dgt.length ≤ 100) : ∀ (f i : Nat) (acc : L8), p.length < f + i → i ≤ p.length → acc.length ≤ 101 * i →
    laws_FnHereditaryTexts_l0 o52 (bA p) (bA dgt) K f (bA acc) i = K (bA (acc ++ subW dgt (p.drop i)))
  | 0, i, acc, h, hi, _ => by omega
  | f + 1, i, acc, h, hi, ha => by
    simp only [laws_FnHereditaryTexts_l0, bA_size]
    by_cases g : i < p.length
    · refine ite_pos (by omega) ?_
      have hb : (bA p)[i]? = some p[i] := by
        have h1 : i < (bA p).size := by rw [bA_size]; exact g
        rw [getElem?_pos (bA p) i h1]
        congr 1
      have hdrop : p.drop i = p[i] :: p.drop (i + 1) := List.drop_eq_getElem_cons g
      unfold byteD
      rw [if_pos (by omega), Int.toNat_natCast, hb]
      dsimp only
      rw [wid (n := (i : Int) + 1) (by omega) (by omega), show (i : Int) + 1 = ((i + 1 : Nat) : Int) by omega, hdrop]
      by_cases g2 : p[i] = 119
      · refine ite_pos (by rw [g2]; rfl) ?_
        refine ite_pos (by omega) ?_
        rw [bA_app, subLoop hp hd f (i + 1) (acc ++ dgt) (by omega) (by omega) (by rw [List.length_append]; omega)]
        simp only [subW, g2, if_true, List.append_assoc]
      · refine ite_neg ?_ ?_
        · intro q
          apply g2
          have : p[i].toNat = 119 := by omega
          exact UInt8.toNat_inj.1 this
        · refine ite_pos ⟨by omega, by omega, by omega⟩ ?_
          have he : (bA p).extract i (i + 1) = bA [p[i]] := by
            apply bA_inj
            rw [bA_data, ByteArray.data_extract, Array.toList_extract, bA_data]
            show ((p.drop i).take (i + 1 - i)) = [p[i]]
            rw [hdrop, show i + 1 - i = 1 by omega]
            rfl
          rw [Int.toNat_natCast, he, bA_size]
          refine ite_pos (by simp only [List.length_singleton]; omega) ?_
          rw [bA_app, subLoop hp hd f (i + 1) (acc ++ [p[i]]) (by omega) (by omega) (by rw [List.length_append, List.length_singleton]; omega)]
          simp only [subW, g2, if_false, List.append_assoc]
    · refine ite_neg (by omega) ?_
      rw [List.drop_eq_nil_of_le (by omega)]
      simp [subW]
theorem herOrd_eq {k N B : Nat} (hk : 2100000 < k) (hN : N ≤ 1000000) (h2 : 2 ≤ B) (hB : B ≤ 1000) : impl_HereditaryOrdinal k N B = some ((toldT (her B N)).1.rows, (toldT (her B N)).2) := by
  have hs := her_small h2 hN
  have h3 : cap = 1099511627776 := rfl
  unfold impl_HereditaryOrdinal
  refine bind_of (impl_in_eq _ _ _) ?_
  refine ite_pos (by simp; omega) ?_
  refine bind_of (baseOk_eq _) ?_
  refine ite_pos (by simp; omega) ?_
  refine bind_of (hereditary_eq h2 k N (by omega) hN) ?_
  refine bind_of (told_eq k _ (by omega) (by omega)) ?_
  cases (toldT (her B N)).2 <;> rfl
theorem herOrd_out {k : Nat} {n b : Int} (h : ((decide (0 ≤ n) && decide (n ≤ 1000000)) && (decide (2 ≤ b) && decide (b ≤ 1000))) = false) : impl_HereditaryOrdinal k n b = some ([], false) := by
  unfold impl_HereditaryOrdinal
  refine bind_of (impl_in_eq _ _ _) ?_
  cases h1 : (decide (0 ≤ n) && decide (n ≤ 1000000)) with
  | false => refine ite_neg (by simp) rfl
  | true =>
    refine ite_pos rfl ?_
    refine bind_of (baseOk_eq _) ?_
    rw [h1, Bool.true_and] at h
    rw [h]
    refine ite_neg (by simp) rfl
theorem p3_true {k : Nat} (hk : 2100000 < k) (n b : Int) : laws_FnHereditaryTexts_p3 k n b = some true := by
  unfold laws_FnHereditaryTexts_p3
  cases h : ((decide (0 ≤ n) && decide (n ≤ 1000000)) && (decide (2 ≤ b) && decide (b ≤ 1000))) with
  | false =>
    obtain ⟨e1, e2⟩ := htext_out (k := k) h
    refine bind_of e2 ?_
    refine ite_neg (by simp) ?_
    unfold laws_FnHereditaryTexts_p4
    refine bind_of e1 ?_
    refine ite_neg (by simp) ?_
    unfold laws_FnHereditaryTexts_p5
    refine same_bytes _ ?_
    refine bind_of (herOrd_out h) ?_
    rfl
  | true =>
    simp only [Bool.and_eq_true, decide_eq_true_eq] at h
    obtain ⟨N, rfl⟩ : ∃ N : Nat, n = N := ⟨n.toNat, by omega⟩
    obtain ⟨B, rfl⟩ : ∃ B : Nat, b = B := ⟨b.toNat, by omega⟩
    have hN : N ≤ 1000000 := by omega
    have h2 : 2 ≤ B := by omega
    have hB : B ≤ 1000 := by omega
    have hs := her_small h2 hN
    have h3 : cap = 1099511627776 := rfl
    obtain ⟨e1, e2⟩ := htext_both (k := k) hk hN h2 hB
    refine bind_of e2 ?_
    refine ite_pos rfl ?_
    unfold laws_FnHereditaryTexts_p4
    refine bind_of e1 ?_
    refine ite_pos rfl ?_
    unfold laws_FnHereditaryTexts_p5
    refine same_bytes _ ?_
    refine bind_of (herOrd_eq (by omega) hN h2 hB) ?_
    cases ho : (toldT (her B N)).2 with
    | false => rfl
    | true =>
      have hord : ordP (her B N) = true := by
        unfold toldT at ho
        split at ho
        · assumption
        · cases ho
      have ht : (toldT (her B N)).1 = her B N := by unfold toldT; rw [if_pos hord]
      rw [ht]
      refine ite_pos rfl ?_
      unfold laws_FnHereditaryTexts_p7
      refine bind_of (impl_text k (her B N) (by omega) (by omega)) ?_
      rw [if_pos hord]
      refine ite_pos rfl ?_
      unfold laws_FnHereditaryTexts_p9
      rw [wid (n := (B : Int) + 1) (by omega) (by omega), cond_true]
      by_cases h10 : B = 1000
      · subst h10
        obtain ⟨_, e4⟩ := htext_out (k := k) (n := ((1000 : Nat) : Int)) (b := ((1000 : Nat) : Int) + 1) (by decide)
        refine bind_of e4 ?_
        rfl
      · obtain ⟨_, e4⟩ := htext_both (k := k) (N := B) (B := B + 1) hk (by omega) (by omega) (by omega)
        rw [show ((B + 1 : Nat) : Int) = (B : Int) + 1 by omega, her_one h2, show textT (baseT (B + 1)) (cons nil (B : Int) nil) = baseT B by simp [textT, partsT, joinP, partT, Lib.joinTail, baseT]] at e4
        refine bind_of e4 ?_
        refine ite_pos rfl ?_
        unfold laws_FnHereditaryTexts_p10
        have hf := her_form h2 (by omega) N
        have hl := join_len (w := [119]) hf
        have hr : roomT [119] (her B N) = 31 * (her B N).size := rfl
        have := subLoop (p := textT [119] (her B N)) (dgt := baseT B) (o52 := bA (textT (baseT B) (her B N))) (K := fun v => laws_FnHereditaryTexts_p13 (bA (textT (baseT B) (her B N))) v) (by omega) (baseT_len hB) k 0 [] (by omega) (by omega) (by simp)
        rw [List.drop_zero, List.nil_append, subW_text] at this
        refine this.trans ?_
        unfold laws_FnHereditaryTexts_p13
        rw [if_pos (by simp)]
theorem count9_ok {x : Rw} {a c : Int} (hx : bytes x) (h0 : 0 ≤ a) (h1 : a ≤ 90000000) : Drew x a 4 (spec_l1Cur_count9 x a c) (fun _ => True) := by
  unfold spec_l1Cur_count9
  refine Drew.bind (n := 2) (m := 2) (pick_ok hx h0 (by omega) (by omega)) fun v a' c' q1 q2 q3 => ?_
  dsimp only
  by_cases g : v = 0
  · rw [if_pos g]
    refine Drew.mono (Drew.bind (n := 2) (m := 0) (among_ok (Q := fun _ => True) hx q1 (by omega) (by simp) (by
      intro r hr
      simp only [List.mem_cons, List.not_mem_nil, or_false] at hr
      rcases hr with rfl | rfl | rfl | rfl <;> exact ⟨_, rfl, trivial⟩)) fun v2 a2 c2 p1 p2 p3 => ⟨_, a2, _, rfl, p1, by omega, trivial⟩) (by omega)
  · rw [if_neg g]
    by_cases g2 : v = 1
    · rw [if_pos g2]
      exact Drew.mono (Drew.bind (n := 2) (m := 0) (pick_ok hx q1 (by omega) (by omega)) fun v2 a2 c2 p1 p2 p3 => ⟨_, a2, _, rfl, p1, by omega, trivial⟩) (by omega)
    · rw [if_neg g2]
      exact Drew.mono (Drew.bind (n := 2) (m := 0) (pick_ok hx q1 (by omega) (by omega)) fun v2 a2 c2 p1 p2 p3 => ⟨_, a2, _, rfl, p1, by omega, trivial⟩) (by omega)
theorem base_ok {x : Rw} {a c : Int} (hx : bytes x) (h0 : 0 ≤ a) (h1 : a ≤ 90000000) : Drew x a 4 (spec_l1Cur_base x a c) (fun _ => True) := by
  unfold spec_l1Cur_base
  refine Drew.bind (n := 2) (m := 2) (one_ok hx h0 (by omega) (by omega)) fun v a' c' q1 q2 q3 => ?_
  dsimp only
  cases v with
  | true =>
    rw [if_pos rfl]
    refine Drew.mono (Drew.bind (n := 2) (m := 0) (among_ok (Q := fun _ => True) hx q1 (by omega) (by simp) (by
      intro r hr
      simp only [List.mem_cons, List.not_mem_nil, or_false] at hr
      rcases hr with rfl | rfl | rfl | rfl | rfl <;> exact ⟨_, rfl, trivial⟩)) fun v2 a2 c2 p1 p2 p3 => ⟨_, a2, _, rfl, p1, by omega, trivial⟩) (by omega)
  | false =>
    rw [if_neg (by simp)]
    exact Drew.mono (Drew.bind (n := 2) (m := 0) (pick_ok hx q1 (by omega) (by omega)) fun v2 a2 c2 p1 p2 p3 => ⟨_, a2, _, rfl, p1, by omega, trivial⟩) (by omega)
theorem FnHereditaryTexts_pure {x y : Rw} (hx : bytes x) (hy : bytes y) : laws_FnHereditaryTexts 6000000 x y = some true := by
  have p2 : laws_FnHereditaryTexts_p2 6000000 x = some true := by
    unfold laws_FnHereditaryTexts_p2 spec_DrawHereditaryText
    obtain ⟨v, a', c', e, h1, h2, _⟩ := count9_ok (c := 0) hx (a := 0) (by omega) (by omega)
    obtain ⟨v2, a2, c2, e2, _⟩ := base_ok (c := c') hx h1 (by omega)
    rw [e, Option.bind_some, e2, Option.bind_some, Option.bind_some]
    exact p3_true (by omega) v v2
  unfold laws_FnHereditaryTexts laws_big
  by_cases g1 : (1048576 : Int) < (x.length : Int)
  · rw [if_pos g1]; rfl
  · rw [if_neg g1]
    by_cases g2 : IntKind.i64.wrap (1048576 - (x.length : Int)) < (y.length : Int)
    · rw [if_pos g2]; rfl
    · rw [if_neg g2, Option.bind_some]
      refine ite_neg (by simp) p2
end Go.Proofs.Tryd

namespace Go.Proofs.Tryd
open Go Go.AX
def structTs (P : Program) (t : TypeId) : Option (List TypeId) := match P.underlying t with
  | some (.struct fs) => some (fs.toList.map fun f => f.type)
  | _ => none
def sliceT (P : Program) (t : TypeId) : Option TypeId := match P.underlying t with
  | some (.slice e) => some e
  | _ => none
def intT? (P : Program) (t : TypeId) : Option IntKind := match P.underlying t with
  | some (.int k) => some k
  | _ => none
def HasTs (H : TypeId → List D → Prop) : List TypeId → List D → Prop
  | [], ds => ds = []
  | t :: l, ds => ∃ a b, ds = a ++ b ∧ H t a ∧ HasTs H l b
theorem hasTs_of {H : TypeId → List D → Prop} : ∀ {l : List Field} {ds : List D}, HasFs H l ds → HasTs H (l.map fun f => f.type) ds
  | [], _, h => h
  | _ :: _, _, ⟨a, b, e, h1, h2⟩ => ⟨a, b, e, h1, hasTs_of h2⟩
theorem has_struct {P : Program} {n : Nat} {t : TypeId} {l : List TypeId} {ds : List D} (h : Has P (n + 1) t ds) (e : structTs P t = some l) : HasTs (Has P n) l ds := by
  unfold structTs at e
  simp only [Has] at h
  split at e
  · rename_i fs hu
    rw [hu] at h
    cases e
    exact hasTs_of h
  · cases e
theorem has_slice {P : Program} {n : Nat} {t u : TypeId} {ds : List D} (h : Has P (n + 1) t ds) (e : sliceT P t = some u) : ∃ es, ds = [.sl es] ∧ es.length ≤ maxLen ∧ ∀ r ∈ es, Has P n u r := by
  unfold sliceT at e
  simp only [Has] at h
  split at e
  · rename_i v hu
    rw [hu] at h
    cases e
    exact h
  · cases e
theorem has_int {P : Program} {n : Nat} {t : TypeId} {k : IntKind} {ds : List D} (h : Has P (n + 1) t ds) (e : intT? P t = some k) : ∃ i, ds = [.int k i] ∧ (Lit.int k i).wf = true := by
  unfold intT? at e
  simp only [Has] at h
  split at e
  · rename_i v hu
    rw [hu] at h
    cases e
    exact h
  · cases e
theorem has_bool {P : Program} {n : Nat} {t : TypeId} {ds : List D} (h : Has P (n + 1) t ds) (e : (match P.underlying t with | some .bool => true | _ => false) = true) : ∃ b, ds = [.bool b] := by
  simp only [Has] at h
  split at e
  · rename_i hu
    rw [hu] at h
    exact h
  · cases e
theorem has_str {P : Program} {n : Nat} {t : TypeId} {ds : List D} (h : Has P (n + 1) t ds) (e : (match P.underlying t with | some .string => true | _ => false) = true) : ∃ b, ds = [.str b] ∧ b.size ≤ maxLen := by
  simp only [Has] at h
  split at e
  · rename_i hu
    rw [hu] at h
    exact h
  · cases e
/-- Bytes. -/
def bytesOf (x : Rw) : Prop := ∀ r ∈ x, ∃ b : Int, r = [.int .u8 b] ∧ 0 ≤ b ∧ b < 256
theorem has_bytes {P : Program} {n : Nat} {t u : TypeId} {ds : List D} (h : Has P n t ds) (e : sliceT P t = some u) (e2 : intT? P u = some .u8) : ∃ es, ds = [.sl es] ∧ bytesOf es := by
  cases n with
  | zero => exact h.elim
  | succ n =>
    obtain ⟨es, rfl, _, hr⟩ := has_slice h e
    refine ⟨es, rfl, fun r hm => ?_⟩
    have hh := hr r hm
    cases n with
    | zero => exact hh.elim
    | succ n =>
      obtain ⟨i, rfl, hw⟩ := has_int hh e2
      have e1 : IntKind.u8.min = 0 := by decide
      have e2 : IntKind.u8.max = 255 := by decide
      simp only [Lit.wf, e1, e2, Bool.and_eq_true, decide_eq_true_eq] at hw
      exact ⟨i, rfl, by omega, by omega⟩
theorem argA_agg {P : Program} {t : TypeId} (e : aggT P t = true) (ds : List D) : argA P t ds = .agg (ds.map .d) := by unfold argA; rw [e]
theorem argA_one {P : Program} {t : TypeId} (e : aggT P t = false) (ds : List D) : argA P t ds = .d (ds.headD (.bool false)) := by unfold argA; rw [e]
theorem has_int1 {P : Program} {n : Nat} {t : TypeId} {k : IntKind} {ds : List D} (h : Has P n t ds) (e : intT? P t = some k) : ∃ i, ds = [.int k i] ∧ (Lit.int k i).wf = true := by
  cases n with
  | zero => exact h.elim
  | succ n => exact has_int h e
end Go.Proofs.Tryd

namespace Go.Proofs.Tryd
open Go Go.AX
set_option maxRecDepth 100000 in
theorem FnHereditaryTexts_true {n0 n1 : Nat} {c0 c1 : List D} (w0 : Has prog n0 22 c0) (w1 : Has prog n1 22 c1) : Ct prog 5 [argA prog 22 c0, argA prog 22 c1] ⟨[], []⟩ (.d (.bool true)) ⟨[], []⟩ := by
  obtain ⟨u, rfl, bu⟩ := has_bytes w0 (u := 5) (by kernel_rfl) (by kernel_rfl)
  obtain ⟨v, rfl, bv⟩ := has_bytes w1 (u := 5) (by kernel_rfl) (by kernel_rfl)
  rw [argA_one (t := 22) (by kernel_rfl), argA_one (t := 22) (by kernel_rfl)]
  exact laws_FnHereditaryTexts_ct (FnHereditaryTexts_pure bu bv)
end Go.Proofs.Tryd
