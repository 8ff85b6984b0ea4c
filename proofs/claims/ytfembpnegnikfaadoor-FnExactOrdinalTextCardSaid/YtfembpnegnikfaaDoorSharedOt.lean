/- What the printed functions compute: plain data. -/
import Derived.Test.YtfembpnegnikfaaDoorOT0
import Derived.Lib.Strings
import Derived.Lib.Join
import Derived.Lib.ItoaLen
set_option linter.unusedVariables false
set_option linter.unusedSimpArgs false
namespace Go.Proofs.Tryd
open Go Go.AX

theorem wid {n : Int} (h1 : -9223372036854775808 ≤ n) (h2 : n < 9223372036854775808) : IntKind.i64.wrap n = n := wrap_in h1 h2
/-- An ordinal: its terms, exponents and coefficients. -/
inductive T where
  | nil
  | cons (e : T) (c : Int) (l : T)
namespace T
def rows : T → Rw
  | nil => []
  | cons e c l => [.sl (rows e), .int .i64 c] :: rows l
def size : T → Nat
  | nil => 0
  | cons e _ l => size e + size l + 1
def len : T → Nat
  | nil => 0
  | cons _ _ l => len l + 1
def drop : T → Nat → T
  | t, 0 => t
  | nil, _ + 1 => nil
  | cons _ _ l, n + 1 => drop l n
def app : T → T → T
  | nil, b => b
  | cons e c l, b => cons e c (app l b)
@[simp] theorem drop_zero (t : T) : drop t 0 = t := by cases t <;> rfl
@[simp] theorem drop_nil (n : Nat) : drop nil n = nil := by cases n <;> rfl
@[simp] theorem rows_len (t : T) : (rows t).length = len t := by
  induction t with
  | nil => rfl
  | cons e c l _ ih => simp [rows, len, ih]
theorem len_size (t : T) : len t ≤ size t := by
  induction t with
  | nil => simp [len]
  | cons e c l _ ih => simp [len, size]; omega
@[simp] theorem rows_app (a b : T) : rows (app a b) = rows a ++ rows b := by
  induction a with
  | nil => rfl
  | cons e c l _ ih => simp [app, rows, ih]
theorem rows_drop (t : T) (i : Nat) : rows (drop t i) = (rows t).drop i := by
  induction t generalizing i with
  | nil => cases i <;> simp [drop, rows]
  | cons e c l _ ih => cases i with
    | zero => simp [drop]
    | succ i => simp [drop, rows, ih]
theorem rowsWide (t : T) : ∀ cs ∈ rows t, cs.length = 2 := by
  induction t with
  | nil => intro cs h; cases h
  | cons e c l _ ih =>
    intro cs h
    simp only [rows, List.mem_cons] at h
    rcases h with rfl | h
    · rfl
    · exact ih cs h
theorem rowsWide_drop (t : T) (i : Nat) : ∀ cs ∈ (rows t).drop i, cs.length = 2 := fun cs h => rowsWide t cs (List.mem_of_mem_drop h)
theorem drop_len (t : T) (i : Nat) : len (drop t i) = len t - i := by rw [← rows_len, rows_drop, List.length_drop, rows_len]
theorem drop_succ {t : T} {i : Nat} {e : T} {c : Int} {l : T} (h : drop t i = cons e c l) : drop t (i + 1) = l := by
  induction t generalizing i with
  | nil => simp at h
  | cons e' c' l' _ ih =>
    cases i with
    | zero => simp only [drop, cons.injEq] at h ⊢; simp [h.2.2]
    | succ i => exact ih h
theorem drop_size {t : T} {i : Nat} : size (drop t i) ≤ size t := by
  induction t generalizing i with
  | nil => simp
  | cons e c l _ ih =>
    cases i with
    | zero => simp
    | succ i => simp only [drop, size]; have := ih (i := i); omega
theorem drop_cons_size {t : T} {i : Nat} {e : T} {c : Int} {l : T} (h : drop t i = cons e c l) : size e + size l + 1 ≤ size t := by
  have := drop_size (t := t) (i := i); rw [h] at this; exact this
theorem drop_lt {t : T} {i : Nat} {e : T} {c : Int} {l : T} (h : drop t i = cons e c l) : i < len t := by
  have := drop_len t i; rw [h] at this; simp only [len] at this; omega
theorem drop_ge {t : T} {i : Nat} (h : drop t i = nil) : len t ≤ i := by
  have := drop_len t i; rw [h] at this; simp only [len] at this; omega
theorem drop_of_ge {t : T} {i : Nat} (h : len t ≤ i) : drop t i = nil := by
  have := drop_len t i
  cases hd : drop t i with
  | nil => rfl
  | cons e c l => rw [hd] at this; simp only [len] at this; omega
theorem rows_get {t : T} {i : Nat} {e : T} {c : Int} {l : T} (h : drop t i = cons e c l) : (rows t)[i]? = some [.sl (rows e), .int .i64 c] := by
  have := rows_drop t i
  rw [h] at this
  have h2 : ((rows t).drop i)[0]? = some [.sl (rows e), .int .i64 c] := by rw [← this]; rfl
  rwa [List.getElem?_drop, Nat.add_zero] at h2
@[simp] theorem app_nil (t : T) : app t nil = t := by
  induction t with
  | nil => rfl
  | cons e c l _ ih => simp [app, ih]
theorem app_assoc (a b c : T) : app (app a b) c = app a (app b c) := by
  induction a with
  | nil => rfl
  | cons e k l _ ih => simp [app, ih]
theorem size_app (a b : T) : (app a b).size = a.size + b.size := by
  induction a with
  | nil => simp [app, size]
  | cons e c l _ ih => simp [app, size, ih]; omega
theorem len_app (a b : T) : (app a b).len = a.len + b.len := by
  induction a with
  | nil => simp [app, len]
  | cons e c l _ ih => simp [app, len, ih]; omega
theorem rows_inj : ∀ {a b : T}, rows a = rows b → a = b
  | nil, nil, _ => rfl
  | nil, cons _ _ _, h => by simp [rows] at h
  | cons _ _ _, nil, h => by simp [rows] at h
  | cons e c l, cons f d m, h => by
    simp only [rows, List.cons.injEq, D.sl.injEq, D.int.injEq, true_and, and_true] at h
    obtain ⟨⟨h1, h2⟩, h3⟩ := h
    rw [rows_inj h1, h2, rows_inj h3]
end T
open T
theorem row_rows {α : Type} {t : T} {i : Int} {n : Nat} (hi : i = n) {e : T} {c : Int} {l : T} (h : drop t n = cons e c l) (F : Rw → List D → Option α) : (if 0 ≤ i then (match (rows t)[i.toNat]? with | some cs => F (rows t) cs | none => none) else none) = F (rows t) [.sl (rows e), .int .i64 c] := by
  subst hi
  rw [if_pos (by omega), Int.toNat_natCast, rows_get h]

/-! ### the order -/
def cmpI (a b : Int) : Int := if a < b then -1 else if b < a then 1 else 0
def cmpT : T → T → Int
  | nil, nil => 0
  | nil, cons _ _ _ => -1
  | cons _ _ _, nil => 1
  | cons e c l, cons f d m => if cmpT e f = 0 then (if cmpI c d = 0 then cmpT l m else cmpI c d) else cmpT e f
theorem cmpI_refl (a : Int) : cmpI a a = 0 := by simp [cmpI]
theorem cmpI_eq {a b : Int} : cmpI a b = 0 ↔ a = b := by unfold cmpI; split <;> (try split) <;> simp <;> omega
theorem cmpI_neg (a b : Int) : cmpI b a = - cmpI a b := by unfold cmpI; split <;> split <;> (try split) <;> omega
theorem cmpT_range (a b : T) : cmpT a b = -1 ∨ cmpT a b = 0 ∨ cmpT a b = 1 := by
  induction a generalizing b with
  | nil => cases b <;> simp [cmpT]
  | cons e c l ihe ihl =>
    cases b with
    | nil => simp [cmpT]
    | cons f d m =>
      simp only [cmpT]
      split
      · split
        · exact ihl m
        · unfold cmpI; split <;> (try split) <;> simp
      · exact ihe f
theorem cmpT_refl (a : T) : cmpT a a = 0 := by
  induction a with
  | nil => rfl
  | cons e c l ihe ihl => simp [cmpT, ihe, ihl, cmpI_refl]
theorem cmpT_eq {a b : T} : cmpT a b = 0 ↔ a = b := by
  induction a generalizing b with
  | nil => cases b <;> simp [cmpT]
  | cons e c l ihe ihl =>
    cases b with
    | nil => simp [cmpT]
    | cons f d m =>
      simp only [cmpT, cons.injEq]
      constructor
      · intro h
        split at h
        · rename_i h1
          split at h
          · rename_i h2; exact ⟨ihe.1 h1, cmpI_eq.1 h2, ihl.1 h⟩
          · rename_i h2; exact absurd h h2
        · rename_i h1; exact absurd h h1
      · rintro ⟨rfl, rfl, rfl⟩
        rw [if_pos (cmpT_refl e), if_pos (cmpI_refl c)]; exact cmpT_refl l
theorem cmpT_neg (a b : T) : cmpT b a = - cmpT a b := by
  induction a generalizing b with
  | nil => cases b <;> simp [cmpT]
  | cons e c l ihe ihl =>
    cases b with
    | nil => simp [cmpT]
    | cons f d m =>
      simp only [cmpT, ihe f, ihl m, cmpI_neg c d]
      split <;> split <;> (try split) <;> (try split) <;> omega
theorem cmpI_trans {a b c : Int} (h1 : cmpI a b < 0) (h2 : cmpI b c < 0) : cmpI a c < 0 := by
  unfold cmpI at *
  split at h1 <;> (try split at h1) <;> split at h2 <;> (try split at h2) <;> split <;> (try split) <;> omega
theorem cmpT_trans {a b c : T} (h1 : cmpT a b < 0) (h2 : cmpT b c < 0) : cmpT a c < 0 := by
  induction a generalizing b c with
  | nil =>
    cases b with
    | nil => simp [cmpT] at h1
    | cons f d m => cases c with
      | nil => simp [cmpT] at h2
      | cons g k n => simp [cmpT]
  | cons e x l ihe ihl =>
    cases b with
    | nil => simp [cmpT] at h1
    | cons f y m =>
      cases c with
      | nil => simp [cmpT] at h2
      | cons g z n =>
        simp only [cmpT] at h1 h2 ⊢
        by_cases q1 : cmpT e f = 0
        · rw [if_pos q1] at h1
          obtain rfl := cmpT_eq.1 q1
          by_cases q2 : cmpT e g = 0
          · rw [if_pos q2] at h2 ⊢
            by_cases q3 : cmpI x y = 0
            · rw [if_pos q3] at h1
              obtain rfl := cmpI_eq.1 q3
              by_cases q4 : cmpI x z = 0
              · rw [if_pos q4] at h2 ⊢; exact ihl h1 h2
              · rw [if_neg q4] at h2 ⊢; exact h2
            · rw [if_neg q3] at h1
              by_cases q4 : cmpI y z = 0
              · rw [if_pos q4] at h2
                obtain rfl := cmpI_eq.1 q4
                rw [if_neg q3]; exact h1
              · rw [if_neg q4] at h2
                have := cmpI_trans h1 h2
                rw [if_neg (by omega)]; exact this
          · rw [if_neg q2] at h2 ⊢; exact h2
        · rw [if_neg q1] at h1
          by_cases q2 : cmpT f g = 0
          · obtain rfl := cmpT_eq.1 q2
            rw [if_neg q1]; exact h1
          · rw [if_neg q2] at h2
            have := ihe h1 h2
            rw [if_neg (by omega)]; exact this

/-! ### what is right -/
def nodesL : T → Nat
  | nil => 0
  | cons e _ l => 2 + nodesL e + nodesL l
def dp : T → Nat
  | nil => 0
  | cons e _ l => max (1 + dp e) (dp l)
/-- Coefficients in their range, exponents that fall; p: the exponent ahead. -/
def formA : Option T → T → Bool
  | _, nil => true
  | p, cons e c l => decide (1 ≤ c) && decide (c ≤ 1000000) && formA none e && (match p with | none => true | some q => decide (0 < cmpT q e)) && formA (some e) l
def ordP (t : T) : Bool := decide (1 + nodesL t ≤ 60) && decide (dp t ≤ 6) && formA none t
theorem nodes_size (t : T) : nodesL t = 2 * size t := by
  induction t with
  | nil => rfl
  | cons e c l ihe ihl => simp only [nodesL, size, ihe, ihl]; omega
theorem ordP_size {t : T} (h : ordP t = true) : size t ≤ 30 := by
  simp only [ordP, Bool.and_eq_true, decide_eq_true_eq] at h
  have := nodes_size t
  omega
end Go.Proofs.Tryd

namespace Go.Proofs.Tryd
theorem bind_of {α β : Type} {o : Option α} {y : α} {K : α → Option β} {r : Option β} (h : o = some y) (hk : K y = r) : o.bind K = r := by rw [h]; exact hk
theorem ite_pos {α : Type} {c : Prop} [Decidable c] {a b r : α} (h : c) (hk : a = r) : (if c then a else b) = r := by rw [if_pos h]; exact hk
theorem ite_neg {α : Type} {c : Prop} [Decidable c] {a b r : α} (h : ¬ c) (hk : b = r) : (if c then a else b) = r := by rw [if_neg h]; exact hk
theorem cond_tt {α : Type} {a b r : α} (h : a = r) : cond true a b = r := h
theorem cond_ff {α : Type} {a b r : α} (h : b = r) : cond false a b = r := h
end Go.Proofs.Tryd

namespace Go.Proofs.Tryd
open Go Go.AX T
/-! ### rows of terms -/
@[simp] theorem cell_T {α : Type} (x : Rw) (c : Int) (K : Rw → Int → Option α) : cell_si [.sl x, .int .i64 c] K = K x c := rfl
theorem row_T {α : Type} {t : T} {i : Int} {n : Nat} (hi : i = n) {e : T} {c : Int} {l : T} (h : drop t n = cons e c l) (K : Rw → Int → Option α) : row_si t.rows i K = K e.rows c := by
  subst hi
  unfold row_si
  rw [if_pos (by omega), Int.toNat_natCast, rows_get h]; rfl
@[simp] theorem row_T0 {α : Type} (e : T) (c : Int) (l : T) (K : Rw → Int → Option α) : row_si (cons e c l).rows 0 K = K e.rows c := row_T (n := 0) rfl rfl K
theorem lenI (t : T) : ((t.rows.length : Nat) : Int) = (t.len : Int) := by rw [rows_len]
/-! ### impl's order -/
theorem impl_compare_eq (a b : Int) : impl_compare a b = some (cmpI a b) := by unfold impl_compare cmpI; split <;> (try split) <;> rfl
theorem CompareFunc_loop {rec_ : Rw → Rw → Option Int} {a b : T} {K : Option Int} (hr : ∀ e f : T, e.size < a.size → rec_ e.rows f.rows = some (cmpT e f)) (hK : K = (if (a.len : Int) < b.len then some (-1) else some 0)) :
    ∀ (t : T) (i : Nat), drop a i = t → i ≤ a.len → i ≤ b.len → slices_CompareFunc__cmpTerms_l0 rec_ a.rows b.rows K t.rows i = some (cmpT t (drop b i))
  | nil, i, hd, ha', hb => by
    simp only [rows, slices_CompareFunc__cmpTerms_l0, hK]
    have h1 := drop_ge hd
    by_cases h2 : i < b.len
    · cases hq : drop b i with
      | nil => have := drop_ge hq; omega
      | cons f d m =>
        have : a.len = i ∨ a.len < i := by omega
        rw [if_pos (by omega)]; rfl
    · rw [drop_of_ge (t := b) (by omega), if_neg (by
        intro q
        omega)]; rfl
  | cons e c l, i, hd, ha', hb => by
    simp only [rows, slices_CompareFunc__cmpTerms_l0, cell_T]
    have hs := drop_cons_size hd
    by_cases h2 : b.len ≤ i
    · rw [if_pos (by rw [lenI]; omega), drop_of_ge h2]; rfl
    · rw [if_neg (by rw [lenI]; omega)]
      cases hq : drop b i with
      | nil => have := drop_ge hq; omega
      | cons f d m =>
        rw [row_T rfl hq]
        simp only [impl_cmpTerms, hr e f (by omega), Option.bind_some, impl_compare_eq]
        by_cases h3 : cmpT e f = 0
        · simp only [h3, if_true, Option.bind_some]
          by_cases h4 : cmpI c d = 0
          · rw [if_pos h4, CompareFunc_loop hr hK l (i + 1) (drop_succ hd) (drop_lt hd) (by omega), drop_succ hq]
            simp [cmpT, h3, h4]
          · rw [if_neg h4]; simp [cmpT, h3, h4]
        · simp only [if_neg h3, Option.bind_some]; simp [cmpT, h3]
theorem impl_cmp_eq : ∀ (k : Nat) (a b : T), a.size < k → a.size ≤ cap → impl_cmp k a.rows b.rows = some (cmpT a b)
  | 0, _, _, h, _ => absurd h (Nat.not_lt_zero _)
  | k + 1, a, b, h, hc => by
    have hl := a.len_size
    simp only [impl_cmp, impl_cmp_b, slices_CompareFunc__cmpTerms]
    rw [if_pos (by rw [rows_len]; omega)]
    rw [CompareFunc_loop (a := a) (b := b) (fun e f he => impl_cmp_eq k e f (by omega) (by omega)) (by rw [lenI, lenI]) a 0 (drop_zero a) (by omega) (by omega)]
    simp
/-! ### spec's order -/
/-- Coefficients whose differences do not run over. -/
def calm : T → Prop
  | nil => True
  | cons e c l => calm e ∧ (-1000000000000000 ≤ c ∧ c ≤ 1000000000000000) ∧ calm l
theorem calm_drop {t : T} (h : calm t) : ∀ {i : Nat}, calm (drop t i) := by
  induction t with
  | nil => intro i; simpa using h
  | cons e c l _ ih => intro i; cases i with
    | zero => simpa using h
    | succ i => exact ih h.2.2
theorem sign_eq {c d : Int} (hc : -1000000000000000 ≤ c ∧ c ≤ 1000000000000000) (hd : -1000000000000000 ≤ d ∧ d ≤ 1000000000000000) : spec_l1Sign (IntKind.i64.wrap (c - d)) = some (cmpI c d) := by
  rw [wid (by omega) (by omega)]
  unfold spec_l1Sign cmpI
  by_cases h1 : c < d
  · rw [if_neg (by omega), if_pos (by omega), if_pos h1]
  · by_cases h2 : d < c
    · rw [if_pos (by omega), if_neg h1, if_pos h2]
    · rw [if_neg (by omega), if_neg (by omega), if_neg h1, if_neg h2]
theorem odCmp_loop {rec_ : Rw → Rw → Option Int} {a b : T} {K : Option Int} (ha : calm a) (hb : calm b) (hr : ∀ e f : T, e.size < a.size → calm e → calm f → rec_ e.rows f.rows = some (cmpT e f)) (hK : K = (if (a.len : Int) < b.len then some (-1) else some 0)) :
    ∀ (t : T) (i : Nat), drop a i = t → i ≤ a.len → i ≤ b.len → spec_odCmp_l0 rec_ a.rows b.rows K t.rows i = some (cmpT t (drop b i))
  | nil, i, hd, ha', hb' => by
    simp only [rows, spec_odCmp_l0, hK]
    have h1 := drop_ge hd
    by_cases h2 : i < b.len
    · cases hq : drop b i with
      | nil => have := drop_ge hq; omega
      | cons f d m => rw [if_pos (by omega)]; rfl
    · rw [drop_of_ge (t := b) (by omega), if_neg (by
        intro q
        omega)]; rfl
  | cons e c l, i, hd, ha', hb' => by
    simp only [rows, spec_odCmp_l0, cell_T]
    have hs := drop_cons_size hd
    have hca := calm_drop ha (i := i)
    rw [hd] at hca
    by_cases h2 : i = b.len
    · rw [if_pos (by rw [lenI]; omega), drop_of_ge (by omega)]; rfl
    · rw [if_neg (by rw [lenI]; omega)]
      cases hq : drop b i with
      | nil => have := drop_ge hq; omega
      | cons f d m =>
        have hcb := calm_drop hb (i := i)
        rw [hq] at hcb
        rw [row_T rfl hq]
        simp only [hr e f (by omega) hca.1 hcb.1, Option.bind_some]
        by_cases h3 : cmpT e f = 0
        · rw [if_pos h3]
          by_cases h4 : c = d
          · subst h4
            rw [if_pos rfl, odCmp_loop ha hb hr hK l (i + 1) (drop_succ hd) (drop_lt hd) (drop_lt hq), drop_succ hq]
            simp [cmpT, h3, cmpI_refl]
          · rw [if_neg h4, sign_eq hca.2.1 hcb.2.1]
            have : cmpI c d ≠ 0 := fun q => h4 (cmpI_eq.1 q)
            simp [cmpT, h3, this]
        · rw [if_neg h3]; simp [cmpT, h3]
theorem odCmp_eq : ∀ (k : Nat) (a b : T), calm a → calm b → a.size < k → a.size ≤ cap → spec_odCmp k a.rows b.rows = some (cmpT a b)
  | 0, _, _, _, _, h, _ => absurd h (Nat.not_lt_zero _)
  | k + 1, a, b, ha, hb, h, hc => by
    have hl := a.len_size
    simp only [spec_odCmp, spec_odCmp_b]
    rw [if_pos (by rw [rows_len]; omega)]
    have := odCmp_loop (rec_ := spec_odCmp k) (a := a) (b := b) (K := spec_odCmp_p2 a.rows b.rows) ha hb (fun e f he h1 h2 => odCmp_eq k e f h1 h2 (by omega) (by omega)) (by unfold spec_odCmp_p2; rw [lenI, lenI]) a 0 (drop_zero a) (by omega) (by omega)
    rw [this, drop_zero]
end Go.Proofs.Tryd

namespace Go.Proofs.Tryd
open Go Go.AX T
theorem impl_in_eq (n a b : Int) : impl_in n a b = some (decide (a ≤ n) && decide (n ≤ b)) := by
  unfold impl_in
  by_cases h1 : a ≤ n <;> by_cases h2 : n ≤ b <;> simp [h1, h2]
theorem l1In_eq (n a b : Int) : spec_l1In n a b = some (decide (a ≤ n) && decide (n ≤ b)) := by
  unfold spec_l1In
  by_cases h1 : a ≤ n <;> by_cases h2 : n ≤ b <;> simp [h1, h2]
/-- The exponent of the term ahead of the i-th. -/
def ahead (t : T) : Nat → Option T
  | 0 => none
  | i + 1 => match drop t i with
    | cons e _ _ => some e
    | nil => none
theorem ahead_succ {t : T} {i : Nat} {e : T} {c : Int} {l : T} (h : drop t i = cons e c l) : ahead t (i + 1) = some e := by simp [ahead, h]
theorem ahead_some {t : T} {i : Nat} (h0 : 0 < i) (h : i ≤ t.len) : ∃ q c l, drop t (i - 1) = cons q c l ∧ ahead t i = some q := by
  obtain ⟨j, rfl⟩ : ∃ j, i = j + 1 := ⟨i - 1, by omega⟩
  cases hq : drop t j with
  | nil => have := drop_ge hq; omega
  | cons q c l => exact ⟨q, c, l, hq, ahead_succ hq⟩
theorem dp_drop {t : T} : ∀ {i : Nat}, dp (drop t i) ≤ dp t := by
  induction t with
  | nil => intro i; simp
  | cons e c l _ ih => intro i; cases i with
    | zero => simp
    | succ i => have := ih (i := i); simp only [drop, dp]; omega
/-- What a check of a tree tells. -/
def Tells (r : Bool × Int) (n : Int) (ok : Prop) (m : Int) : Prop := (r.1 = true ↔ ok) ∧ (r.1 = true → r.2 = m) ∧ 0 ≤ r.2 ∧ r.2 ≤ 61 ∧ n ≤ r.2
theorem at2_loop {k : Nat} {rec_ : Rw → Int → Int → Int → Option (Bool × Int)} {a : T} {d1 deep : Int} (hd : 0 ≤ deep ∧ deep ≤ 6) (hk : a.size ≤ k) (hc : a.size ≤ cap)
    (hr : ∀ (e : T) (x n : Int), e.size < a.size → 0 ≤ n → n ≤ 60 → ∃ r, rec_ e.rows x (deep + 1) n = some r ∧ Tells r n (n + 1 + nodesL e ≤ 60 ∧ deep + 1 + dp e ≤ 6 ∧ formA none e = true) (n + 1 + nodesL e)) :
    ∀ (t : T) (i : Nat) (m : Int), drop a i = t → i ≤ a.len → 0 ≤ m → m ≤ 60 → ∃ r, impl_ordinalAt_2_l0 k rec_ a.rows d1 deep (fun v => impl_ordinalAt_2_p3 v) t.rows i m = some r ∧ Tells r m (m + nodesL t ≤ 60 ∧ deep + dp t ≤ 6 ∧ formA (ahead a i) t = true) (m + nodesL t)
  | nil, i, m, hdr, hi, h0, h60 => by
    refine ⟨(true, m), rfl, ?_⟩
    simp only [Tells, nodesL, dp, formA]
    refine ⟨⟨fun _ => ⟨by omega, by omega, trivial⟩, fun _ => trivial⟩, fun _ => by omega, h0, by omega, by omega⟩
  | cons e c l, i, m, hdr, hi, h0, h60 => by
    have hs := drop_cons_size hdr
    simp only [rows, impl_ordinalAt_2_l0, cell_T]
    rw [wid (n := m + 1) (by omega) (by omega)]
    by_cases h1 : 60 < m + 1
    · rw [if_pos h1]
      refine ⟨_, rfl, ?_⟩
      simp only [Tells, nodesL]
      refine ⟨⟨fun h => (by cases h), fun h => by omega⟩, fun h => (by cases h), by omega, by omega, by omega⟩
    · rw [if_neg h1, impl_in_eq, Option.bind_some]
      by_cases h2 : (decide (1 ≤ c) && decide (c ≤ 1000000)) = true
      · rw [if_pos h2, wid (n := deep + 1) (by omega) (by omega)]
        obtain ⟨r1, e1, t1, t2, t3, t4, t5⟩ := hr e c (m + 1) (by omega) (by omega) (by omega)
        rw [e1, Option.bind_some]
        obtain ⟨b1, m1⟩ := r1
        dsimp only at t1 t2 t3 t4 t5 ⊢
        cases b1 with
        | false =>
          rw [if_neg (by simp)]
          refine ⟨_, rfl, ?_⟩
          simp only [Tells]
          refine ⟨⟨fun h => (by cases h), fun h => ?_⟩, fun h => (by cases h), t3, t4, by omega⟩
          obtain ⟨q1, q2, q3⟩ := h
          simp only [nodesL, dp, formA, Bool.and_eq_true] at q1 q2 q3
          exact t1.2 ⟨by omega, by omega, q3.1.1.2⟩
        | true =>
          obtain ⟨u1, u2, u3⟩ := t1.1 rfl
          obtain rfl := t2 rfl
          rw [if_pos rfl]
          have go : ∀ (hp : (match ahead a i with | none => true | some q => decide (0 < cmpT q e)) = true), ∃ r, impl_ordinalAt_2_l0 k rec_ a.rows d1 deep (fun v => impl_ordinalAt_2_p3 v) l.rows (i + 1) (m + 1 + 1 + nodesL e) = some r ∧ Tells r m (m + nodesL (cons e c l) ≤ 60 ∧ deep + dp (cons e c l) ≤ 6 ∧ formA (ahead a i) (cons e c l) = true) (m + nodesL (cons e c l)) := by
            intro hp
            obtain ⟨r, er, s1, s2, s3, s4, s5⟩ := at2_loop hd hk hc hr l (i + 1) (m + 1 + 1 + nodesL e) (drop_succ hdr) (drop_lt hdr) (by omega) (by omega)
            refine ⟨r, er, ?_⟩
            rw [ahead_succ hdr] at s1
            simp only [Tells, nodesL, dp, formA, Bool.and_eq_true]
            refine ⟨s1.trans ⟨fun q => ⟨by have := q.1; omega, by have := q.2.1; omega, ⟨⟨(by simpa using h2), u3⟩, hp⟩, q.2.2⟩, fun q => ⟨by have := q.1; omega, by have := q.2.1; omega, q.2.2.2⟩⟩, fun q => by rw [s2 q]; omega, s3, s4, by omega⟩
          by_cases h3 : (0 : Int) < (i : Int)
          · obtain ⟨q, qc, ql, hq, ha⟩ := ahead_some (t := a) (i := i) (by omega) hi
            have hqs := drop_cons_size hq
            rw [if_pos h3, wid (n := (i : Int) - 1) (by omega) (by have := a.len_size; have : cap = 1099511627776 := rfl; omega), row_T (n := i - 1) (by omega) hq, impl_cmp_eq k q e (by omega) (by omega), Option.bind_some]
            by_cases h4 : cmpT q e ≤ 0
            · rw [if_pos h4]
              refine ⟨_, rfl, ?_⟩
              simp only [Tells]
              refine ⟨⟨fun h => (by cases h), fun h => ?_⟩, fun h => (by cases h), t3, t4, by omega⟩
              obtain ⟨_, _, q3⟩ := h
              simp only [formA, ha, Bool.and_eq_true, decide_eq_true_eq] at q3
              have := q3.1.2
              omega
            · rw [if_neg h4]
              exact go (by rw [ha]; simp; omega)
          · rw [if_neg h3]
            have : i = 0 := by omega
            subst this
            exact go rfl
      · rw [if_neg h2]
        refine ⟨_, rfl, ?_⟩
        simp only [Tells]
        refine ⟨⟨fun h => (by cases h), fun h => ?_⟩, fun h => (by cases h), by omega, by omega, by omega⟩
        obtain ⟨_, _, q3⟩ := h
        simp only [formA, Bool.and_eq_true] at q3 h2
        exact absurd q3.1.1.1 h2
theorem at2_eq : ∀ (k : Nat) (a : T) (x deep n : Int), a.size < k → a.size ≤ cap → 0 ≤ deep → deep ≤ 7 → 0 ≤ n → n ≤ 60 →
    ∃ r, impl_ordinalAt_2 k a.rows x deep n = some r ∧ Tells r n (n + 1 + nodesL a ≤ 60 ∧ deep + dp a ≤ 6 ∧ formA none a = true) (n + 1 + nodesL a)
  | 0, _, _, _, _, h, _, _, _, _, _ => absurd h (Nat.not_lt_zero _)
  | k + 1, a, x, deep, n, h, hc, h0, h7, n0, n60 => by
    have hl := a.len_size
    simp only [impl_ordinalAt_2, impl_ordinalAt_2_b]
    rw [wid (n := n + 1) (by omega) (by omega)]
    by_cases h1 : 60 < n + 1
    · rw [if_pos h1]
      refine ⟨_, rfl, ?_⟩
      simp only [Tells]
      exact ⟨⟨fun h => (by cases h), fun h => by omega⟩, fun h => (by cases h), by omega, by omega, by omega⟩
    · rw [if_neg h1]
      by_cases h2 : 6 < deep
      · rw [if_pos h2]
        refine ⟨_, rfl, ?_⟩
        simp only [Tells]
        exact ⟨⟨fun h => (by cases h), fun h => by omega⟩, fun h => (by cases h), by omega, by omega, by omega⟩
      · rw [if_neg h2, if_pos (by rw [rows_len]; omega)]
        obtain ⟨r, e, s1, s2, s3, s4, s5⟩ := at2_loop (k := k) (rec_ := impl_ordinalAt_2 k) (a := a) (d1 := x) (deep := deep) (by omega) (by omega) hc (fun e y m he m0 m60 => at2_eq k e y (deep + 1) m (by omega) (by omega) (by omega) (by omega) m0 m60) a 0 (n + 1) (drop_zero a) (by omega) (by omega) (by omega)
        exact ⟨r, e, s1, s2, s3, s4, by omega⟩
theorem at1_loop {k : Nat} {a : T} (hk : a.size < k) (hc : a.size ≤ cap) :
    ∀ (t : T) (i : Nat) (m : Int), drop a i = t → i ≤ a.len → 0 ≤ m → m ≤ 60 → ∃ r : Bool × Int, impl_ordinalAt_l0 k a.rows 0 (fun v => impl_ordinalAt_p3 a.rows v) t.rows i m = some (r.1, a.rows, r.2) ∧ (r.1 = true ↔ m + nodesL t ≤ 60 ∧ dp t ≤ 6 ∧ formA (ahead a i) t = true) ∧ (r.1 = true → r.2 = m + nodesL t)
  | nil, i, m, hdr, hi, h0, h60 => by
    refine ⟨(true, m), rfl, ?_⟩
    simp only [nodesL, dp, formA]
    exact ⟨⟨fun _ => ⟨by omega, by omega, trivial⟩, fun _ => trivial⟩, fun _ => by omega⟩
  | cons e c l, i, m, hdr, hi, h0, h60 => by
    have hs := drop_cons_size hdr
    simp only [rows, impl_ordinalAt_l0, cell_T]
    rw [wid (n := m + 1) (by omega) (by omega)]
    by_cases h1 : 60 < m + 1
    · rw [if_pos h1]
      exact ⟨(false, _), rfl, ⟨fun h => (by cases h), fun h => by simp only [nodesL] at h; omega⟩, fun h => (by cases h)⟩
    · rw [if_neg h1, impl_in_eq, Option.bind_some]
      by_cases h2 : (decide (1 ≤ c) && decide (c ≤ 1000000)) = true
      · rw [if_pos h2, wid (n := 0 + 1) (by omega) (by omega)]
        obtain ⟨r1, e1, t1, t2, t3, t4, t5⟩ := at2_eq k e c (0 + 1) (m + 1) (by omega) (by omega) (by omega) (by omega) (by omega) (by omega)
        rw [e1, Option.bind_some]
        obtain ⟨b1, m1⟩ := r1
        dsimp only at t1 t2 t3 t4 t5 ⊢
        cases b1 with
        | false =>
          rw [if_neg (by simp)]
          refine ⟨(false, _), rfl, ⟨fun h => (by cases h), fun h => ?_⟩, fun h => (by cases h)⟩
          obtain ⟨q1, q2, q3⟩ := h
          simp only [nodesL, dp, formA, Bool.and_eq_true] at q1 q2 q3
          exact t1.2 ⟨by omega, by omega, q3.1.1.2⟩
        | true =>
          obtain ⟨u1, u2, u3⟩ := t1.1 rfl
          obtain rfl := t2 rfl
          rw [if_pos rfl]
          have go : ∀ (hp : (match ahead a i with | none => true | some q => decide (0 < cmpT q e)) = true), ∃ r : Bool × Int, impl_ordinalAt_l0 k a.rows 0 (fun v => impl_ordinalAt_p3 a.rows v) l.rows (i + 1) (m + 1 + 1 + nodesL e) = some (r.1, a.rows, r.2) ∧ (r.1 = true ↔ m + nodesL (cons e c l) ≤ 60 ∧ dp (cons e c l) ≤ 6 ∧ formA (ahead a i) (cons e c l) = true) ∧ (r.1 = true → r.2 = m + nodesL (cons e c l)) := by
            intro hp
            obtain ⟨r, er, s1, s2⟩ := at1_loop hk hc l (i + 1) (m + 1 + 1 + nodesL e) (drop_succ hdr) (drop_lt hdr) (by omega) (by omega)
            refine ⟨r, er, ?_⟩
            rw [ahead_succ hdr] at s1
            simp only [nodesL, dp, formA, Bool.and_eq_true]
            exact ⟨s1.trans ⟨fun q => ⟨by have := q.1; omega, by have := q.2.1; omega, ⟨⟨(by simpa using h2), u3⟩, hp⟩, q.2.2⟩, fun q => ⟨by have := q.1; omega, by have := q.2.1; omega, q.2.2.2⟩⟩, fun q => by rw [s2 q]; omega⟩
          by_cases h3 : (0 : Int) < (i : Int)
          · obtain ⟨q, qc, ql, hq, ha⟩ := ahead_some (t := a) (i := i) (by omega) hi
            have hqs := drop_cons_size hq
            rw [if_pos h3, wid (n := (i : Int) - 1) (by omega) (by have := a.len_size; have : cap = 1099511627776 := rfl; omega), row_T (n := i - 1) (by omega) hq, impl_cmp_eq k q e (by omega) (by omega), Option.bind_some]
            by_cases h4 : cmpT q e ≤ 0
            · rw [if_pos h4]
              refine ⟨(false, _), rfl, ⟨fun h => (by cases h), fun h => ?_⟩, fun h => (by cases h)⟩
              obtain ⟨_, _, q3⟩ := h
              simp only [formA, ha, Bool.and_eq_true, decide_eq_true_eq] at q3
              have := q3.1.2
              omega
            · rw [if_neg h4]
              exact go (by rw [ha]; simp; omega)
          · rw [if_neg h3]
            have : i = 0 := by omega
            subst this
            exact go rfl
      · rw [if_neg h2]
        refine ⟨(false, _), rfl, ⟨fun h => (by cases h), fun h => ?_⟩, fun h => (by cases h)⟩
        obtain ⟨_, _, q3⟩ := h
        simp only [formA, Bool.and_eq_true] at q3 h2
        exact absurd q3.1.1.1 h2
theorem at1_eq (k : Nat) (a : T) (hk : a.size < k) (hc : a.size ≤ cap) : ∃ r : Bool × Int, impl_ordinalAt k a.rows 0 0 = some (r.1, a.rows, r.2) ∧ (r.1 = true ↔ ordP a = true) ∧ (r.1 = true → r.2 = 1 + nodesL a) := by
  have hl := a.len_size
  unfold impl_ordinalAt
  rw [wid (n := 0 + 1) (by omega) (by omega), if_neg (by omega), if_neg (by omega), if_pos (by rw [rows_len]; omega)]
  obtain ⟨r, e, s, v⟩ := at1_loop hk hc a 0 (0 + 1) (drop_zero a) (by omega) (by omega) (by omega)
  refine ⟨r, e, s.trans ?_, fun q => by rw [v q]; omega⟩
  simp only [ordP, Bool.and_eq_true, decide_eq_true_eq, ahead]
  exact ⟨fun q => ⟨⟨by have := q.1; omega, q.2.1⟩, q.2.2⟩, fun q => ⟨by have := q.1.1; omega, q.1.2, q.2⟩⟩
theorem IsOrdinal_eq (k : Nat) (a : T) (hk : a.size < k) (hc : a.size ≤ cap) : impl_IsOrdinal k a.rows = some (ordP a) := by
  obtain ⟨r, e, s, _⟩ := at1_eq k a hk hc
  unfold impl_IsOrdinal
  rw [e, Option.bind_some]
  cases hb : ordP a with
  | true => rw [if_pos (s.2 hb)]
  | false => rw [if_neg (fun q => by rw [s.1 q] at hb; cases hb)]
def toldT (t : T) : T × Bool := if ordP t then (t, true) else (nil, false)
/-! ### spec's check -/
theorem left_loop {rec_ : Rw → Int → Int → Option Int} {a : T} {depth : Int} (hd : 0 ≤ depth ∧ depth ≤ 6) (hr : ∀ (e : T) (v : Int), e.size < a.size → 0 < depth → -1 ≤ v → v ≤ 60 → ∃ r, rec_ e.rows (depth - 1) v = some r ∧ -2 ≤ r ∧ r ≤ 60 ∧ (1 + nodesL e ≤ v ∧ dp e ≤ depth - 1 → r = v - 1 - nodesL e) ∧ (¬ (1 + nodesL e ≤ v ∧ dp e ≤ depth - 1) → r < 0)) :
    ∀ (t : T) (v : Int), t.size ≤ a.size → -2 ≤ v → v ≤ 60 → ∃ r, spec_odLeft_l0 rec_ a.rows depth (fun v => some v) t.rows v = some r ∧ -2 ≤ r ∧ r ≤ 60 ∧ (nodesL t ≤ v ∧ dp t ≤ depth → r = v - nodesL t) ∧ (¬ (nodesL t ≤ v ∧ dp t ≤ depth) → r < 0)
  | nil, v, _, v0, v60 => ⟨v, rfl, v0, v60, fun _ => by simp [nodesL], fun h => by simp only [nodesL, dp] at h; omega⟩
  | cons e c l, v, hs, v0, v60 => by
    simp only [size] at hs
    simp only [rows, spec_odLeft_l0, cell_T]
    by_cases h1 : v < 0
    · rw [if_pos h1]
      exact ⟨-1, rfl, by omega, by omega, fun h => by simp only [nodesL] at h; omega, fun _ => by omega⟩
    · rw [if_neg h1]
      by_cases h2 : depth = 0
      · rw [if_pos h2]
        exact ⟨-1, rfl, by omega, by omega, fun h => by simp only [dp] at h; omega, fun _ => by omega⟩
      · rw [if_neg h2, wid (n := depth - 1) (by omega) (by omega), wid (n := v - 1) (by omega) (by omega)]
        obtain ⟨r1, e1, p1, p2, p3, p4⟩ := hr e (v - 1) (by omega) (by omega) (by omega) (by omega)
        rw [e1, Option.bind_some]
        obtain ⟨r, er, q1, q2, q3, q4⟩ := left_loop hd hr l r1 (by omega) p1 p2
        refine ⟨r, er, q1, q2, fun h => ?_, fun h => ?_⟩
        · simp only [nodesL, dp] at h ⊢
          have e2 := p3 ⟨by omega, by omega⟩
          rw [q3 ⟨by omega, by omega⟩, e2]; omega
        · by_cases h3 : 1 + (nodesL e : Int) ≤ v - 1 ∧ dp e ≤ depth - 1
          · have e2 := p3 h3
            refine q4 fun q => h ?_
            simp only [nodesL, dp]
            omega
          · exact q4 fun q => by have := p4 h3; omega
theorem left_eq : ∀ (k : Nat) (a : T) (depth v : Int), a.size < k → a.size ≤ cap → 0 ≤ depth → depth ≤ 6 → -1 ≤ v → v ≤ 60 →
    ∃ r, spec_odLeft k a.rows depth v = some r ∧ -2 ≤ r ∧ r ≤ 60 ∧ (1 + nodesL a ≤ v ∧ dp a ≤ depth → r = v - 1 - nodesL a) ∧ (¬ (1 + nodesL a ≤ v ∧ dp a ≤ depth) → r < 0)
  | 0, _, _, _, h, _, _, _, _, _ => absurd h (Nat.not_lt_zero _)
  | k + 1, a, depth, v, h, hc, d0, d6, v0, v60 => by
    have hl := a.len_size
    simp only [spec_odLeft, spec_odLeft_b]
    rw [if_pos (by rw [rows_len]; omega), wid (n := v - 1) (by omega) (by omega)]
    obtain ⟨r, er, q1, q2, q3, q4⟩ := left_loop (rec_ := spec_odLeft k) (a := a) (depth := depth) ⟨d0, d6⟩ (fun e u he hd u0 u60 => left_eq k e (depth - 1) u (by omega) (by omega) (by omega) (by omega) u0 u60) a (v - 1) (Nat.le_refl _) (by omega) (by omega)
    exact ⟨r, er, q1, q2, fun q => q3 ⟨by omega, q.2⟩, fun q => q4 fun u => q ⟨by omega, u.2⟩⟩
theorem form_loop {k : Nat} {rec_ : Rw → Int → Option Bool} {a : T} {depth : Int} (hd : 0 ≤ depth ∧ depth ≤ 6) (hk : a.size ≤ k) (hc : a.size ≤ cap) (ha : calm a)
    (hr : ∀ e : T, e.size < a.size → calm e → rec_ e.rows (depth - 1) = some (decide ((dp e : Int) ≤ depth - 1) && formA none e)) :
    ∀ (t : T) (i : Nat), drop a i = t → i ≤ a.len → spec_odForm_l0 k rec_ a.rows depth spec_odForm_p3 t.rows i = some (decide ((dp t : Int) ≤ depth) && formA (ahead a i) t)
  | nil, i, hdr, hi => by
    have : decide ((dp nil : Int) ≤ depth) = true := decide_eq_true (by simp only [dp]; omega)
    rw [this]; rfl
  | cons e c l, i, hdr, hi => by
    have hs := drop_cons_size hdr
    have hca := calm_drop ha (i := i)
    rw [hdr] at hca
    simp only [rows, spec_odForm_l0, cell_T, l1In_eq, Option.bind_some]
    by_cases h2 : (decide (1 ≤ c) && decide (c ≤ 1000000)) = true
    · rw [if_pos h2, wid (n := depth - 1) (by omega) (by omega), hr e (by omega) hca.1, Option.bind_some]
      by_cases h3 : (decide ((dp e : Int) ≤ depth - 1) && formA none e) = true
      · rw [if_pos h3]
        simp only [Bool.and_eq_true, decide_eq_true_eq] at h3
        have go : ∀ (hp : (match ahead a i with | none => true | some q => decide (0 < cmpT q e)) = true), spec_odForm_l0 k rec_ a.rows depth spec_odForm_p3 l.rows (i + 1) = some (decide ((dp (cons e c l) : Int) ≤ depth) && formA (ahead a i) (cons e c l)) := by
          intro hp
          rw [form_loop hd hk hc ha hr l (i + 1) (drop_succ hdr) (drop_lt hdr), ahead_succ hdr]
          have e1 : decide ((dp (cons e c l) : Int) ≤ depth) = decide ((dp l : Int) ≤ depth) := by simp only [dp]; congr 1; apply propext; omega
          have h6 : formA (ahead a i) (cons e c l) = formA (some e) l := by
            simp only [formA, h2, h3.2, Bool.true_and]
            cases hq : ahead a i with
            | none => simp
            | some q => rw [hq] at hp; simp only at hp; simp [hp]
          rw [e1, h6]
        by_cases h4 : (0 : Int) < (i : Int)
        · obtain ⟨q, qc, ql, hq, ha'⟩ := ahead_some (t := a) (i := i) (by omega) hi
          have hqs := drop_cons_size hq
          have hcq := calm_drop ha (i := i - 1)
          rw [hq] at hcq
          rw [if_pos h4, wid (n := (i : Int) - 1) (by omega) (by have := a.len_size; have : cap = 1099511627776 := rfl; omega), row_T (n := i - 1) (by omega) hq, odCmp_eq k q e hcq.1 hca.1 (by omega) (by omega), Option.bind_some]
          by_cases h5 : cmpT q e ≤ 0
          · rw [if_pos h5]
            have : decide (0 < cmpT q e) = false := by simpa using h5
            simp [formA, ha', this]
          · rw [if_neg h5]
            exact go (by rw [ha']; simp; omega)
        · rw [if_neg h4]
          have : i = 0 := by omega
          subst this
          exact go rfl
      · rw [if_neg h3]
        have : (decide ((dp (cons e c l) : Int) ≤ depth) && formA (ahead a i) (cons e c l)) = false := by
          refine Bool.eq_false_iff.2 fun hx => h3 ?_
          rw [Bool.and_eq_true, decide_eq_true_eq] at hx ⊢
          obtain ⟨x1, x2⟩ := hx
          simp only [dp] at x1
          simp only [formA, Bool.and_eq_true] at x2
          exact ⟨by omega, x2.1.1.2⟩
        rw [this]
    · rw [if_neg h2]
      have : formA (ahead a i) (cons e c l) = false := by
        simp only [formA]
        cases hx : (decide (1 ≤ c) && decide (c ≤ 1000000)) with
        | true => exact absurd hx h2
        | false => simp
      rw [this, Bool.and_false]
theorem form_eq : ∀ (k : Nat) (a : T) (depth : Int), a.size < k → a.size ≤ cap → calm a → -1 ≤ depth → depth ≤ 6 → spec_odForm k a.rows depth = some (decide ((dp a : Int) ≤ depth) && formA none a)
  | 0, _, _, h, _, _, _, _ => absurd h (Nat.not_lt_zero _)
  | k + 1, a, depth, h, hc, ha, d0, d6 => by
    have hl := a.len_size
    simp only [spec_odForm, spec_odForm_b]
    by_cases h1 : depth < 0
    · rw [if_pos h1]
      have : decide ((dp a : Int) ≤ depth) = false := by simp; omega
      rw [this, Bool.false_and]
    · rw [if_neg h1, if_pos (by rw [rows_len]; omega), form_loop (a := a) (by omega) (by omega) hc ha (fun e he hce => form_eq k e (depth - 1) (by omega) (by omega) hce (by omega) (by omega)) a 0 (drop_zero a) (by omega)]
      rfl
theorem odGood_eq (k : Nat) (a : T) (h : a.size < k) (hc : a.size ≤ cap) (ha : calm a) : spec_odGood k a.rows = some (ordP a) := by
  unfold spec_odGood
  obtain ⟨r, er, q1, q2, q3, q4⟩ := left_eq k a 6 60 h hc (by omega) (by omega) (by omega) (by omega)
  rw [er, Option.bind_some]
  by_cases h1 : 1 + nodesL a ≤ 60 ∧ dp a ≤ 6
  · have := q3 ⟨by omega, by omega⟩
    rw [if_pos (by omega), form_eq k a 6 h hc ha (by omega) (by omega), Option.bind_some]
    have h2 : decide ((dp a : Int) ≤ 6) = true := by simp; omega
    simp only [ordP, h2, h1.1, h1.2, decide_true, Bool.true_and]
    cases formA none a <;> rfl
  · have := q4 (by omega)
    rw [if_neg (by omega)]
    have : ordP a = false := by
      cases hx : ordP a with
      | false => rfl
      | true => simp only [ordP, Bool.and_eq_true, decide_eq_true_eq] at hx; exact absurd hx.1 h1
    rw [this]
end Go.Proofs.Tryd

namespace Go.Proofs.Tryd
open Go Go.AX T
theorem fr_snocLen (l e : T) (c : Int) : (app l (cons e c nil)).len = l.len + 1 := by rw [len_app]; rfl
theorem toOrd_loop {rec_ : Rw → Option Rw} {a : T} {K : Rw → Option Rw} (hr : ∀ e : T, e.size < a.size → rec_ e.rows = some e.rows) :
    ∀ (t : T) (i : Nat) (done : T), t.size ≤ a.size → done.len = i → laws_toOrdinalTermS_l0 rec_ a.rows K t.rows i (done.rows ++ List.replicate t.len [D.sl ([]), D.int .i64 0]) = K (app done t).rows
  | nil, i, done, _, hd => by
    simp only [rows, laws_toOrdinalTermS_l0, len, List.replicate_zero, List.append_nil, rows_app]
  | cons e c l, i, done, hs, hd => by
    simp only [size] at hs
    simp only [rows, laws_toOrdinalTermS_l0, cell_T, laws_toOrdinalTerm, len]
    rw [hr e (by omega), Option.bind_some]
    have hlen : (done.rows ++ List.replicate (l.len + 1) [D.sl ([]), D.int .i64 0]).length = i + (l.len + 1) := by rw [List.length_append, rows_len, hd, List.length_replicate]
    rw [Option.bind_some, if_pos ⟨by omega, by rw [hlen]; omega⟩]
    have hrow : ∀ {α : Type} (K : Rw → Int → Option α), row_si (done.rows ++ List.replicate (l.len + 1) [D.sl ([]), D.int .i64 0]) (i : Int) K = K [] 0 := by
      intro α K
      unfold row_si
      rw [if_pos (by omega), Int.toNat_natCast, List.getElem?_append_right (by rw [rows_len]; omega), rows_len, hd, Nat.sub_self, List.replicate_succ]
      rfl
    rw [hrow]
    have hset : (done.rows ++ List.replicate (l.len + 1) [D.sl ([]), D.int .i64 0]).set (i : Int).toNat [D.sl e.rows, D.int .i64 c] = (app done (cons e c nil)).rows ++ List.replicate l.len [D.sl ([]), D.int .i64 0] := by
      rw [Int.toNat_natCast, List.set_append_right (h := by rw [rows_len]; omega), rows_len, hd, Nat.sub_self, List.replicate_succ, rows_app]
      simp [rows]
    rw [hset, toOrd_loop hr l (i + 1) (app done (cons e c nil)) (by omega) (by rw [fr_snocLen, hd]), app_assoc]
    rfl
theorem toOrd_eq : ∀ (k : Nat) (a : T), a.size < k → a.size ≤ cap → laws_toOrdinal k a.rows = some a.rows
  | 0, _, h, _ => absurd h (Nat.not_lt_zero _)
  | k + 1, a, h, hc => by
    have h3 : cap = 1099511627776 := rfl
    have hl := a.len_size
    simp only [laws_toOrdinal, laws_toOrdinal_b, laws_toOrdinalTermS]
    rw [if_pos (by rw [lenI]; omega), if_pos (by rw [rows_len]; omega), lenI, Int.toNat_natCast]
    have := toOrd_loop (rec_ := laws_toOrdinal k) (a := a) (K := fun v29 => some v29) (fun e he => toOrd_eq k e (by omega) (by omega)) a 0 nil (Nat.le_refl _) rfl
    simp only [rows, List.nil_append, app] at this
    rw [this]; rfl
theorem eqOrd_loop {rec_ : Rw → Rw → Option Bool} {a : T} (hr : ∀ e : T, e.size < a.size → rec_ e.rows e.rows = some true) : ∀ (t : T) (i : Nat), drop a i = t → laws_eqOrdinalTermS_l0 rec_ a.rows a.rows (some true) t.rows i = some true
  | nil, i, _ => rfl
  | cons e c l, i, hd => by
    have hs := drop_cons_size hd
    simp only [rows, laws_eqOrdinalTermS_l0, cell_T, laws_eqOrdinalTerm]
    rw [row_T rfl hd, hr e (by omega), Option.bind_some, if_pos rfl, if_pos rfl, Option.bind_some, if_pos rfl]
    exact eqOrd_loop hr l (i + 1) (drop_succ hd)
theorem eqOrd_refl : ∀ (k : Nat) (a : T), a.size < k → a.size ≤ cap → laws_eqOrdinal k a.rows a.rows = some true
  | 0, _, h, _ => absurd h (Nat.not_lt_zero _)
  | k + 1, a, h, hc => by
    have hl := a.len_size
    simp only [laws_eqOrdinal, laws_eqOrdinal_b, laws_eqOrdinalTermS]
    rw [if_pos True.intro, if_pos (by rw [rows_len]; omega), eqOrd_loop (a := a) (fun e he => eqOrd_refl k e (by omega) (by omega)) a 0 (drop_zero a)]
    rfl
/-- Slices no longer than a machine has. -/
def fitT : T → Prop
  | nil => True
  | cons e c l => fitT e ∧ (e.len : Int) ≤ 9223372036854775807 ∧ fitT l
theorem sz_loop {rec_ : Rw → Int → Option Int} {a : T} {K : Int → Option Int} (hr : ∀ (e : T) (v : Int), e.size < a.size → fitT e → (e.len : Int) ≤ 9223372036854775807 → 0 ≤ v → v ≤ 1048576 → ∃ r : Int, rec_ e.rows v = some r ∧ r ≤ v ∧ -1 ≤ r ∧ (0 ≤ r → r + e.size ≤ v)) :
    ∀ (t : T) (v : Int), t.size ≤ a.size → fitT t → 0 ≤ v → v ≤ 1048576 → (laws_szOrdinalTermS_l0 rec_ a.rows K t.rows v = some (-1)) ∨ ∃ r : Int, laws_szOrdinalTermS_l0 rec_ a.rows K t.rows v = K r ∧ 0 ≤ r ∧ r + t.size ≤ v + t.len
  | nil, v, _, _, h0, h1 => Or.inr ⟨v, rfl, h0, by simp [size, len]⟩
  | cons e c l, v, hs, hf, h0, h1 => by
    simp only [size] at hs
    obtain ⟨r, e1, q1, q2, q3⟩ := hr e v (by omega) hf.1 hf.2.1 h0 h1
    simp only [rows, laws_szOrdinalTermS_l0, cell_T, laws_szOrdinalTerm]
    rw [e1, Option.bind_some]
    by_cases g : r < 0
    · left; rw [if_pos g, Option.bind_some, if_pos (by omega)]
    · rw [if_neg g, Option.bind_some, if_neg g]
      rcases sz_loop hr l r (by omega) hf.2.2 (by omega) (by omega) with h | ⟨u, h, p1, p2⟩
      · left; exact h
      · right; exact ⟨u, h, p1, by simp only [size, len]; omega⟩
theorem sz_eq : ∀ (k : Nat) (a : T) (v : Int), a.size < k → fitT a → (a.len : Int) ≤ 9223372036854775807 → 0 ≤ v → v ≤ 1048576 → ∃ r : Int, laws_szOrdinal k a.rows v = some r ∧ r ≤ v ∧ -1 ≤ r ∧ (0 ≤ r → r + a.size ≤ v)
  | 0, _, _, h, _, _, _, _ => absurd h (Nat.not_lt_zero _)
  | k + 1, a, v, h, hf, hl, h0, h1 => by
    have h3 : cap = 1099511627776 := rfl
    simp only [laws_szOrdinal, laws_szOrdinal_b, laws_szOrdinalTermS]
    have e1 : IntKind.i64.wrap (v - (a.rows.length : Int)) = v - (a.len : Int) := by rw [lenI, wid (by omega) (by omega)]
    rw [e1]
    by_cases g : v - (a.len : Int) < 0
    · rw [if_pos g, Option.bind_some, if_pos (by omega)]
      exact ⟨-1, rfl, by omega, by omega, fun h => by omega⟩
    · rw [if_neg g, if_pos (by rw [rows_len]; omega)]
      rcases sz_loop (rec_ := laws_szOrdinal k) (a := a) (K := fun v22 => some v22) (fun e v he hf hl h0 h1 => sz_eq k e v (by omega) hf hl h0 h1) a (v - (a.len : Int)) (Nat.le_refl _) hf (by omega) (by omega) with q | ⟨r, q, p1, p2⟩
      · rw [q, Option.bind_some, if_pos (by omega)]
        exact ⟨-1, rfl, by omega, by omega, fun h => by omega⟩
      · rw [q, Option.bind_some, if_neg (by omega)]
        exact ⟨r, rfl, by omega, by omega, fun _ => by omega⟩
end Go.Proofs.Tryd

namespace Go.Proofs.Tryd
open Go Go.AX T
theorem fr_drop_app (l r : T) : drop (app l r) l.len = r := by
  induction l with
  | nil => simp [app, len]
  | cons e c l _ ih => exact ih
def mkT : T → Int → T
  | nil, _ => nil
  | cons e _ l, k => cons (mkT e k) (k + size e) (mkT l (k + size e + 1))
theorem mkT_len (t : T) (k : Int) : (mkT t k).len = t.len := by
  induction t generalizing k with
  | nil => rfl
  | cons e c l _ ih => simp [mkT, len, ih]
theorem mkT_size (t : T) (k : Int) : (mkT t k).size = t.size := by
  induction t generalizing k with
  | nil => rfl
  | cons e c l ihe ih => simp [mkT, size, ihe, ih]
theorem set_rows (l e e' r : T) (c c' : Int) : (app l (cons e c r)).rows.set l.len [D.sl e'.rows, D.int .i64 c'] = (app l (cons e' c' r)).rows := by
  rw [rows_app, rows_app, ← rows_len l, List.set_append_right (h := Nat.le_refl _), Nat.sub_self]; rfl
end Go.Proofs.Tryd

namespace Go.Proofs.Tryd
open Go Go.AX T
abbrev w (n : Int) : Int := IntKind.i64.wrap n
theorem drop_app (l r : T) : drop (app l r) l.len = r := by
  induction l with
  | nil => simp [app, len]
  | cons e c l _ ih => exact ih
theorem T.snoc (t : T) : t = nil ∨ ∃ l x c, t = app l (cons x c nil) := by
  induction t with
  | nil => exact .inl rfl
  | cons e c l _ ih =>
    rcases ih with rfl | ⟨l', x, d, rfl⟩
    · exact .inr ⟨nil, e, c, rfl⟩
    · exact .inr ⟨cons e c l', x, d, rfl⟩
theorem calm_app {a b : T} : calm (app a b) ↔ calm a ∧ calm b := by
  induction a with
  | nil => simp [app, calm]
  | cons e c l _ ih => simp only [app, calm, ih, and_assoc]
/-! ### impl's sum -/
def goP : T → T → Int → T → T
  | nil, f, d, m => cons f d m
  | cons e c l, f, d, m => if cmpT e f = 1 then cons e c (goP l f d m) else if cmpT e f = 0 then cons e (w (c + d)) m else goP l f d m
def plusT : T → T → T
  | a, nil => a
  | a, cons f d m => goP a f d m
theorem goP_size (a f : T) (d : Int) (m : T) : (goP a f d m).size ≤ a.size + f.size + m.size + 1 := by
  induction a with
  | nil => simp [goP, size]
  | cons e c l _ ih =>
    simp only [goP]
    split
    · simp only [size]; omega
    · split
      · simp only [size]; omega
      · simp only [size]; omega
theorem plusT_size (a b : T) : (plusT a b).size ≤ a.size + b.size := by
  cases b with
  | nil => simp [plusT]
  | cons f d m => simp only [plusT, size]; have := goP_size a f d m; omega
theorem impl_isZero_eq (t : T) : impl_isZero t.rows = some (match t with | nil => true | cons _ _ _ => false) := by
  unfold impl_isZero
  cases t with
  | nil => rfl
  | cons e c l => rw [if_neg (by rw [lenI]; simp only [len]; omega)]
theorem calm_less {a b : T} (h : ordP a = true) : True := trivial
theorem form_calm {p : Option T} {t : T} (h : formA p t = true) : calm t := by
  induction t generalizing p with
  | nil => trivial
  | cons e c l ihe ihl =>
    simp only [formA, Bool.and_eq_true, decide_eq_true_eq] at h
    obtain ⟨⟨⟨⟨h1, h2⟩, h3⟩, _⟩, h5⟩ := h
    exact ⟨ihe h3, by omega, ihl h5⟩
theorem ordP_form {t : T} (h : ordP t = true) : formA none t = true := by
  simp only [ordP, Bool.and_eq_true] at h; exact h.2
theorem form_any {p : Option T} {t : T} (h : formA p t = true) : formA none t = true := by
  cases t with
  | nil => rfl
  | cons e c l =>
    simp only [formA, Bool.and_eq_true] at h ⊢
    exact ⟨⟨⟨h.1.1.1, h.1.1.2⟩, trivial⟩, h.2⟩
end Go.Proofs.Tryd

namespace Go.Proofs.Tryd
open Go Go.AX T
/-- Without the terms at the end that are less than w^e. -/
def popT : T → T → T
  | nil, _ => nil
  | cons x c l, e => match popT l e with
    | nil => if cmpT x e < 0 then nil else cons x c nil
    | cons y d m => cons x c (cons y d m)
/-- A term added at the end. -/
def addL : T → T → Int → T
  | nil, e, d => cons e d nil
  | cons x c l, e, d => match l with
    | nil => if cmpT x e = 0 then cons x (w (c + d)) nil else cons x c (cons e d nil)
    | cons _ _ _ => cons x c (addL l e d)
def splus : T → T → T
  | a, nil => a
  | a, cons f d m => splus (addL (popT a f) f d) m
theorem popT_snoc (l x : T) (c : Int) (e : T) : popT (app l (cons x c nil)) e = if cmpT x e < 0 then popT l e else app l (cons x c nil) := by
  induction l with
  | nil => simp [app, popT]
  | cons y d l _ ih =>
    by_cases h : cmpT x e < 0
    · rw [if_pos h] at ih ⊢
      simp only [app, popT]
      rw [ih]
    · rw [if_neg h] at ih ⊢
      simp only [app, popT]
      rw [ih]
      cases l <;> simp [app]
theorem addL_snoc (l x : T) (c : Int) (e : T) (d : Int) : addL (app l (cons x c nil)) e d = if cmpT x e = 0 then app l (cons x (w (c + d)) nil) else app (app l (cons x c nil)) (cons e d nil) := by
  induction l with
  | nil => simp only [app, addL]
  | cons y k l _ ih =>
    have : app l (cons x c nil) ≠ nil := by cases l <;> simp [app]
    simp only [app, addL]
    split
    · rename_i h; exact absurd h this
    · rename_i h
      rw [ih]
      split <;> rfl
theorem popT_size (a e : T) : (popT a e).size ≤ a.size := by
  induction a with
  | nil => simp [popT, size]
  | cons x c l _ ih =>
    simp only [popT]
    split
    · split <;> simp [size]
    · rename_i h; rw [h] at ih; simp only [size] at ih ⊢; omega
theorem addL_size (a e : T) (d : Int) : (addL a e d).size ≤ a.size + e.size + 1 := by
  induction a with
  | nil => simp [addL, size]
  | cons x c l _ ih =>
    simp only [addL]
    split
    · split <;> simp [size] <;> omega
    · simp only [size] at ih ⊢; omega
theorem splus_size (a b : T) : (splus a b).size ≤ a.size + b.size := by
  induction b generalizing a with
  | nil => simp [splus, size]
  | cons f d m _ ih =>
    have h1 := ih (addL (popT a f) f d)
    have h2 := addL_size (popT a f) f d
    have h3 := popT_size a f
    simp only [splus, size] at *; omega
/-- Coefficients within a bound. -/
def sm (B : Int) : T → Prop
  | nil => True
  | cons e c l => sm B e ∧ (-B ≤ c ∧ c ≤ B) ∧ sm B l
theorem sm_calm {B : Int} {t : T} (h : sm B t) (hB : B ≤ 1000000000000000) : calm t := by
  induction t with
  | nil => trivial
  | cons e c l ihe ihl => exact ⟨ihe h.1, by have := h.2.1; omega, ihl h.2.2⟩
theorem sm_mono {B C : Int} {t : T} (h : sm B t) (hB : B ≤ C) : sm C t := by
  induction t with
  | nil => trivial
  | cons e c l ihe ihl => exact ⟨ihe h.1, by have := h.2.1; omega, ihl h.2.2⟩
theorem sm_app {B : Int} {a b : T} : sm B (app a b) ↔ sm B a ∧ sm B b := by
  induction a with
  | nil => simp [app, sm]
  | cons e c l _ ih => simp only [app, sm, ih, and_assoc]
theorem sm_pop {B : Int} {a e : T} (h : sm B a) : sm B (popT a e) := by
  induction a with
  | nil => trivial
  | cons x c l _ ih =>
    have ih := ih h.2.2
    simp only [popT]
    split
    · split
      · trivial
      · exact ⟨h.1, h.2.1, trivial⟩
    · rename_i hq; rw [hq] at ih; exact ⟨h.1, h.2.1, ih⟩
theorem sm_addL {B C : Int} {a e : T} {d : Int} (h : sm B a) (he : sm C e) (hd : -C ≤ d ∧ d ≤ C) (hB : 0 ≤ B ∧ 0 ≤ C ∧ B + C ≤ 1000000000000000) : sm (B + C) (addL a e d) := by
  induction a with
  | nil => exact ⟨sm_mono he (by omega), by omega, trivial⟩
  | cons x c l _ ih =>
    obtain ⟨h1, h2, h3⟩ := h
    simp only [addL]
    split
    · split
      · refine ⟨sm_mono h1 (by omega), ?_, trivial⟩
        show _ ≤ w (c + d) ∧ w (c + d) ≤ _
        rw [show w (c + d) = c + d from wid (by omega) (by omega)]; omega
      · exact ⟨sm_mono h1 (by omega), by omega, sm_mono he (by omega), by omega, trivial⟩
    · exact ⟨sm_mono h1 (by omega), by omega, ih h3⟩
theorem snoc_last (l x : T) (c : Int) : drop (app l (cons x c nil)) l.len = cons x c nil := drop_app l _
/-! ### right ones -/
theorem form_sm {p : Option T} {t : T} (h : formA p t = true) : sm 1000000 t := by
  induction t generalizing p with
  | nil => trivial
  | cons e c l ihe ihl =>
    simp only [formA, Bool.and_eq_true, decide_eq_true_eq] at h
    obtain ⟨⟨⟨⟨h1, h2⟩, h3⟩, _⟩, h5⟩ := h
    exact ⟨ihe h3, by omega, ihl h5⟩
/-- Exponents that fall, from below p on. -/
def falls : Option T → T → Prop
  | _, nil => True
  | p, cons e _ l => (∀ q, p = some q → 0 < cmpT q e) ∧ falls (some e) l
theorem form_falls {p : Option T} {t : T} (h : formA p t = true) : falls p t := by
  induction t generalizing p with
  | nil => trivial
  | cons e c l _ ihl =>
    simp only [formA, Bool.and_eq_true, decide_eq_true_eq] at h
    refine ⟨fun q hq => ?_, ihl h.2⟩
    subst hq
    simpa using h.1.2
theorem cmp_lt_of {a b c : T} (h1 : 0 < cmpT a b) (h2 : cmpT b c = 1 ∨ cmpT b c = 0) : 0 < cmpT a c := by
  rcases h2 with h2 | h2
  · have q1 : cmpT b a < 0 := by rw [cmpT_neg a b]; omega
    have q2 : cmpT c b < 0 := by rw [cmpT_neg b c]; omega
    have := cmpT_trans q2 q1
    rw [cmpT_neg c a]; omega
  · obtain rfl := cmpT_eq.1 h2; exact h1
/-- In falling terms, those ahead of a greater one are greater. -/
theorem goP_pop {a f : T} {d : Int} : ∀ {p : Option T}, falls p a → addL (popT a f) f d = goP a f d nil
  | p, h => by
    induction a generalizing p with
    | nil => rfl
    | cons e c l _ ih =>
      have h2 := h.2
      have key : ∀ {x : T}, falls (some x) l → cmpT x f ≤ 0 → popT l f = nil := by
        intro x hx hxf
        clear ih h h2
        induction l generalizing x with
        | nil => rfl
        | cons y k m _ ihm =>
          have hy := hx.1 x rfl
          have hyf : cmpT y f < 0 := by
            rcases cmpT_range x f with q | q | q
            · have q2 : cmpT y x < 0 := by rw [cmpT_neg x y]; omega
              exact cmpT_trans q2 (by omega)
            · obtain rfl := cmpT_eq.1 q
              rw [cmpT_neg x y]; omega
            · omega
          simp only [popT, ihm hx.2 (by omega), if_pos hyf]
      have ih := ih _ h2
      simp only [popT, goP]
      rcases cmpT_range e f with q | q | q
      · rw [key h2 (by omega)]
        have e1 : ¬ cmpT e f = 1 := by omega
        have e2 : ¬ cmpT e f = 0 := by omega
        simp only [if_neg e1, if_neg e2, if_pos (by omega : cmpT e f < 0)]
        rw [← ih, key h2 (by omega)]
      · rw [key h2 (by omega)]
        have e1 : ¬ cmpT e f = 1 := by omega
        simp only [if_neg e1, if_pos q, if_neg (by omega : ¬ cmpT e f < 0), addL]
      · simp only [if_pos q]
        rw [← ih]
        cases hq : popT l f with
        | nil =>
          simp only [if_neg (by omega : ¬ cmpT e f < 0), addL, if_neg (by omega : ¬ cmpT e f = 0)]
        | cons y k m => simp only [addL]
theorem goP_app {a f : T} {d : Int} {m : T} : goP a f d m = app (goP a f d nil) m := by
  induction a with
  | nil => rfl
  | cons e c l _ ih =>
    simp only [goP]
    split
    · simp only [app, ih]
    · split
      · rfl
      · exact ih
/-- What is less than all ahead of it is only added at the end. -/
theorem splus_end {a x : T} {c : Int} : ∀ {m : T}, falls (some x) m → splus (app a (cons x c nil)) m = app (app a (cons x c nil)) m
  | nil, _ => by simp [splus]
  | cons g k m, h => by
    have h1 := h.1 x rfl
    simp only [splus]
    rw [popT_snoc, if_neg (by omega), addL_snoc, if_neg (by omega)]
    rw [splus_end (a := app a (cons x c nil)) h.2, app_assoc (app a (cons x c nil))]
    rfl
theorem goP_snoc {a f : T} {d : Int} : ∃ l c, goP a f d nil = app l (cons f c nil) := by
  induction a with
  | nil => exact ⟨nil, d, rfl⟩
  | cons e c l _ ih =>
    obtain ⟨l', c', h⟩ := ih
    simp only [goP]
    split
    · exact ⟨cons e c l', c', by rw [h]; rfl⟩
    · split
      · rename_i q; obtain rfl := cmpT_eq.1 q; exact ⟨nil, _, rfl⟩
      · exact ⟨l', c', h⟩
theorem splus_plus {a b : T} (ha : falls none a) (hb : falls none b) : splus a b = plusT a b := by
  cases b with
  | nil => cases a <;> rfl
  | cons f d m =>
    simp only [splus, plusT]
    rw [goP_pop ha, goP_app (m := m)]
    obtain ⟨l, c, h⟩ := goP_snoc (a := a) (f := f) (d := d)
    rw [h]
    exact splus_end hb.2
theorem plusT_sm {B C : Int} {a b : T} (ha : sm B a) (hb : sm C b) (hB : 0 ≤ B ∧ 0 ≤ C ∧ B + C ≤ 1000000000000000) : sm (B + C) (plusT a b) := by
  cases b with
  | nil => exact sm_mono ha (by omega)
  | cons f d m =>
    simp only [plusT]
    have hm : sm (B + C) m := sm_mono hb.2.2 (by omega)
    induction a with
    | nil => exact ⟨sm_mono hb.1 (by omega), by have := hb.2.1; omega, hm⟩
    | cons e c l _ ih =>
      have h1 := ha.2.1
      have h2 := hb.2.1
      simp only [goP]
      split
      · exact ⟨sm_mono ha.1 (by omega), by omega, ih ha.2.2⟩
      · split
        · refine ⟨sm_mono ha.1 (by omega), ?_, hm⟩
          show _ ≤ w (c + d) ∧ w (c + d) ≤ _
          rw [show w (c + d) = c + d from wid (by omega) (by omega)]; omega
        · exact ih ha.2.2
def intT (n : Int) : T := if n = 0 then nil else cons nil n nil
theorem intT_size (n : Int) : (intT n).size ≤ 1 := by unfold intT; split <;> simp [size]
theorem intT_sm {n B : Int} (h : -B ≤ n ∧ n ≤ B) : sm B (intT n) := by
  unfold intT; split
  · trivial
  · exact ⟨trivial, h, trivial⟩
theorem snocRows (l e : T) (c : Int) : l.rows ++ [[D.sl e.rows, D.int .i64 c]] = (app l (cons e c nil)).rows := by rw [rows_app]; rfl
end Go.Proofs.Tryd

namespace Go.Proofs.Tryd
open Go Go.AX T
theorem form_loop_all {k : Nat} {rec_ : Rw → Int → Option Bool} {a : T} {depth : Int} (hd : 0 ≤ depth ∧ depth ≤ 6) (hk : a.size ≤ k) (hc : a.size ≤ cap)
    (hr : ∀ e : T, e.size < a.size → rec_ e.rows (depth - 1) = some (decide ((dp e : Int) ≤ depth - 1) && formA none e)) :
    ∀ (t : T) (i : Nat), drop a i = t → i ≤ a.len → (∀ q, ahead a i = some q → calm q) → spec_odForm_l0 k rec_ a.rows depth spec_odForm_p3 t.rows i = some (decide ((dp t : Int) ≤ depth) && formA (ahead a i) t)
  | nil, i, hdr, hi, _ => by
    have : decide ((dp nil : Int) ≤ depth) = true := decide_eq_true (by simp only [dp]; omega)
    rw [this]; rfl
  | cons e c l, i, hdr, hi, hcalm => by
    have hs := drop_cons_size hdr
    simp only [rows, spec_odForm_l0, cell_T, l1In_eq, Option.bind_some]
    by_cases h2 : (decide (1 ≤ c) && decide (c ≤ 1000000)) = true
    · rw [if_pos h2, wid (n := depth - 1) (by omega) (by omega), hr e (by omega), Option.bind_some]
      by_cases h3 : (decide ((dp e : Int) ≤ depth - 1) && formA none e) = true
      · rw [if_pos h3]
        simp only [Bool.and_eq_true, decide_eq_true_eq] at h3
        have hce := form_calm h3.2
        have go : ∀ (hp : (match ahead a i with | none => true | some q => decide (0 < cmpT q e)) = true), spec_odForm_l0 k rec_ a.rows depth spec_odForm_p3 l.rows (i + 1) = some (decide ((dp (cons e c l) : Int) ≤ depth) && formA (ahead a i) (cons e c l)) := by
          intro hp
          rw [form_loop_all hd hk hc hr l (i + 1) (drop_succ hdr) (drop_lt hdr) (by rw [ahead_succ hdr]; intro q hq; cases hq; exact hce), ahead_succ hdr]
          have e1 : decide ((dp (cons e c l) : Int) ≤ depth) = decide ((dp l : Int) ≤ depth) := by simp only [dp]; congr 1; apply propext; omega
          have h6 : formA (ahead a i) (cons e c l) = formA (some e) l := by
            simp only [formA, h2, h3.2, Bool.true_and]
            cases hq : ahead a i with
            | none => simp
            | some q => rw [hq] at hp; simp only at hp; simp [hp]
          rw [e1, h6]
        by_cases h4 : (0 : Int) < (i : Int)
        · obtain ⟨q, qc, ql, hq, ha'⟩ := ahead_some (t := a) (i := i) (by omega) hi
          have hqs := drop_cons_size hq
          have hcq := hcalm q ha'
          rw [if_pos h4, wid (n := (i : Int) - 1) (by omega) (by have := a.len_size; have : cap = 1099511627776 := rfl; omega), row_T (n := i - 1) (by omega) hq, odCmp_eq k q e hcq hce (by omega) (by omega), Option.bind_some]
          by_cases h5 : cmpT q e ≤ 0
          · rw [if_pos h5]
            have : decide (0 < cmpT q e) = false := by simpa using h5
            simp [formA, ha', this]
          · rw [if_neg h5]
            exact go (by rw [ha']; simp; omega)
        · rw [if_neg h4]
          have : i = 0 := by omega
          subst this
          exact go rfl
      · rw [if_neg h3]
        have : (decide ((dp (cons e c l) : Int) ≤ depth) && formA (ahead a i) (cons e c l)) = false := by
          refine Bool.eq_false_iff.2 fun hx => h3 ?_
          rw [Bool.and_eq_true, decide_eq_true_eq] at hx ⊢
          obtain ⟨x1, x2⟩ := hx
          simp only [dp] at x1
          simp only [formA, Bool.and_eq_true] at x2
          exact ⟨by omega, x2.1.1.2⟩
        rw [this]
    · rw [if_neg h2]
      have : formA (ahead a i) (cons e c l) = false := by
        simp only [formA]
        cases hx : (decide (1 ≤ c) && decide (c ≤ 1000000)) with
        | true => exact absurd hx h2
        | false => simp
      rw [this, Bool.and_false]
theorem form_all : ∀ (k : Nat) (a : T) (depth : Int), a.size < k → a.size ≤ cap → -1 ≤ depth → depth ≤ 6 → spec_odForm k a.rows depth = some (decide ((dp a : Int) ≤ depth) && formA none a)
  | 0, _, _, h, _, _, _ => absurd h (Nat.not_lt_zero _)
  | k + 1, a, depth, h, hc, d0, d6 => by
    have hl := a.len_size
    simp only [spec_odForm, spec_odForm_b]
    by_cases h1 : depth < 0
    · rw [if_pos h1]
      have : decide ((dp a : Int) ≤ depth) = false := by simp; omega
      rw [this, Bool.false_and]
    · rw [if_neg h1, if_pos (by rw [rows_len]; omega), form_loop_all (a := a) (by omega) (by omega) hc (fun e he => form_all k e (depth - 1) (by omega) (by omega) (by omega) (by omega)) a 0 (drop_zero a) (by omega) (by intro q hq; cases hq)]
      rfl
theorem odGood_all (k : Nat) (a : T) (h : a.size < k) (hc : a.size ≤ cap) : spec_odGood k a.rows = some (ordP a) := by
  unfold spec_odGood
  obtain ⟨r, er, q1, q2, q3, q4⟩ := left_eq k a 6 60 h hc (by omega) (by omega) (by omega) (by omega)
  rw [er, Option.bind_some]
  by_cases h1 : 1 + nodesL a ≤ 60 ∧ dp a ≤ 6
  · have := q3 ⟨by omega, by omega⟩
    rw [if_pos (by omega), form_all k a 6 h hc (by omega) (by omega), Option.bind_some]
    have h2 : decide ((dp a : Int) ≤ 6) = true := by simp; omega
    simp only [ordP, h2, h1.1, h1.2, decide_true, Bool.true_and]
    cases formA none a <;> rfl
  · have := q4 (by omega)
    rw [if_neg (by omega)]
    have : ordP a = false := by
      cases hx : ordP a with
      | false => rfl
      | true => simp only [ordP, Bool.and_eq_true, decide_eq_true_eq] at hx; exact absurd hx.1 h1
    rw [this]
end Go.Proofs.Tryd

namespace Go.Proofs.Tryd
open Go Go.AX
abbrev L8 := List UInt8
def bA (l : L8) : ByteArray := ⟨l.toArray⟩
theorem bA_data (l : L8) : (bA l).data.toList = l := by simp [bA]
theorem bA_size (l : L8) : (bA l).size = l.length := by rw [Lib.size_eq, bA_data]
theorem bA_toList (l : L8) : (bA l).toList = l := by rw [ByteArray.toList_eq, bA_data]
theorem bA_inj {a b : ByteArray} (h : a.data.toList = b.data.toList) : a = b := by
  cases a; cases b; simp only [ByteArray.mk.injEq]; exact Array.toList_inj.1 h
theorem bA_app (a b : L8) : bA a ++ bA b = bA (a ++ b) := by
  apply bA_inj
  rw [ByteArray.data_append, Array.toList_append, bA_data, bA_data, bA_data]
theorem bA_nil : ByteArray.mk #[] = bA [] := rfl
theorem bA_43 : ByteArray.mk #[43] = bA [43] := rfl
theorem bA_42 : ByteArray.mk #[42] = bA [42] := rfl
theorem bA_41 : ByteArray.mk #[41] = bA [41] := rfl
theorem bA_45 : ByteArray.mk #[45] = bA [45] := rfl
theorem bA_47 : ByteArray.mk #[47] = bA [47] := rfl
theorem bA_48 : ByteArray.mk #[48] = bA [48] := rfl
theorem bA_94 : ByteArray.mk #[94, 40] = bA [94, 40] := rfl
theorem bA_119 : ByteArray.mk #[119] = bA [119] := rfl
theorem u8_lt {n : Int} (h0 : 0 ≤ n) (h1 : n ≤ 255) : IntKind.u8.wrap n = n := by
  simp only [IntKind.wrap, IntKind.bits, IntKind.signed]
  simp
  omega
theorem strD_one {n : Int} (h0 : 0 ≤ n) (h1 : n ≤ 9) : strD [[.int .u8 (IntKind.u8.wrap (IntKind.i64.wrap (48 + n)))]] = some (bA [UInt8.ofNat (48 + n.toNat)]) := by
  rw [wrap_in (by omega) (by omega), u8_lt (by omega) (by omega)]
  have : (48 + n).toNat = 48 + n.toNat := by omega
  simp only [strD, strN, Option.map_some, List.foldl_cons, List.foldl_nil, this]
  rfl
theorem num_eq : ∀ (k : Nat) (n : Int), 0 ≤ n → n < k → n ≤ 1000000000000000 → spec_l1Num k n = some (bA (Lib.decDigits n.toNat))
  | 0, n, h0, h1, _ => by omega
  | k + 1, n, h0, h1, h2 => by
    have hlen : ∀ u : Nat, u ≤ 1000000000000000 → (Lib.decDigits u).length ≤ 21 := by
      intro u hu
      have := Lib.itoa_length_le (u : Int) (by omega) (by omega)
      unfold Lib.itoa at this
      rwa [if_neg (by omega), show ((u : Int)).toNat = u by omega] at this
    simp only [spec_l1Num, spec_l1Num_b]
    rw [Lib.decDigits]
    by_cases h : n < 10
    · rw [if_pos h, dif_pos (by omega), strD_one h0 (by omega), Option.bind_some]
    · rw [if_neg h, dif_neg (by omega)]
      have e1 : n.tdiv 10 = n / 10 := Int.tdiv_eq_ediv_of_nonneg h0
      have e2 : n.tmod 10 = n % 10 := Int.tmod_eq_emod_of_nonneg h0
      rw [e1, e2, wrap_in (by omega) (by omega), num_eq k (n / 10) (by omega) (by omega) (by omega), Option.bind_some, strD_one (by omega) (by omega), Option.bind_some]
      have e3 : (n / 10).toNat = n.toNat / 10 := by omega
      have e4 : (n % 10).toNat = n.toNat % 10 := by omega
      have := hlen (n.toNat / 10) (by omega)
      rw [e3, e4, if_pos (by rw [bA_size, bA_size, List.length_singleton]; omega), bA_app]
theorem dec_len {u : Nat} (hu : u ≤ 1000000000000000) : (Lib.decDigits u).length ≤ 21 := by
  have := Lib.itoa_length_le (u : Int) (by omega) (by omega)
  unfold Lib.itoa at this
  rwa [if_neg (by omega), show ((u : Int)).toNat = u by omega] at this
theorem dec_ne (u : Nat) : Lib.decDigits u ≠ [] := by
  rw [Lib.decDigits]
  split <;> simp
theorem itoa_eq {n : Int} (h0 : 0 ≤ n) (h1 : n ≤ 1000000000000000) : lib_Itoa n = some (bA (Lib.decDigits n.toNat)) := by
  unfold lib_Itoa
  rw [if_pos ⟨by omega, by omega⟩]
  unfold Lib.itoa
  rw [if_neg (by omega)]
  rfl
end Go.Proofs.Tryd

namespace Go.Proofs.Tryd
open Go Go.AX T
def joinP : List L8 → L8
  | [] => [48]
  | p :: r => p ++ Lib.joinTail [43] r
def one1 : T := cons nil 1 nil
def partT (w te : L8) (e : T) (c : Int) : L8 :=
  match e with
  | nil => Lib.decDigits c.toNat
  | cons _ _ _ => (w ++ (if cmpT e one1 = 0 then [] else [94, 40] ++ te ++ [41])) ++ (if c = 1 then [] else [42] ++ Lib.decDigits c.toNat)
def partsT (w : L8) : T → List L8
  | nil => []
  | cons e c l => partT w (joinP (partsT w e)) e c :: partsT w l
def textT (w : L8) (t : T) : L8 := joinP (partsT w t)
theorem tail_cons (p : L8) (r : List L8) : Lib.joinTail [43] (p :: r) = 43 :: (p ++ Lib.joinTail [43] r) := by simp [Lib.joinTail]
/-- How long a text may be. -/
def roomT (w : L8) (t : T) : Nat := (w.length + 30) * t.size
theorem roomT_cons (w : L8) (e : T) (c : Int) (l : T) : roomT w (cons e c l) = roomT w e + roomT w l + (w.length + 30) := by
  simp only [roomT, size, Nat.mul_add, Nat.mul_one]
theorem partT_len {w te : L8} {e : T} {c : Int} (h1 : 1 ≤ c) (h2 : c ≤ 1000000) : (partT w te e c).length ≤ te.length + w.length + 28 := by
  have hd := dec_len (u := c.toNat) (by omega)
  have hc : (if c = 1 then ([] : L8) else [42] ++ Lib.decDigits c.toNat).length ≤ 22 := by
    split
    · simp
    · simp only [List.length_append, List.length_cons, List.length_nil]; omega
  cases e with
  | nil => simp only [partT]; omega
  | cons e0 c0 l0 =>
    simp only [partT, List.length_append]
    have : (if cmpT (cons e0 c0 l0) one1 = 0 then ([] : L8) else [94, 40] ++ te ++ [41]).length ≤ te.length + 3 := by
      split
      · simp
      · simp only [List.length_append, List.length_cons, List.length_nil]; omega
    omega
theorem parts_len {w : L8} : ∀ {t : T} {p : Option T}, formA p t = true → (Lib.joinTail [43] (partsT w t)).length ≤ roomT w t
  | nil, _, _ => by simp [partsT, Lib.joinTail]
  | cons e c l, p, h => by
    simp only [formA, Bool.and_eq_true, decide_eq_true_eq] at h
    obtain ⟨⟨⟨⟨h1, h2⟩, h3⟩, _⟩, h4⟩ := h
    have he := parts_len (w := w) h3
    have hl := parts_len (w := w) h4
    have hd := dec_len (u := c.toNat) (by omega)
    have hj : (joinP (partsT w e)).length ≤ roomT w e + 1 := by
      cases hq : partsT w e with
      | nil => simp [joinP]
      | cons q r =>
        rw [hq, tail_cons] at he
        simp only [joinP, List.length_cons, List.length_append] at he ⊢
        omega
    have hp := partT_len (w := w) (te := joinP (partsT w e)) (e := e) h1 h2
    rw [roomT_cons]
    simp only [partsT, tail_cons, List.length_cons, List.length_append]
    omega
theorem join_len {w : L8} {t : T} {p : Option T} (h : formA p t = true) : (textT w t).length ≤ roomT w t + 1 := by
  have := parts_len (w := w) h
  unfold textT
  cases hq : partsT w t with
  | nil => simp [joinP]
  | cons q r =>
    rw [hq, tail_cons] at this
    simp only [joinP, List.length_cons, List.length_append] at this ⊢
    omega
end Go.Proofs.Tryd

namespace Go.Proofs.Tryd
open Go Go.AX T
def zerT : T → Bool
  | nil => true
  | cons _ _ _ => false
theorem isZt (t : T) : impl_isZero t.rows = some (zerT t) := by unfold impl_isZero; cases t <;> rfl
theorem odZt (t : T) : spec_odZero t.rows = some (zerT t) := by unfold spec_odZero; cases t <;> rfl
theorem odOne : spec_odInt 1 = some one1.rows := rfl
theorem fiOne : impl_finite 1 = some one1.rows := rfl
theorem calm_one : calm one1 := by simp [one1, calm]
theorem calm_form : ∀ {t : T} {p : Option T}, formA p t = true → calm t
  | nil, _, _ => trivial
  | cons e c l, p, h => by
    simp only [formA, Bool.and_eq_true, decide_eq_true_eq] at h
    obtain ⟨⟨⟨⟨h1, h2⟩, h3⟩, _⟩, h4⟩ := h
    exact ⟨calm_form h3, ⟨by omega, by omega⟩, calm_form h4⟩
theorem txe (te : L8) : ((bA [94, 40]) ++ bA te) ++ bA [41] = bA ([94, 40] ++ te ++ [41]) := by rw [bA_app, bA_app]
theorem room_e {w : L8} {t e : T} (h : e.size ≤ t.size) : roomT w e ≤ roomT w t := Nat.mul_le_mul_left _ h
theorem sText_tail {k : Nat} {rec_ : Rw → Option ByteArray} {a : T} {K : ByteArray → Option ByteArray} (hk : 2000000 < k) (hs : a.size ≤ 100000) (hr : ∀ e : T, e.size < a.size → formA none e = true → rec_ e.rows = some (bA (textT [119] e))) :
    ∀ (t : T) (p : Option T) (n : Nat) (acc : L8), formA p t = true → t.size ≤ a.size → 0 < n → acc.length + roomT [119] t ≤ 1000000000 → spec_odText_l0 k rec_ a.rows K t.rows n (bA acc) = K (bA (acc ++ Lib.joinTail [43] (partsT [119] t)))
  | nil, _, n, acc, _, _, _, _ => by simp [rows, spec_odText_l0, partsT, Lib.joinTail]
  | cons e c l, p, n, acc, hf, ht, hn, hb => by
    have hF := hf
    simp only [formA, Bool.and_eq_true, decide_eq_true_eq] at hf
    obtain ⟨⟨⟨⟨h1, h2⟩, h3⟩, _⟩, h4⟩ := hf
    have hse : e.size < a.size := by simp only [size] at ht; omega
    have hsl : l.size ≤ a.size := by simp only [size] at ht; omega
    have hte := join_len (w := [119]) h3
    have hpl := partT_len (w := [119]) (te := textT [119] e) (e := e) h1 h2
    have hd := dec_len (u := c.toNat) (by omega)
    rw [roomT_cons] at hb
    simp only [List.length_singleton] at hb hpl
    have hnum := num_eq k c (by omega) (by omega) (by omega)
    have fin : ∀ q : L8, q = partT [119] (textT [119] e) e c → spec_odText_l0 k rec_ a.rows K l.rows (n + 1) (bA (acc ++ [43] ++ q)) = K (bA (acc ++ Lib.joinTail [43] (partsT [119] (cons e c l)))) := by
      intro q hq
      rw [sText_tail hk hs hr l (some e) (n + 1) _ h4 hsl (by omega) (by subst hq; simp only [List.length_append, List.length_singleton]; omega)]
      subst hq
      simp only [partsT, tail_cons, textT, List.append_assoc, List.cons_append, List.nil_append]
    simp only [rows, spec_odText_l0, cell_T]
    rw [bA_43, bA_42, bA_41, bA_94, bA_119]
    refine ite_pos (by omega) ?_
    refine ite_pos (by rw [bA_size, bA_size, List.length_singleton]; omega) ?_
    refine bind_of (odZt e) ?_
    cases e with
    | nil =>
      refine ite_pos rfl ?_
      refine bind_of hnum ?_
      refine ite_pos (by rw [bA_app, bA_size, bA_size, List.length_append, List.length_singleton]; omega) ?_
      rw [bA_app, bA_app]
      exact fin _ rfl
    | cons e0 c0 l0 =>
      refine ite_neg (by simp [zerT]) ?_
      refine ite_pos (by rw [bA_app, bA_size, bA_size, List.length_append, List.length_singleton, List.length_singleton]; omega) ?_
      refine bind_of odOne ?_
      refine bind_of (odCmp_eq k (cons e0 c0 l0) one1 (calm_form h3) calm_one (by omega) (by simp only [cap]; omega)) ?_
      by_cases g : cmpT (cons e0 c0 l0) one1 = 0
      · refine ite_pos g ?_
        by_cases h : 1 < c
        · refine ite_pos h ?_
          refine bind_of hnum ?_
          refine ite_pos (by rw [bA_size, bA_size, List.length_singleton]; omega) ?_
          refine ite_pos (by simp only [bA_app, bA_size, List.length_append, List.length_singleton]; omega) ?_
          simp only [bA_app]
          rw [show acc ++ [43] ++ [119] ++ ([42] ++ Lib.decDigits c.toNat) = acc ++ [43] ++ ([119] ++ ([42] ++ Lib.decDigits c.toNat)) by simp]
          exact fin _ (by simp only [partT, if_pos g, if_neg (show ¬ c = 1 by omega), List.append_nil])
        · refine ite_neg h ?_
          simp only [bA_app]
          exact fin _ (by simp only [partT, if_pos g, if_pos (show c = 1 by omega), List.append_nil])
      · refine ite_neg g ?_
        refine bind_of (hr _ hse h3) ?_
        refine ite_pos (by rw [bA_size, bA_size]; simp only [List.length_cons, List.length_nil]; omega) ?_
        refine ite_pos (by rw [bA_app, bA_size, bA_size]; simp only [List.length_append, List.length_cons, List.length_nil]; omega) ?_
        refine ite_pos (by simp only [bA_app, bA_size, List.length_append, List.length_cons, List.length_nil]; omega) ?_
        by_cases h : 1 < c
        · refine ite_pos h ?_
          refine bind_of hnum ?_
          refine ite_pos (by rw [bA_size, bA_size, List.length_singleton]; omega) ?_
          refine ite_pos (by simp only [bA_app, bA_size, List.length_append, List.length_cons, List.length_nil]; omega) ?_
          simp only [bA_app]
          rw [show acc ++ [43] ++ [119] ++ ([94, 40] ++ textT [119] (cons e0 c0 l0) ++ [41]) ++ ([42] ++ Lib.decDigits c.toNat) = acc ++ [43] ++ ([119] ++ ([94, 40] ++ textT [119] (cons e0 c0 l0) ++ [41]) ++ ([42] ++ Lib.decDigits c.toNat)) by simp]
          exact fin _ (by simp only [partT, if_neg g, if_neg (show ¬ c = 1 by omega)])
        · refine ite_neg h ?_
          simp only [bA_app]
          rw [show acc ++ [43] ++ [119] ++ ([94, 40] ++ textT [119] (cons e0 c0 l0) ++ [41]) = acc ++ [43] ++ ([119] ++ ([94, 40] ++ textT [119] (cons e0 c0 l0) ++ [41])) by simp]
          exact fin _ (by simp only [partT, if_neg g, if_pos (show c = 1 by omega), List.append_nil])
theorem sText_head {k : Nat} {rec_ : Rw → Option ByteArray} {a : T} {K : ByteArray → Option ByteArray} (hk : 2000000 < k) (hs : a.size ≤ 100000) (hr : ∀ e : T, e.size < a.size → formA none e = true → rec_ e.rows = some (bA (textT [119] e))) :
    ∀ (t : T) (p : Option T), formA p t = true → t.size ≤ a.size → roomT [119] t ≤ 1000000000 → spec_odText_l0 k rec_ a.rows K t.rows 0 (bA []) = K (bA (match partsT [119] t with | [] => [] | _ :: _ => textT [119] t))
  | nil, _, _, _, _ => rfl
  | cons e c l, p, hf, ht, hb => by
    have hF := hf
    simp only [formA, Bool.and_eq_true, decide_eq_true_eq] at hf
    obtain ⟨⟨⟨⟨h1, h2⟩, h3⟩, _⟩, h4⟩ := hf
    have hse : e.size < a.size := by simp only [size] at ht; omega
    have hsl : l.size ≤ a.size := by simp only [size] at ht; omega
    have hte := join_len (w := [119]) h3
    have hpl := partT_len (w := [119]) (te := textT [119] e) (e := e) h1 h2
    have hd := dec_len (u := c.toNat) (by omega)
    rw [roomT_cons] at hb
    simp only [List.length_singleton] at hb hpl
    have hnum := num_eq k c (by omega) (by omega) (by omega)
    have fin : ∀ q : L8, q = partT [119] (textT [119] e) e c → spec_odText_l0 k rec_ a.rows K l.rows (0 + 1) (bA ([] ++ q)) = K (bA (match partsT [119] (cons e c l) with | [] => [] | _ :: _ => textT [119] (cons e c l))) := by
      intro q hq
      rw [sText_tail hk hs hr l (some e) (0 + 1) _ h4 hsl (by omega) (by subst hq; simp only [List.nil_append]; omega)]
      subst hq
      simp only [partsT, textT, joinP, List.nil_append]
    simp only [rows, spec_odText_l0, cell_T]
    rw [bA_42, bA_41, bA_94, bA_119]
    refine ite_neg (by simp) ?_
    refine bind_of (odZt e) ?_
    cases e with
    | nil =>
      refine ite_pos rfl ?_
      refine bind_of hnum ?_
      refine ite_pos (by rw [bA_size, bA_size, List.length_nil]; omega) ?_
      rw [bA_app]
      exact fin _ rfl
    | cons e0 c0 l0 =>
      refine ite_neg (by simp [zerT]) ?_
      refine ite_pos (by rw [bA_size, bA_size, List.length_nil, List.length_singleton]; omega) ?_
      refine bind_of odOne ?_
      refine bind_of (odCmp_eq k (cons e0 c0 l0) one1 (calm_form h3) calm_one (by omega) (by simp only [cap]; omega)) ?_
      by_cases g : cmpT (cons e0 c0 l0) one1 = 0
      · refine ite_pos g ?_
        by_cases h : 1 < c
        · refine ite_pos h ?_
          refine bind_of hnum ?_
          refine ite_pos (by rw [bA_size, bA_size, List.length_singleton]; omega) ?_
          refine ite_pos (by simp only [bA_app, bA_size, List.length_append, List.length_singleton, List.length_nil]; omega) ?_
          simp only [bA_app]
          rw [show ([] : L8) ++ [119] ++ ([42] ++ Lib.decDigits c.toNat) = [] ++ ([119] ++ ([42] ++ Lib.decDigits c.toNat)) by simp]
          exact fin _ (by simp only [partT, if_pos g, if_neg (show ¬ c = 1 by omega), List.append_nil])
        · refine ite_neg h ?_
          simp only [bA_app]
          exact fin _ (by simp only [partT, if_pos g, if_pos (show c = 1 by omega), List.append_nil])
      · refine ite_neg g ?_
        refine bind_of (hr _ hse h3) ?_
        refine ite_pos (by rw [bA_size, bA_size]; simp only [List.length_cons, List.length_nil]; omega) ?_
        refine ite_pos (by rw [bA_app, bA_size, bA_size]; simp only [List.length_append, List.length_cons, List.length_nil]; omega) ?_
        refine ite_pos (by simp only [bA_app, bA_size, List.length_append, List.length_cons, List.length_nil]; omega) ?_
        by_cases h : 1 < c
        · refine ite_pos h ?_
          refine bind_of hnum ?_
          refine ite_pos (by rw [bA_size, bA_size, List.length_singleton]; omega) ?_
          refine ite_pos (by simp only [bA_app, bA_size, List.length_append, List.length_cons, List.length_nil]; omega) ?_
          simp only [bA_app]
          rw [show ([] : L8) ++ [119] ++ ([94, 40] ++ textT [119] (cons e0 c0 l0) ++ [41]) ++ ([42] ++ Lib.decDigits c.toNat) = [] ++ ([119] ++ ([94, 40] ++ textT [119] (cons e0 c0 l0) ++ [41]) ++ ([42] ++ Lib.decDigits c.toNat)) by simp]
          exact fin _ (by simp only [partT, if_neg g, if_neg (show ¬ c = 1 by omega)])
        · refine ite_neg h ?_
          simp only [bA_app]
          rw [show ([] : L8) ++ [119] ++ ([94, 40] ++ textT [119] (cons e0 c0 l0) ++ [41]) = [] ++ ([119] ++ ([94, 40] ++ textT [119] (cons e0 c0 l0) ++ [41])) by simp]
          exact fin _ (by simp only [partT, if_neg g, if_pos (show c = 1 by omega), List.append_nil])
theorem sText_eq : ∀ (k : Nat) (a : T) (p : Option T), formA p a = true → a.size + 2000001 < k → a.size ≤ 100000 → spec_odText k a.rows = some (bA (textT [119] a))
  | 0, _, _, _, h, _ => absurd h (Nat.not_lt_zero _)
  | k + 1, a, p, hf, h, hs => by
    have hl := a.len_size
    simp only [spec_odText, spec_odText_b]
    rw [if_pos (by rw [rows_len]; simp only [cap]; omega), bA_nil, sText_head (a := a) (by omega) hs (fun e he hfe => sText_eq k e none hfe (by omega) (by omega)) a p hf (Nat.le_refl _) (by
      have : roomT [119] a = 31 * a.size := rfl
      omega)]
    unfold spec_odText_p3
    cases a with
    | nil =>
      simp only [partsT]
      refine ite_pos ?_ rfl
      rw [bA_nil]
      simp
    | cons e c l =>
      have hne : textT [119] (cons e c l) ≠ [] := by
        simp only [textT, partsT, joinP]
        intro q
        have := List.append_eq_nil_iff.1 q
        have q1 := this.1
        unfold partT at q1
        split at q1
        · exact dec_ne _ q1
        · simp at q1
      simp only [partsT]
      refine ite_neg ?_ rfl
      rw [bA_nil, bA_toList, bA_toList]
      simpa using hne
theorem spec_text (k : Nat) (a : T) (h : a.size + 2000001 < k) (hc : a.size ≤ cap) : spec_OrdinalText k a.rows = some (if ordP a then (bA (textT [119] a), true) else (bA [], false)) := by
  unfold spec_OrdinalText
  refine bind_of (odGood_all k a (by omega) hc) ?_
  cases ho : ordP a with
  | false => refine ite_neg (by simp) ?_; rfl
  | true =>
    refine ite_pos rfl ?_
    have hz := ordP_size ho
    simp only [ordP, Bool.and_eq_true] at ho
    refine bind_of (sText_eq k a none ho.2 h (by omega)) ?_
    rfl
/-! ### the program -/
def rowsP (ps : List L8) : Rw := ps.map fun p => [D.str (bA p)]
theorem rowsP_snoc (acc : List L8) (p : L8) : rowsP acc ++ [[D.str (bA p)]] = rowsP (acc ++ [p]) := by simp [rowsP]
theorem strsD_rows : ∀ ps : List L8, strsD (rowsP ps) = some (ps.map bA)
  | [] => rfl
  | p :: ps => by
    have := strsD_rows ps
    simp only [rowsP, List.map_cons, strsD] at this ⊢
    rw [this]
theorem iText_loop {k : Nat} {w : L8} {rec_ : Rw → ByteArray → Option ByteArray} {a : T} {K : Rw → Option ByteArray} (hk : 2000000 < k) (hs : a.size ≤ 100000) (hw : w.length ≤ 100) (hr : ∀ e : T, e.size < a.size → formA none e = true → rec_ e.rows (bA w) = some (bA (textT w e))) :
    ∀ (t : T) (p : Option T) (acc : List L8), formA p t = true → t.size ≤ a.size → acc.length + t.len ≤ 1000000000 → roomT w t ≤ 1000000000 → impl_ordinalText_l0 k rec_ a.rows (bA w) K t.rows (rowsP acc) = K (rowsP (acc ++ partsT w t))
  | nil, _, acc, _, _, _, _ => by simp [rows, impl_ordinalText_l0, partsT]
  | cons e c l, p, acc, hf, ht, hn, hb => by
    have hF := hf
    simp only [formA, Bool.and_eq_true, decide_eq_true_eq] at hf
    obtain ⟨⟨⟨⟨h1, h2⟩, h3⟩, _⟩, h4⟩ := hf
    have hse : e.size < a.size := by simp only [size] at ht; omega
    have hsl : l.size ≤ a.size := by simp only [size] at ht; omega
    have hte := join_len (w := w) h3
    have hd := dec_len (u := c.toNat) (by omega)
    rw [roomT_cons] at hb
    simp only [len] at hn
    have hnum := itoa_eq (n := c) (by omega) (by omega)
    have fin : ∀ q : L8, q = partT w (textT w e) e c → (if (rowsP acc).length + 1 ≤ cap then impl_ordinalText_l0 k rec_ a.rows (bA w) K l.rows (rowsP acc ++ [[D.str (bA q)]]) else none) = K (rowsP (acc ++ partsT w (cons e c l))) := by
      intro q hq
      rw [if_pos (by simp only [rowsP, List.length_map, cap]; omega), rowsP_snoc, iText_loop hk hs hw hr l (some e) _ h4 hsl (by simp only [List.length_append, List.length_singleton]; omega) (by omega)]
      subst hq
      simp only [partsT, textT, List.append_assoc, List.cons_append, List.nil_append]
    simp only [rows, impl_ordinalText_l0, cell_T]
    rw [bA_42, bA_41, bA_94]
    refine bind_of (isZt e) ?_
    cases e with
    | nil =>
      refine ite_pos rfl ?_
      refine bind_of hnum ?_
      exact fin _ rfl
    | cons e0 c0 l0 =>
      refine ite_neg (by simp [zerT]) ?_
      refine bind_of fiOne ?_
      refine bind_of (impl_cmp_eq k (cons e0 c0 l0) one1 (by omega) (by simp only [cap]; omega)) ?_
      by_cases g : cmpT (cons e0 c0 l0) one1 = 0
      · refine ite_pos g ?_
        by_cases h : c = 1
        · refine ite_pos h ?_
          exact fin _ (by simp only [partT, if_pos g, if_pos h, List.append_nil])
        · refine ite_neg h ?_
          refine bind_of hnum ?_
          refine ite_pos (by rw [bA_size, bA_size, List.length_singleton]; omega) ?_
          refine ite_pos (by simp only [bA_app, bA_size, List.length_append, List.length_singleton]; omega) ?_
          simp only [bA_app]
          exact fin _ (by simp only [partT, if_pos g, if_neg h, List.append_nil])
      · refine ite_neg g ?_
        refine bind_of (hr _ hse h3) ?_
        refine ite_pos (by rw [bA_size, bA_size]; simp only [List.length_cons, List.length_nil]; omega) ?_
        refine ite_pos (by rw [bA_app, bA_size, bA_size]; simp only [List.length_append, List.length_cons, List.length_nil]; omega) ?_
        refine ite_pos (by simp only [bA_app, bA_size, List.length_append, List.length_cons, List.length_nil]; omega) ?_
        by_cases h : c = 1
        · refine ite_pos h ?_
          simp only [bA_app]
          exact fin _ (by simp only [partT, if_neg g, if_pos h, List.append_nil])
        · refine ite_neg h ?_
          refine bind_of hnum ?_
          refine ite_pos (by rw [bA_size, bA_size, List.length_singleton]; omega) ?_
          refine ite_pos (by simp only [bA_app, bA_size, List.length_append, List.length_cons, List.length_nil]; omega) ?_
          simp only [bA_app]
          exact fin _ (by simp only [partT, if_neg g, if_neg h])
theorem joinP_join : ∀ {ps : List L8}, ps ≠ [] → Lib.join ps [43] = joinP ps
  | [], h => absurd rfl h
  | p :: r, _ => Lib.join_cons p r [43]
theorem parts_count {w : L8} : ∀ t : T, (partsT w t).length = t.len
  | nil => rfl
  | cons e c l => by simp only [partsT, List.length_cons, len, parts_count l]
theorem iText_eq {w : L8} (hw : w.length ≤ 100) : ∀ (k : Nat) (a : T) (p : Option T), formA p a = true → a.size + 2000001 < k → a.size ≤ 100000 → impl_ordinalText k a.rows (bA w) = some (bA (textT w a))
  | 0, _, _, _, h, _ => absurd h (Nat.not_lt_zero _)
  | k + 1, a, p, hf, h, hs => by
    have hl := a.len_size
    have hroom : roomT w a ≤ 1000000000 := by
      have : roomT w a ≤ 130 * a.size := Nat.mul_le_mul_right _ (by omega)
      omega
    simp only [impl_ordinalText, impl_ordinalText_b]
    rw [if_pos (by rw [rows_len]; simp only [cap]; omega), show ([] : Rw) = rowsP [] from rfl, iText_loop (a := a) (by omega) hs hw (fun e he hfe => iText_eq hw k e none hfe (by omega) (by omega)) a p [] hf (Nat.le_refl _) (by simp only [List.length_nil]; omega) hroom, List.nil_append]
    unfold impl_ordinalText_p3
    have hc := parts_count (w := w) a
    have hlen := join_len (w := w) hf
    cases hq : partsT w a with
    | nil =>
      refine ite_pos rfl ?_
      simp only [textT, hq, joinP]
      rfl
    | cons q r =>
      refine ite_neg (by simp [rowsP]; omega) ?_
      have hj : Lib.join (((q :: r).map bA).map (·.data.toList)) [43] = textT w a := by
        rw [List.map_map, show ((fun x : ByteArray => x.data.toList) ∘ bA) = id from funext bA_data, List.map_id, joinP_join (by simp), textT, hq]
      refine bind_of (y := bA (textT w a)) ?_ rfl
      unfold lib_Join
      refine bind_of (strsD_rows _) ?_
      rw [show (ByteArray.mk #[43]).data.toList = [43] from rfl, hj]
      refine ite_pos ⟨?_, by omega⟩ rfl
      rw [List.length_map, ← hq, hc]
      omega
theorem impl_text (k : Nat) (a : T) (h : a.size + 2000001 < k) (hc : a.size ≤ cap) : impl_OrdinalText k a.rows = some (if ordP a then (bA (textT [119] a), true) else (bA [], false)) := by
  unfold impl_OrdinalText
  refine bind_of (IsOrdinal_eq k a (by omega) hc) ?_
  cases ho : ordP a with
  | false => refine ite_neg (by simp) ?_; rfl
  | true =>
    refine ite_pos rfl ?_
    have hz := ordP_size ho
    simp only [ordP, Bool.and_eq_true] at ho
    refine bind_of (iText_eq (w := [119]) (by simp) k a none ho.2 h (by omega)) ?_
    rfl
end Go.Proofs.Tryd
