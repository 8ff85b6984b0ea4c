/- Pure: comparing ordinals, what is right, copies; impl and spec. -/
import Derived.Test.YtfbphnkfddgihaaOrdT
import Derived.Test.YtfbphnkfddgihaaLimG1
namespace Go.Proofs.Try
open Go Go.AX T
/-! ### rows of terms -/
@[simp] theorem cell_T {α : Type} (x : Rw) (c : Int) (K : Rw → Int → Option α) : cell_si [.sl x, .int .i64 c] K = K x c := rfl
theorem row_T {α : Type} {t : T} {i : Int} {n : Nat} (hi : i = n) {e : T} {c : Int} {l : T} (h : drop t n = cons e c l) (K : Rw → Int → Option α) : row_si t.rows i K = K e.rows c := by
  subst hi
  unfold row_si
  rw [if_pos (by omega), Int.toNat_natCast, rows_get h]; rfl
@[simp] theorem row_T0 {α : Type} (e : T) (c : Int) (l : T) (K : Rw → Int → Option α) : row_si (cons e c l).rows 0 K = K e.rows c := row_T (n := 0) rfl rfl K
theorem lenI (t : T) : ((t.rows.length : Nat) : Int) = (t.len : Int) := by rw [rows_len]
/-! ### impl's order -/
theorem impl_compare_eq (a b : Int) : impl_compare a b = some (cmpI a b) := by unfold impl_compare cmpI; split <;> (try split) <;> rfl
theorem CompareFunc_loop {rec_ : Rw → Rw → Option Int} {a b : T} {K : Option Int} (hr : ∀ e f : T, e.size < a.size → rec_ e.rows f.rows = some (cmpT e f)) (hK : K = (if (a.len : Int) < b.len then some (-1) else some 0)) :
    ∀ (t : T) (i : Nat), drop a i = t → i ≤ a.len → i ≤ b.len → slices_CompareFunc__cmpTerms_l0 rec_ a.rows b.rows K t.rows i = some (cmpT t (drop b i))
  | nil, i, hd, ha', hb => by
    simp only [rows, slices_CompareFunc__cmpTerms_l0, hK]
    have h1 := drop_ge hd
    by_cases h2 : i < b.len
    · cases hq : drop b i with
      | nil => have := drop_ge hq; omega
      | cons f d m =>
        have : a.len = i ∨ a.len < i := by omega
        rw [if_pos (by omega)]; rfl
    · rw [drop_of_ge (t := b) (by omega), if_neg (by
        intro q
        omega)]; rfl
  | cons e c l, i, hd, ha', hb => by
    simp only [rows, slices_CompareFunc__cmpTerms_l0, cell_T]
    have hs := drop_cons_size hd
    by_cases h2 : b.len ≤ i
    · rw [if_pos (by rw [lenI]; omega), drop_of_ge h2]; rfl
    · rw [if_neg (by rw [lenI]; omega)]
      cases hq : drop b i with
      | nil => have := drop_ge hq; omega
      | cons f d m =>
        rw [row_T rfl hq]
        simp only [impl_cmpTerms, hr e f (by omega), Option.bind_some, impl_compare_eq]
        by_cases h3 : cmpT e f = 0
        · simp only [h3, if_true, Option.bind_some]
          by_cases h4 : cmpI c d = 0
          · rw [if_pos h4, CompareFunc_loop hr hK l (i + 1) (drop_succ hd) (drop_lt hd) (by omega), drop_succ hq]
            simp [cmpT, h3, h4]
          · rw [if_neg h4]; simp [cmpT, h3, h4]
        · simp only [if_neg h3, Option.bind_some]; simp [cmpT, h3]
theorem impl_cmp_eq : ∀ (k : Nat) (a b : T), a.size < k → a.size ≤ cap → impl_cmp k a.rows b.rows = some (cmpT a b)
  | 0, _, _, h, _ => absurd h (Nat.not_lt_zero _)
  | k + 1, a, b, h, hc => by
    have hl := a.len_size
    simp only [impl_cmp, impl_cmp_b, slices_CompareFunc__cmpTerms]
    rw [if_pos (by rw [rows_len]; omega)]
    rw [CompareFunc_loop (a := a) (b := b) (fun e f he => impl_cmp_eq k e f (by omega) (by omega)) (by rw [lenI, lenI]) a 0 (drop_zero a) (by omega) (by omega)]
    simp
/-! ### spec's order -/
/-- Coefficients whose differences do not run over. -/
def calm : T → Prop
  | nil => True
  | cons e c l => calm e ∧ (-1000000000000000 ≤ c ∧ c ≤ 1000000000000000) ∧ calm l
theorem calm_drop {t : T} (h : calm t) : ∀ {i : Nat}, calm (drop t i) := by
  induction t with
  | nil => intro i; simpa using h
  | cons e c l _ ih => intro i; cases i with
    | zero => simpa using h
    | succ i => exact ih h.2.2
theorem sign_eq {c d : Int} (hc : -1000000000000000 ≤ c ∧ c ≤ 1000000000000000) (hd : -1000000000000000 ≤ d ∧ d ≤ 1000000000000000) : spec_l1Sign (IntKind.i64.wrap (c - d)) = some (cmpI c d) := by
  rw [wid (by omega) (by omega)]
  unfold spec_l1Sign cmpI
  by_cases h1 : c < d
  · rw [if_neg (by omega), if_pos (by omega), if_pos h1]
  · by_cases h2 : d < c
    · rw [if_pos (by omega), if_neg h1, if_pos h2]
    · rw [if_neg (by omega), if_neg (by omega), if_neg h1, if_neg h2]
theorem odCmp_loop {rec_ : Rw → Rw → Option Int} {a b : T} {K : Option Int} (ha : calm a) (hb : calm b) (hr : ∀ e f : T, e.size < a.size → calm e → calm f → rec_ e.rows f.rows = some (cmpT e f)) (hK : K = (if (a.len : Int) < b.len then some (-1) else some 0)) :
    ∀ (t : T) (i : Nat), drop a i = t → i ≤ a.len → i ≤ b.len → spec_odCmp_l0 rec_ a.rows b.rows K t.rows i = some (cmpT t (drop b i))
  | nil, i, hd, ha', hb' => by
    simp only [rows, spec_odCmp_l0, hK]
    have h1 := drop_ge hd
    by_cases h2 : i < b.len
    · cases hq : drop b i with
      | nil => have := drop_ge hq; omega
      | cons f d m => rw [if_pos (by omega)]; rfl
    · rw [drop_of_ge (t := b) (by omega), if_neg (by
        intro q
        omega)]; rfl
  | cons e c l, i, hd, ha', hb' => by
    simp only [rows, spec_odCmp_l0, cell_T]
    have hs := drop_cons_size hd
    have hca := calm_drop ha (i := i)
    rw [hd] at hca
    by_cases h2 : i = b.len
    · rw [if_pos (by rw [lenI]; omega), drop_of_ge (by omega)]; rfl
    · rw [if_neg (by rw [lenI]; omega)]
      cases hq : drop b i with
      | nil => have := drop_ge hq; omega
      | cons f d m =>
        have hcb := calm_drop hb (i := i)
        rw [hq] at hcb
        rw [row_T rfl hq]
        simp only [hr e f (by omega) hca.1 hcb.1, Option.bind_some]
        by_cases h3 : cmpT e f = 0
        · rw [if_pos h3]
          by_cases h4 : c = d
          · subst h4
            rw [if_pos rfl, odCmp_loop ha hb hr hK l (i + 1) (drop_succ hd) (drop_lt hd) (drop_lt hq), drop_succ hq]
            simp [cmpT, h3, cmpI_refl]
          · rw [if_neg h4, sign_eq hca.2.1 hcb.2.1]
            have : cmpI c d ≠ 0 := fun q => h4 (cmpI_eq.1 q)
            simp [cmpT, h3, this]
        · rw [if_neg h3]; simp [cmpT, h3]
theorem odCmp_eq : ∀ (k : Nat) (a b : T), calm a → calm b → a.size < k → a.size ≤ cap → spec_odCmp k a.rows b.rows = some (cmpT a b)
  | 0, _, _, _, _, h, _ => absurd h (Nat.not_lt_zero _)
  | k + 1, a, b, ha, hb, h, hc => by
    have hl := a.len_size
    simp only [spec_odCmp, spec_odCmp_b]
    rw [if_pos (by rw [rows_len]; omega)]
    have := odCmp_loop (rec_ := spec_odCmp k) (a := a) (b := b) (K := spec_odCmp_p2 a.rows b.rows) ha hb (fun e f he h1 h2 => odCmp_eq k e f h1 h2 (by omega) (by omega)) (by unfold spec_odCmp_p2; rw [lenI, lenI]) a 0 (drop_zero a) (by omega) (by omega)
    rw [this, drop_zero]
end Go.Proofs.Try
