/- Pure: sums, what is left of a sum, a term added naturally; impl and spec. -/
import Derived.Test.YtfbphnkfddgihaaOrdGood
namespace Go.Proofs.Try
open Go Go.AX T
abbrev w (n : Int) : Int := IntKind.i64.wrap n
theorem drop_app (l r : T) : drop (app l r) l.len = r := by
  induction l with
  | nil => simp [app, len]
  | cons e c l _ ih => exact ih
theorem T.snoc (t : T) : t = nil ∨ ∃ l x c, t = app l (cons x c nil) := by
  induction t with
  | nil => exact .inl rfl
  | cons e c l _ ih =>
    rcases ih with rfl | ⟨l', x, d, rfl⟩
    · exact .inr ⟨nil, e, c, rfl⟩
    · exact .inr ⟨cons e c l', x, d, rfl⟩
theorem calm_app {a b : T} : calm (app a b) ↔ calm a ∧ calm b := by
  induction a with
  | nil => simp [app, calm]
  | cons e c l _ ih => simp only [app, calm, ih, and_assoc]
/-! ### impl's sum -/
def goP : T → T → Int → T → T
  | nil, f, d, m => cons f d m
  | cons e c l, f, d, m => if cmpT e f = 1 then cons e c (goP l f d m) else if cmpT e f = 0 then cons e (w (c + d)) m else goP l f d m
def plusT : T → T → T
  | a, nil => a
  | a, cons f d m => goP a f d m
theorem goP_size (a f : T) (d : Int) (m : T) : (goP a f d m).size ≤ a.size + f.size + m.size + 1 := by
  induction a with
  | nil => simp [goP, size]
  | cons e c l _ ih =>
    simp only [goP]
    split
    · simp only [size]; omega
    · split
      · simp only [size]; omega
      · simp only [size]; omega
theorem plusT_size (a b : T) : (plusT a b).size ≤ a.size + b.size := by
  cases b with
  | nil => simp [plusT]
  | cons f d m => simp only [plusT, size]; have := goP_size a f d m; omega
theorem impl_isZero_eq (t : T) : impl_isZero t.rows = some (match t with | nil => true | cons _ _ _ => false) := by
  unfold impl_isZero
  cases t with
  | nil => rfl
  | cons e c l => rw [if_neg (by rw [lenI]; simp only [len]; omega)]
theorem plus_loop {k : Nat} {a b f m : T} {d : Int} (hb : b = cons f d m) (hk : a.size < k) (hc : a.size + b.size + 1 ≤ cap) : ∀ (t acc : T), t.size ≤ a.size → acc.len + t.len ≤ a.len →
    impl_plus_l0 k a.rows b.rows (fun v => impl_plus_p4 b.rows v) t.rows acc.rows = some (app acc (goP t f d m)).rows
  | nil, acc, _, hl => by
    have h1 := a.len_size
    have h2 := b.len_size
    have h3 : cap = 1099511627776 := rfl
    simp only [len] at hl
    show impl_plus_p4 b.rows acc.rows = _
    unfold impl_plus_p4
    rw [if_pos ⟨by rw [rows_len, rows_len]; omega, rowsWide _⟩, rows_app, hb]; rfl
  | cons e c l, acc, hs, hl => by
    have h1 := a.len_size
    have h2 := b.len_size
    have h3 : cap = 1099511627776 := rfl
    have h4 : b.len = m.len + 1 := by rw [hb]; rfl
    simp only [size] at hs
    simp only [len] at hl
    have hq : drop b 0 = cons f d m := by rw [hb]; rfl
    simp only [rows, impl_plus_l0, cell_T]
    rw [row_T (t := b) (i := 0) (n := 0) rfl hq, impl_cmp_eq k e f (by omega) (by omega), Option.bind_some]
    by_cases g1 : cmpT e f = 1
    · rw [if_pos g1, if_pos (by rw [rows_len]; omega)]
      have e1 : acc.rows ++ [[D.sl e.rows, D.int .i64 c]] = (app acc (cons e c nil)).rows := by rw [rows_app]; rfl
      have := plus_loop hb hk hc l (app acc (cons e c nil)) (by omega) (by rw [len_app]; simp only [len]; omega)
      rw [e1, this, app_assoc]
      simp [goP, g1, app]
    · rw [if_neg g1]
      by_cases g2 : cmpT e f = 0
      · rw [if_pos g2, if_pos (by rw [rows_len]; omega), if_pos ⟨by omega, by rw [lenI]; omega, rowsWide b⟩]
        have e3 : b.rows.drop (Int.toNat 1) = m.rows := by rw [hb]; rfl
        rw [e3, if_pos ⟨by simp only [List.length_append, rows_len, List.length_cons, List.length_nil]; omega, rowsWide m⟩]
        have g1' : ¬ (0 : Int) = 1 := by omega
        simp only [goP, g2, if_neg g1', if_true, rows_app, rows]
        rw [List.append_assoc]; rfl
      · rw [if_neg g2]
        have := plus_loop hb hk hc l acc (by omega) (by omega)
        rw [this]
        simp [goP, g1, g2]
theorem plus_eq (k : Nat) (a b : T) (hk : a.size < k) (hc : a.size + b.size + 1 ≤ cap) : impl_plus k a.rows b.rows = some (plusT a b).rows := by
  unfold impl_plus
  have h1 := a.len_size
  rw [impl_isZero_eq, Option.bind_some]
  cases b with
  | nil => rfl
  | cons f d m =>
    simp only
    rw [if_neg (by simp)]
    unfold impl_plus_p2
    rw [if_pos (by rw [rows_len]; omega)]
    have := plus_loop (b := cons f d m) rfl hk hc a nil (Nat.le_refl _) (by simp [len])
    exact this
theorem calm_less {a b : T} (h : ordP a = true) : True := trivial
theorem form_calm {p : Option T} {t : T} (h : formA p t = true) : calm t := by
  induction t generalizing p with
  | nil => trivial
  | cons e c l ihe ihl =>
    simp only [formA, Bool.and_eq_true, decide_eq_true_eq] at h
    obtain ⟨⟨⟨⟨h1, h2⟩, h3⟩, _⟩, h5⟩ := h
    exact ⟨ihe h3, by omega, ihl h5⟩
theorem ordP_form {t : T} (h : ordP t = true) : formA none t = true := by
  simp only [ordP, Bool.and_eq_true] at h; exact h.2
theorem form_any {p : Option T} {t : T} (h : formA p t = true) : formA none t = true := by
  cases t with
  | nil => rfl
  | cons e c l =>
    simp only [formA, Bool.and_eq_true] at h ⊢
    exact ⟨⟨⟨h.1.1.1, h.1.1.2⟩, trivial⟩, h.2⟩
end Go.Proofs.Try
