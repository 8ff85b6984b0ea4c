/- Pure: sums, what is left of a sum, a term added naturally; impl and spec. -/
import Derived.Test.YtkloidpjgdlpkaaOrdGood
namespace Go.Proofs.Try
open Go Go.AX T
abbrev w (n : Int) : Int := IntKind.i64.wrap n
theorem drop_app (l r : T) : drop (app l r) l.len = r := by
  induction l with
  | nil => simp [app, len]
  | cons e c l _ ih => exact ih
theorem T.snoc (t : T) : t = nil ∨ ∃ l x c, t = app l (cons x c nil) := by
  induction t with
  | nil => exact .inl rfl
  | cons e c l _ ih =>
    rcases ih with rfl | ⟨l', x, d, rfl⟩
    · exact .inr ⟨nil, e, c, rfl⟩
    · exact .inr ⟨cons e c l', x, d, rfl⟩
theorem calm_app {a b : T} : calm (app a b) ↔ calm a ∧ calm b := by
  induction a with
  | nil => simp [app, calm]
  | cons e c l _ ih => simp only [app, calm, ih, and_assoc]
/-! ### impl's sum -/
def goP : T → T → Int → T → T
  | nil, f, d, m => cons f d m
  | cons e c l, f, d, m => if cmpT e f = 1 then cons e c (goP l f d m) else if cmpT e f = 0 then cons e (w (c + d)) m else goP l f d m
def plusT : T → T → T
  | a, nil => a
  | a, cons f d m => goP a f d m
theorem goP_size (a f : T) (d : Int) (m : T) : (goP a f d m).size ≤ a.size + f.size + m.size + 1 := by
  induction a with
  | nil => simp [goP, size]
  | cons e c l _ ih =>
    simp only [goP]
    split
    · simp only [size]; omega
    · split
      · simp only [size]; omega
      · simp only [size]; omega
theorem plusT_size (a b : T) : (plusT a b).size ≤ a.size + b.size := by
  cases b with
  | nil => simp [plusT]
  | cons f d m => simp only [plusT, size]; have := goP_size a f d m; omega
theorem impl_isZero_eq (t : T) : impl_isZero t.rows = some (match t with | nil => true | cons _ _ _ => false) := by
  unfold impl_isZero
  cases t with
  | nil => rfl
  | cons e c l => rw [if_neg (by rw [lenI]; simp only [len]; omega)]
theorem plus_loop {k : Nat} {a b f m : T} {d : Int} (hb : b = cons f d m) (hk : a.size < k) (hc : a.size + b.size + 1 ≤ cap) : ∀ (t acc : T), t.size ≤ a.size → acc.len + t.len ≤ a.len →
    impl_plus_l0 k a.rows b.rows (fun v => impl_plus_p4 b.rows v) t.rows acc.rows = some (app acc (goP t f d m)).rows
  | nil, acc, _, hl => by
    have h1 := a.len_size
    have h2 := b.len_size
    have h3 : cap = 1099511627776 := rfl
    simp only [len] at hl
    show impl_plus_p4 b.rows acc.rows = _
    unfold impl_plus_p4
    rw [if_pos ⟨by rw [rows_len, rows_len]; omega, rowsWide _⟩, rows_app, hb]; rfl
  | cons e c l, acc, hs, hl => by
    have h1 := a.len_size
    have h2 := b.len_size
    have h3 : cap = 1099511627776 := rfl
    have h4 : b.len = m.len + 1 := by rw [hb]; rfl
    simp only [size] at hs
    simp only [len] at hl
    have hq : drop b 0 = cons f d m := by rw [hb]; rfl
    simp only [rows, impl_plus_l0, cell_T]
    rw [row_T (t := b) (i := 0) (n := 0) rfl hq, impl_cmp_eq k e f (by omega) (by omega), Option.bind_some]
    by_cases g1 : cmpT e f = 1
    · rw [if_pos g1, if_pos (by rw [rows_len]; omega)]
      have e1 : acc.rows ++ [[D.sl e.rows, D.int .i64 c]] = (app acc (cons e c nil)).rows := by rw [rows_app]; rfl
      have := plus_loop hb hk hc l (app acc (cons e c nil)) (by omega) (by rw [len_app]; simp only [len]; omega)
      rw [e1, this, app_assoc]
      simp [goP, g1, app]
    · rw [if_neg g1]
      by_cases g2 : cmpT e f = 0
      · rw [if_pos g2, if_pos (by rw [rows_len]; omega), if_pos ⟨by omega, by rw [lenI]; omega, rowsWide b⟩]
        have e3 : b.rows.drop (Int.toNat 1) = m.rows := by rw [hb]; rfl
        rw [e3, if_pos ⟨by simp only [List.length_append, rows_len, List.length_cons, List.length_nil]; omega, rowsWide m⟩]
        have g1' : ¬ (0 : Int) = 1 := by omega
        simp only [goP, g2, if_neg g1', if_true, rows_app, rows]
        rw [List.append_assoc]; rfl
      · rw [if_neg g2]
        have := plus_loop hb hk hc l acc (by omega) (by omega)
        rw [this]
        simp [goP, g1, g2]
theorem plus_eq (k : Nat) (a b : T) (hk : a.size < k) (hc : a.size + b.size + 1 ≤ cap) : impl_plus k a.rows b.rows = some (plusT a b).rows := by
  unfold impl_plus
  have h1 := a.len_size
  rw [impl_isZero_eq, Option.bind_some]
  cases b with
  | nil => rfl
  | cons f d m =>
    simp only
    rw [if_neg (by simp)]
    unfold impl_plus_p2
    rw [if_pos (by rw [rows_len]; omega)]
    have := plus_loop (b := cons f d m) rfl hk hc a nil (Nat.le_refl _) (by simp [len])
    exact this
def addT (a b : T) : T × Bool := if ordP a && ordP b then toldT (plusT a b) else (nil, false)
theorem AddOrdinals_eq (k : Nat) (a b : T) (ha : a.size + b.size < k) (hc : a.size + b.size + 1 ≤ cap) : impl_AddOrdinals k a.rows b.rows = some ((addT a b).1.rows, (addT a b).2) := by
  unfold impl_AddOrdinals addT
  rw [both_eq k a b (by omega) (by omega) (by omega) (by omega), Option.bind_some]
  cases ordP a && ordP b with
  | false => rfl
  | true =>
    have := plusT_size a b
    simp only [if_true]
    rw [plus_eq k a b (by omega) hc, Option.bind_some, told_eq k _ (by omega) (by omega), Option.bind_some]
    cases (toldT (plusT a b)).2 <;> rfl
def cmpO (a b : T) : Int × Bool := if ordP a && ordP b then (cmpT a b, true) else (0, false)
theorem CompareOrdinals_eq (k : Nat) (a b : T) (ha : a.size < k) (hb : b.size < k) (ca : a.size ≤ cap) (cb : b.size ≤ cap) : impl_CompareOrdinals k a.rows b.rows = some ((cmpO a b).1, (cmpO a b).2) := by
  unfold impl_CompareOrdinals cmpO
  rw [both_eq k a b ha hb ca cb, Option.bind_some]
  cases ordP a && ordP b with
  | false => rfl
  | true =>
    simp only [if_true]
    rw [impl_cmp_eq k a b ha ca]; rfl
/-! ### what is left -/
def lessT : T → T → T
  | a, nil => a
  | nil, cons _ _ _ => nil
  | cons e c l, cons f d m => if cmpT e f = 0 then (if c = d then lessT l m else cons e (w (c - d)) l) else cons e c l
theorem lessT_nil (a : T) : lessT a nil = a := by cases a <;> rfl
theorem lessT_size (a b : T) : (lessT a b).size ≤ a.size := by
  induction a generalizing b with
  | nil => cases b <;> simp [lessT]
  | cons e c l _ ih =>
    cases b with
    | nil => simp [lessT]
    | cons f d m =>
      simp only [lessT]
      split
      · split
        · have := ih m; simp only [size]; omega
        · simp [size]
      · simp
theorem rows_cons_drop {a : T} {i : Nat} {e : T} {c : Int} {l : T} (h : drop a i = cons e c l) : a.rows.drop (i + 1) = l.rows := by rw [← rows_drop, drop_succ h]
theorem less_loop {k : Nat} {a b : T} (hk : a.size < k) (hc : a.size ≤ cap) : ∀ (t : T) (i : Nat), drop b i = t → i ≤ b.len → i ≤ a.len → 0 ≤ cmpT (drop a i) t →
    impl_less_l0 k a.rows b.rows (impl_less_p2 a.rows b.rows) t.rows i = some (lessT (drop a i) t).rows
  | nil, i, hd, hb, ha, _ => by
    have h1 := drop_ge hd
    have e1 : i = b.len := by omega
    show impl_less_p2 a.rows b.rows = _
    unfold impl_less_p2
    rw [if_pos ⟨by rw [lenI]; omega, by rw [lenI, lenI]; omega, rowsWide a⟩, lessT_nil, rows_drop, e1, lenI, Int.toNat_natCast]
  | cons f d m, i, hd, hb, ha, hcmp => by
    have h3 : cap = 1099511627776 := rfl
    have hl := a.len_size
    cases hq : drop a i with
    | nil => rw [hq] at hcmp; simp [cmpT] at hcmp
    | cons e c l =>
      have hs := drop_cons_size hq
      have hlt := drop_lt hq
      have hll := l.len_size
      rw [hq] at hcmp
      simp only [rows, impl_less_l0, cell_T]
      rw [row_T rfl hq, impl_cmp_eq k e f (by omega) (by omega), Option.bind_some]
      by_cases g1 : cmpT e f = 0
      · rw [if_pos g1]
        by_cases g2 : c = d
        · subst g2
          rw [if_pos rfl]
          have hn : 0 ≤ cmpT (drop a (i + 1)) m := by rw [drop_succ hq]; simpa [cmpT, g1, cmpI_refl] using hcmp
          have := less_loop hk hc m (i + 1) (drop_succ hd) (drop_lt hd) hlt hn
          rw [this, drop_succ hq]
          simp [lessT, g1]
        · rw [if_neg g2]
          have e1 : IntKind.i64.wrap ((i : Int) + 1) = ((i + 1 : Nat) : Int) := by rw [wid (by omega) (by omega)]; rfl
          rw [e1, if_pos ⟨by omega, by rw [lenI]; omega, rowsWide a⟩, Int.toNat_natCast, rows_cons_drop hq, if_pos ⟨by rw [rows_len]; show 1 + l.len ≤ cap; omega, rowsWide l⟩]
          simp only [lessT, g1, if_true, if_neg g2, rows]; rfl
      · rw [if_neg g1, if_pos ⟨by omega, by rw [lenI]; omega, rowsWide a⟩, Int.toNat_natCast, ← rows_drop, hq]
        simp [lessT, g1]
theorem less_eq (k : Nat) (a b : T) (hk : a.size < k) (hc : a.size ≤ cap) (hb : b.size ≤ cap) (h : 0 ≤ cmpT a b) : impl_less k a.rows b.rows = some (lessT a b).rows := by
  have := b.len_size
  unfold impl_less
  rw [if_pos (by rw [rows_len]; omega)]
  have := less_loop hk hc b 0 (drop_zero b) (by omega) (by omega) (by rw [drop_zero]; exact h)
  rw [this, drop_zero]
def subT (a b : T) : T × Bool := if ordP a && ordP b then (if cmpT a b < 0 then (nil, false) else toldT (lessT a b)) else (nil, false)
theorem SubtractLeft_eq (k : Nat) (a b : T) (ha : a.size < k) (hb : b.size < k) (ca : a.size ≤ cap) (cb : b.size ≤ cap) : impl_SubtractLeft k a.rows b.rows = some ((subT a b).1.rows, (subT a b).2) := by
  unfold impl_SubtractLeft subT
  rw [both_eq k a b ha hb ca cb, Option.bind_some]
  cases ordP a && ordP b with
  | false => rfl
  | true =>
    simp only [if_true]
    rw [impl_cmp_eq k a b ha ca, Option.bind_some]
    by_cases h : cmpT a b < 0
    · rw [if_pos h, if_pos h]; rfl
    · have := lessT_size a b
      rw [if_neg h, if_neg h, less_eq k a b ha ca cb (by omega), Option.bind_some, told_eq k _ (by omega) (by omega), Option.bind_some]
      cases (toldT (lessT a b)).2 <;> rfl
theorem odLess_loop {k : Nat} {a b : T} (hk : a.size < k) (hc : a.size ≤ cap) (qa : calm a) (qb : calm b) : ∀ (t : T) (i : Nat), drop a i = t → i ≤ b.len → i ≤ a.len → 0 ≤ cmpT t (drop b i) →
    spec_odLess_l0 k a.rows b.rows spec_odLess_p2 t.rows i = some (lessT t (drop b i)).rows
  | nil, i, hd, hb, ha, hcmp => by
    cases hq : drop b i with
    | nil => rfl
    | cons f d m => rfl
  | cons e c l, i, hd, hb, ha, hcmp => by
    have h3 : cap = 1099511627776 := rfl
    have hl := a.len_size
    have hs := drop_cons_size hd
    have hlt := drop_lt hd
    have hll := l.len_size
    have hca := calm_drop qa (i := i)
    rw [hd] at hca
    simp only [rows, spec_odLess_l0, cell_T]
    by_cases g0 : i = b.len
    · rw [if_pos (by rw [lenI]; omega), if_pos ⟨by omega, by rw [lenI]; omega, rowsWide a⟩, Int.toNat_natCast, ← rows_drop, hd, drop_of_ge (t := b) (by omega)]
      rfl
    · rw [if_neg (by rw [lenI]; omega)]
      cases hq : drop b i with
      | nil => have := drop_ge hq; omega
      | cons f d m =>
        have hcb := calm_drop qb (i := i)
        rw [hq] at hcmp hcb
        rw [row_T rfl hq, odCmp_eq k e f hca.1 hcb.1 (by omega) (by omega), Option.bind_some]
        by_cases g1 : cmpT e f = 0
        · rw [if_pos g1]
          by_cases g2 : c = d
          · subst g2
            rw [if_pos rfl]
            have hn : 0 ≤ cmpT l (drop b (i + 1)) := by rw [drop_succ hq]; simpa [cmpT, g1, cmpI_refl] using hcmp
            have := odLess_loop hk hc qa qb l (i + 1) (drop_succ hd) (drop_lt hq) hlt hn
            rw [this, drop_succ hq]
            simp [lessT, g1]
          · rw [if_neg g2]
            have e1 : IntKind.i64.wrap ((i : Int) + 1) = ((i + 1 : Nat) : Int) := by rw [wid (by omega) (by omega)]; rfl
            rw [e1, if_pos ⟨by omega, by rw [lenI]; omega, rowsWide a⟩, Int.toNat_natCast, rows_cons_drop hd, if_pos ⟨by rw [rows_len]; show 1 + l.len ≤ cap; omega, rowsWide l⟩]
            simp only [lessT, g1, if_true, if_neg g2, rows]; rfl
        · rw [if_neg g1, if_pos ⟨by omega, by rw [lenI]; omega, rowsWide a⟩, Int.toNat_natCast, ← rows_drop, hd]
          simp [lessT, g1]
theorem odLess_eq (k : Nat) (a b : T) (hk : a.size < k) (hc : a.size ≤ cap) (qa : calm a) (qb : calm b) (h : 0 ≤ cmpT a b) : spec_odLess k a.rows b.rows = some (lessT a b).rows := by
  have := a.len_size
  unfold spec_odLess
  rw [if_pos (by rw [rows_len]; omega)]
  have := odLess_loop hk hc qa qb a 0 (drop_zero a) (by omega) (by omega) (by rw [drop_zero]; exact h)
  rw [this, drop_zero]
theorem calm_less {a b : T} (h : ordP a = true) : True := trivial
theorem form_calm {p : Option T} {t : T} (h : formA p t = true) : calm t := by
  induction t generalizing p with
  | nil => trivial
  | cons e c l ihe ihl =>
    simp only [formA, Bool.and_eq_true, decide_eq_true_eq] at h
    obtain ⟨⟨⟨⟨h1, h2⟩, h3⟩, _⟩, h5⟩ := h
    exact ⟨ihe h3, by omega, ihl h5⟩
theorem ordP_form {t : T} (h : ordP t = true) : formA none t = true := by
  simp only [ordP, Bool.and_eq_true] at h; exact h.2
theorem form_any {p : Option T} {t : T} (h : formA p t = true) : formA none t = true := by
  cases t with
  | nil => rfl
  | cons e c l =>
    simp only [formA, Bool.and_eq_true] at h ⊢
    exact ⟨⟨⟨h.1.1.1, h.1.1.2⟩, trivial⟩, h.2⟩
theorem lessT_calm {a b : T} (ha : formA none a = true) (hb : formA none b = true) : calm (lessT a b) := by
  induction a generalizing b with
  | nil => cases b <;> trivial
  | cons e c l _ ih =>
    cases b with
    | nil => rw [lessT_nil]; exact form_calm ha
    | cons f d m =>
      have h1 := form_calm ha
      have h2 := form_calm hb
      simp only [formA, Bool.and_eq_true, decide_eq_true_eq] at ha hb
      simp only [lessT]
      split
      · split
        · exact ih (form_any ha.2) (form_any hb.2)
        · refine ⟨h1.1, ?_, h1.2.2⟩
          show _ ≤ w (c - d) ∧ w (c - d) ≤ _
          rw [show w (c - d) = c - d from wid (by omega) (by omega)]; omega
      · exact h1
theorem sSub_eq (k : Nat) (a b : T) (ha : a.size < k) (hb : b.size < k) (ca : a.size ≤ cap) (cb : b.size ≤ cap) (qa : calm a) (qb : calm b) : spec_SubtractLeft k a.rows b.rows = some ((subT a b).1.rows, (subT a b).2) := by
  unfold spec_SubtractLeft subT
  rw [odGood_eq k a ha ca qa, Option.bind_some]
  cases pa : ordP a with
  | false => rfl
  | true =>
    rw [if_pos rfl, odGood_eq k b hb cb qb, Option.bind_some]
    cases pb : ordP b with
    | false => rfl
    | true =>
      simp only [Bool.and_self, if_true]
      rw [odCmp_eq k a b qa qb ha ca, Option.bind_some]
      by_cases h : cmpT a b < 0
      · rw [if_pos h, if_pos h]; rfl
      · have := lessT_size a b
        rw [if_neg h, if_neg h, odLess_eq k a b ha ca qa qb (by omega), Option.bind_some, odIf_eq k _ (by omega) (by omega) (lessT_calm (ordP_form pa) (ordP_form pb)), Option.bind_some]
        cases (toldT (lessT a b)).2 <;> rfl
theorem sCompare_eq (k : Nat) (a b : T) (ha : a.size < k) (hb : b.size < k) (ca : a.size ≤ cap) (cb : b.size ≤ cap) (qa : calm a) (qb : calm b) : spec_CompareOrdinals k a.rows b.rows = some ((cmpO a b).1, (cmpO a b).2) := by
  unfold spec_CompareOrdinals cmpO
  rw [odGood_eq k a ha ca qa, Option.bind_some]
  cases pa : ordP a with
  | false => rfl
  | true =>
    rw [if_pos rfl, odGood_eq k b hb cb qb, Option.bind_some]
    cases pb : ordP b with
    | false => rfl
    | true =>
      simp only [Bool.and_self, if_true]
      rw [odCmp_eq k a b qa qb ha ca]; rfl
/-! ### the same -/
theorem same_loop {rec_ : Rw → Rw → Option Bool} {a : T} (hr : ∀ e : T, e.size < a.size → rec_ e.rows e.rows = some true) : ∀ (t : T) (i : Nat), drop a i = t → laws_sameOrdinal_l0 rec_ a.rows a.rows (some true) t.rows i = some true
  | nil, i, _ => rfl
  | cons e c l, i, hd => by
    have hs := drop_cons_size hd
    simp only [rows, laws_sameOrdinal_l0, cell_T]
    rw [row_T rfl hd, if_pos rfl, hr e (by omega), Option.bind_some, if_pos rfl]
    exact same_loop hr l (i + 1) (drop_succ hd)
theorem same_refl : ∀ (k : Nat) (a : T), a.size < k → a.size ≤ cap → laws_sameOrdinal k a.rows a.rows = some true
  | 0, _, h, _ => absurd h (Nat.not_lt_zero _)
  | k + 1, a, h, hc => by
    have := a.len_size
    simp only [laws_sameOrdinal, laws_sameOrdinal_b]
    rw [if_pos trivial, if_pos (by rw [rows_len]; omega)]
    exact same_loop (fun e he => same_refl k e (by omega) (by omega)) a 0 (drop_zero a)
end Go.Proofs.Try
