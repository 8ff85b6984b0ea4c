/- Pure: limits, what is before, fundamental sequences. -/
import Derived.Test.YtfbphnkfddgihaaOrdAll
namespace Go.Proofs.Try
open Go Go.AX T
def lastE : T → T
  | nil => nil
  | cons e _ nil => e
  | cons _ _ (cons f d m) => lastE (cons f d m)
def befT : T → T
  | nil => nil
  | cons e c nil => if 1 < c then cons e (w (c - 1)) nil else nil
  | cons e c (cons f d m) => cons e c (befT (cons f d m))
def limT (t : T) : Bool := match lastE t with
  | nil => false
  | cons _ _ _ => true
def powT (e : T) (n : Int) : T := if n = 0 then nil else cons e n nil
def fund : Nat → Int → T → T
  | 0, _, _ => nil
  | k + 1, n, a => plusT (befT a) (cond (limT (lastE a)) (powT (fund k n (lastE a)) 1) (powT (befT (lastE a)) n))
theorem lastE_snoc (l e : T) (c : Int) : lastE (app l (cons e c nil)) = e := by
  induction l with
  | nil => rfl
  | cons x d m _ ih =>
    cases m with
    | nil => rfl
    | cons y g r => simp only [app, lastE] at ih ⊢; exact ih
theorem befT_snoc (l e : T) (c : Int) : befT (app l (cons e c nil)) = app l (if 1 < c then cons e (w (c - 1)) nil else nil) := by
  induction l with
  | nil => simp only [app, befT]
  | cons x d m _ ih =>
    cases m with
    | nil => simp only [app, befT]
    | cons y g r => simp only [app, befT] at ih ⊢; rw [ih]
theorem form_snoc {p : Option T} {l e : T} {c : Int} (h : formA p (app l (cons e c nil)) = true) : 1 ≤ c ∧ c ≤ 1000000 ∧ formA none e = true := by
  induction l generalizing p with
  | nil =>
    simp only [app, formA, Bool.and_eq_true, decide_eq_true_eq] at h
    exact ⟨h.1.1.1.1, h.1.1.1.2, h.1.1.2⟩
  | cons x d m _ ih =>
    simp only [app, formA, Bool.and_eq_true] at h
    exact ih h.2
theorem falls_app {p : Option T} {l x : T} (h : falls p (app l x)) : falls p l := by
  induction l generalizing p with
  | nil => cases p <;> trivial
  | cons y d m _ ih => exact ⟨h.1, ih h.2⟩
theorem falls_gt {x l e : T} {c : Int} (h : falls (some x) (app l (cons e c nil))) : 0 < cmpT x e := by
  induction l generalizing x with
  | nil => exact h.1 x rfl
  | cons y d m _ ih => exact cmp_lt_of (h.1 x rfl) (by have := ih h.2; rcases cmpT_range y e with q | q | q <;> omega)
theorem goP_end {l e m : T} {c d : Int} {p : Option T} (h : falls p (app l (cons e c nil))) : goP l e d m = app l (cons e d m) := by
  induction l generalizing p with
  | nil => rfl
  | cons y g r _ ih =>
    have := falls_gt h.2
    have r1 := cmpT_range y e
    simp only [goP, app]
    rw [if_pos (by omega), ih h.2]
theorem falls_bef {p : Option T} {l e : T} {c d : Int} (h : falls p (app l (cons e c nil))) : falls p (app l (cons e d nil)) := by
  induction l generalizing p with
  | nil => exact ⟨h.1, trivial⟩
  | cons y g r _ ih => exact ⟨h.1, ih h.2⟩
theorem app_nil (a : T) : app a nil = a := by
  induction a with
  | nil => rfl
  | cons e c l _ ih => simp only [app, ih]
theorem befT_falls {p : Option T} {a : T} (h : falls p a) : falls p (befT a) := by
  rcases T.snoc a with rfl | ⟨l, e, c, rfl⟩
  · exact h
  · rw [befT_snoc]
    split
    · exact falls_bef h
    · rw [app_nil]; exact falls_app h
theorem befT_size (a : T) : (befT a).size ≤ a.size := by
  rcases T.snoc a with rfl | ⟨l, e, c, rfl⟩
  · simp [befT]
  · rw [befT_snoc]
    split <;> simp [size_app, size]
theorem befT_sm {B : Int} {a : T} (h : sm B a) (hB : B ≤ 1000000000000) : sm B (befT a) := by
  rcases T.snoc a with rfl | ⟨l, e, c, rfl⟩
  · exact h
  · rw [befT_snoc]
    obtain ⟨h1, h2, h3, _⟩ := sm_app.1 h
    split
    · refine sm_app.2 ⟨h1, h2, ?_, trivial⟩
      rw [show w (c - 1) = c - 1 from wid (by omega) (by omega)]; omega
    · exact sm_app.2 ⟨h1, trivial⟩
theorem lastE_size {a : T} (h : a ≠ nil) : (lastE a).size + 1 ≤ a.size := by
  rcases T.snoc a with rfl | ⟨l, e, c, rfl⟩
  · exact absurd rfl h
  · rw [lastE_snoc, size_app]; simp only [size]; omega
/-! ### the program's own -/
def zer (t : T) : Bool := match t with
  | nil => true
  | cons _ _ _ => false
theorem isZ (t : T) : impl_isZero t.rows = some (zer t) := by rw [impl_isZero_eq]; cases t <;> rfl
theorem odZ (t : T) : spec_odZero t.rows = some (zer t) := by
  unfold spec_odZero
  cases t with
  | nil => rfl
  | cons e c l =>
    rw [if_neg (by rw [lenI]; simp only [len]; omega)]; rfl
theorem snocLen (l e : T) (c : Int) : (app l (cons e c nil)).len = l.len + 1 := by rw [len_app]; rfl
theorem lastI {l e : T} {c : Int} (h : l.len ≤ cap) : IntKind.i64.wrap (((app l (cons e c nil)).rows.length : Int) - 1) = (l.len : Int) := by
  have h3 : cap = 1099511627776 := rfl
  rw [lenI, snocLen, wid (by omega) (by omega)]; omega
theorem takeS (l e : T) (c : Int) : (app l (cons e c nil)).rows.take (l.len : Int).toNat = l.rows := by
  rw [Int.toNat_natCast, rows_app, ← rows_len l]; exact List.take_left
theorem nilI : IntKind.i64.wrap (((nil : T).rows.length : Int) - 1) = -1 := by rw [lenI]; simp only [len]; exact wid (by omega) (by omega)
theorem parted_snoc {l e : T} {c : Int} (h : l.len ≤ cap) : impl_parted (app l (cons e c nil)).rows = some (cond (zer e) (l.rows, c) ((app l (cons e c nil)).rows, 0)) := by
  unfold impl_parted
  rw [lastI h, if_pos (by omega), row_T rfl (snoc_last l e c), isZ, Option.bind_some]
  cases zer e with
  | false => rfl
  | true => rw [if_pos rfl, if_pos ⟨by omega, by rw [lenI, snocLen]; omega, rowsWide _⟩, takeS]; rfl
theorem finite_snoc {l e : T} {c : Int} (h : l.len ≤ cap) : spec_odFinite (app l (cons e c nil)).rows = some (cond (zer e) (c, l.rows) (0, (app l (cons e c nil)).rows)) := by
  unfold spec_odFinite
  rw [lastI h, if_pos (by omega), row_T rfl (snoc_last l e c), odZ, Option.bind_some]
  cases zer e with
  | false => rfl
  | true => rw [if_pos rfl, if_pos ⟨by omega, by rw [lenI, snocLen]; omega, rowsWide _⟩, takeS]; rfl
theorem zer_snoc (l e : T) (c : Int) : zer (app l (cons e c nil)) = false := by cases l <;> rfl
theorem isLimit_eq {a : T} (h : a.len ≤ cap) (hf : formA none a = true) : impl_isLimit a.rows = some (limT a) := by
  unfold impl_isLimit
  rcases T.snoc a with rfl | ⟨l, e, c, rfl⟩
  · unfold impl_parted; rw [nilI, if_neg (by omega)]; rfl
  · rw [snocLen] at h
    have hc := form_snoc hf
    rw [parted_snoc (by omega), Option.bind_some, isZ, Option.bind_some, zer_snoc, if_neg (by decide)]
    unfold limT
    rw [lastE_snoc]
    cases e with
    | nil => show (if c = 0 then some true else some false) = some false; exact if_neg (by omega)
    | cons x y z => rfl
theorem odLimit_eq {a : T} (h : a.len ≤ cap) (hf : formA none a = true) : spec_odLimit a.rows = some (limT a) := by
  unfold spec_odLimit
  rcases T.snoc a with rfl | ⟨l, e, c, rfl⟩
  · unfold spec_odFinite; rw [nilI, if_neg (by omega)]; rfl
  · rw [snocLen] at h
    have hc := form_snoc hf
    rw [finite_snoc (by omega), Option.bind_some, odZ, Option.bind_some, zer_snoc, if_neg (by decide)]
    unfold limT
    rw [lastE_snoc]
    cases e with
    | nil => show (if c = 0 then some true else some false) = some false; exact if_neg (by omega)
    | cons x y z => rfl
theorem odBefore_eq {a : T} (hz : a ≠ nil) (h : a.len < cap) : spec_odBefore a.rows = some (befT a).rows := by
  rcases T.snoc a with rfl | ⟨l, e, c, rfl⟩
  · exact absurd rfl hz
  · rw [snocLen] at h
    unfold spec_odBefore
    rw [lastI (by omega), row_T rfl (snoc_last l e c), if_pos ⟨by omega, by rw [lenI, snocLen]; omega, rowsWide _⟩, takeS, if_pos ⟨by rw [rows_len]; omega, rowsWide _⟩, befT_snoc]
    by_cases g : 1 < c
    · rw [if_pos g, if_pos g, if_pos (by rw [List.nil_append, rows_len]; omega), List.nil_append, snocRows]
    · rw [if_neg g, if_neg g, app_nil, List.nil_append]
theorem before_eq {k : Nat} {a : T} (hz : a ≠ nil) (hl : limT a = false) (hk : a.size + 1 < k) (hc : a.size + 2 ≤ cap) (hf : formA none a = true) : impl_before k a.rows = some (befT a).rows := by
  have h3 : cap = 1099511627776 := rfl
  rcases T.snoc a with rfl | ⟨l, e, c, rfl⟩
  · exact absurd rfl hz
  · have hcc := form_snoc hf
    have hfa := form_falls hf
    have hs : (app l (cons e c nil)).size = l.size + e.size + 1 := by rw [size_app]; simp only [size]; omega
    rw [hs] at hk hc
    have hll := l.len_size
    unfold limT at hl
    rw [lastE_snoc] at hl
    cases e with
    | cons x y z => cases hl
    | nil =>
      unfold impl_before
      rw [parted_snoc (by omega), Option.bind_some]
      simp only [zer, cond]
      have e1 : IntKind.i64.wrap (c - 1) = c - 1 := wid (by omega) (by omega)
      have e2 : impl_finite (IntKind.i64.wrap (c - 1)) = some (intT (c - 1)).rows := by
        rw [e1]; unfold impl_finite intT
        by_cases q : c - 1 = 0
        · rw [if_pos q, if_pos q]; rfl
        · rw [if_neg q, if_neg q]; rfl
      have z := intT_size (c - 1)
      rw [e2, Option.bind_some, plus_eq k l _ (by omega) (by omega), Option.bind_some, befT_snoc]
      by_cases g : 1 < c
      · have : intT (c - 1) = cons nil (w (c - 1)) nil := by
          show intT (c - 1) = cons nil (IntKind.i64.wrap (c - 1)) nil
          rw [e1]; unfold intT; rw [if_neg (by omega)]
        rw [this, if_pos g]
        show some (goP l nil (w (c - 1)) nil).rows = _
        rw [goP_end hfa]
      · have : intT (c - 1) = nil := by unfold intT; rw [if_pos (by omega)]
        rw [this, if_neg g, app_nil]
        cases l <;> rfl
theorem power_eq (e : T) (n : Int) : impl_power e.rows n = some (powT e n).rows := by
  unfold impl_power powT
  by_cases h : n = 0
  · rw [if_pos h, if_pos h]; rfl
  · rw [if_neg h, if_neg h]; rfl
theorem odTerm_eq (e : T) (n : Int) : spec_odTerm e.rows n = some (powT e n).rows := by
  unfold spec_odTerm powT
  by_cases h : n = 0
  · rw [if_pos h, if_pos h]; rfl
  · rw [if_neg h, if_neg h]; rfl
theorem powT_size (e : T) (n : Int) : (powT e n).size ≤ e.size + 1 := by unfold powT; split <;> simp [size]
theorem powT_falls (e : T) (n : Int) : falls none (powT e n) := by
  unfold powT; split
  · trivial
  · exact ⟨fun q hq => (by cases hq), trivial⟩
theorem powT_sm {B : Int} {e : T} {n : Int} (h : sm B e) (hn : -B ≤ n ∧ n ≤ B) : sm B (powT e n) := by
  unfold powT; split
  · trivial
  · exact ⟨h, hn, trivial⟩

/-! ### elements of fundamental sequences -/
theorem fund_size : ∀ (k : Nat) (n : Int) (a : T), (fund k n a).size ≤ (a.size + 1) * (a.size + 1)
  | 0, _, _ => Nat.zero_le _
  | k + 1, n, a => by
    have h1 := befT_size a
    by_cases hz : a = nil
    · subst hz
      have : (fund (k + 1) n nil).size ≤ 1 := by
        simp only [fund, limT, lastE, cond, befT]
        have := plusT_size nil (powT nil n)
        have := powT_size nil n
        simp only [size] at *; omega
      simpa [size] using this
    · have h2 := lastE_size hz
      have e : (a.size + 1) * (a.size + 1) = a.size * a.size + 2 * a.size + 1 := by rw [Nat.add_mul, Nat.mul_add]; omega
      rw [e]
      simp only [fund]
      generalize lastE a = x at *
      have m : (x.size + 1) * (x.size + 1) ≤ a.size * a.size := Nat.mul_le_mul h2 h2
      have ih := fund_size k n x
      have b := befT_size x
      cases limT x with
      | true =>
        simp only [cond]
        have := plusT_size (befT a) (powT (fund k n x) 1)
        have := powT_size (fund k n x) 1
        omega
      | false =>
        simp only [cond]
        have := plusT_size (befT a) (powT (befT x) n)
        have := powT_size (befT x) n
        omega
theorem fund_sm (n : Int) (hn : 0 ≤ n ∧ n ≤ 1000) : ∀ (k : Nat) (a : T), sm 1000000 a → a.size ≤ 100 → sm (1000000 * ((a.size : Int) + 1)) (fund k n a)
  | 0, _, _, _ => trivial
  | k + 1, a, ha, hs => by
    have hb := befT_sm ha (by omega)
    by_cases hz : a = nil
    · subst hz
      simp only [fund, limT, lastE, cond, befT]
      have : sm 1000000 (powT (nil : T) n) := powT_sm trivial (by omega)
      have := plusT_sm (a := nil) (B := 0) trivial this (by omega)
      exact sm_mono this (by simp [size])
    · have h2 := lastE_size hz
      have hx : sm 1000000 (lastE a) := by
        rcases T.snoc a with rfl | ⟨l, e, c, rfl⟩
        · exact absurd rfl hz
        · rw [lastE_snoc]; exact (sm_app.1 ha).2.1
      simp only [fund]
      generalize lastE a = x at *
      have ih := fund_sm n hn k x hx (by omega)
      have b := befT_sm hx (by omega)
      cases limT x with
      | true =>
        simp only [cond]
        exact sm_mono (plusT_sm hb (powT_sm (n := 1) ih (by omega)) (by omega)) (by omega)
      | false =>
        simp only [cond]
        exact sm_mono (plusT_sm hb (powT_sm (B := 1000000) (n := n) b (by omega)) (by omega)) (by omega)
theorem lim_ne {a : T} (h : limT a = true) : a ≠ nil ∧ lastE a ≠ nil := by
  unfold limT at h
  refine ⟨?_, ?_⟩
  · rintro rfl; cases h
  · intro e; rw [e] at h; cases h
theorem form_lastE {a : T} (h : formA none a = true) : formA none (lastE a) = true := by
  rcases T.snoc a with rfl | ⟨l, e, c, rfl⟩
  · rfl
  · rw [lastE_snoc]; exact (form_snoc h).2.2
theorem clone_rows (t : T) (h : t.len ≤ cap) : slices_Clone t.rows = some t.rows := by
  unfold slices_Clone nilD
  have h2 := rowsWide t
  rw [if_pos ⟨by omega, h2⟩]
  have e : (if t.rows.length ≤ cap ∧ (∀ cs ∈ t.rows, cs.length = 2) then some ([] ++ t.rows : Rw) else none) = some t.rows := by
    rw [if_pos ⟨by rw [rows_len]; exact h, h2⟩, List.nil_append]
  rw [e]
  by_cases q : t.rows = []
  · rw [if_pos q, q, if_pos rfl]
  · rw [if_neg q]
theorem fundamental_eq (n : Int) (hn : 0 ≤ n ∧ n ≤ 1000) : ∀ (k : Nat) (a : T), limT a = true → formA none a = true → a.size ≤ 100 → 20000 + a.size < k → impl_fundamental k a.rows n = some (fund k n a).rows
  | 0, _, _, _, _, h => absurd h (Nat.not_lt_zero _)
  | k + 1, a, hl, hf, hs, hk => by
    have h3 : cap = 1099511627776 := rfl
    obtain ⟨hz, hx⟩ := lim_ne hl
    have h2 := lastE_size hz
    have fx := form_lastE hf
    have ff := fund_size k n (lastE a)
    have m : ((lastE a).size + 1) * ((lastE a).size + 1) ≤ 101 * 101 := Nat.mul_le_mul (by omega) (by omega)
    have hbs := befT_size a
    have hbx := befT_size (lastE a)
    have hal := a.len_size
    simp only [impl_fundamental, impl_fundamental_b, fund]
    have ih := fundamental_eq n hn k (lastE a)
    have il := isLimit_eq (a := lastE a) (by have := (lastE a).len_size; omega) fx
    have bx : limT (lastE a) = false → impl_before k (lastE a).rows = some (befT (lastE a)).rows := fun q => before_eq hx q (by omega) (by omega) fx
    have p1 := powT_size (fund k n (lastE a)) 1
    have p2 := powT_size (befT (lastE a)) n
    rcases T.snoc a with rfl | ⟨l, e, c, rfl⟩
    · exact absurd rfl hz
    · rw [snocLen] at hal
      have hcc := form_snoc hf
      have hsz : (app l (cons e c nil)).size = l.size + e.size + 1 := by rw [size_app]; simp only [size]; omega
      rw [lastI (by omega), row_T rfl (snoc_last l e c), if_pos ⟨by omega, by rw [lenI, snocLen]; omega, rowsWide _⟩, takeS, clone_rows l (by omega), Option.bind_some]
      rw [befT_snoc] at hbs ⊢
      rw [lastE_snoc] at *
      have fin : ∀ o : T, o.size ≤ 101 → (((impl_isLimit e.rows).bind fun y => if y = true then (impl_fundamental k e.rows n).bind fun y2 => (impl_power y2 1).bind fun y3 => (impl_plus k o.rows y3).bind fun y4 => some y4 else (impl_before k e.rows).bind fun y5 => (impl_power y5 n).bind fun y6 => (impl_plus k o.rows y6).bind fun y7 => some y7) = some (plusT o (cond (limT e) (powT (fund k n e) 1) (powT (befT e) n))).rows) := by
        intro o ho
        rw [il, Option.bind_some]
        cases q : limT e with
        | true =>
          rw [if_pos rfl, ih q fx (by omega) (by omega), Option.bind_some, power_eq, Option.bind_some, plus_eq k o _ (by omega) (by omega)]; rfl
        | false =>
          rw [if_neg (by decide), bx q, Option.bind_some, power_eq, Option.bind_some, plus_eq k o _ (by omega) (by omega)]; rfl
      unfold impl_fundamental_p4
      by_cases g : 1 < c
      · rw [if_pos g, if_pos (by rw [rows_len]; omega), snocRows]
        rw [if_pos g] at hbs
        rw [if_pos g]
        exact fin (app l (cons e (w (c - 1)) nil)) (by omega)
      · rw [if_neg g]
        rw [if_neg g, app_nil] at hbs
        rw [if_neg g, app_nil]
        exact fin _ (by omega)
theorem odAt_eq (n : Int) (hn : 0 ≤ n ∧ n ≤ 1000) : ∀ (k : Nat) (a : T), limT a = true → formA none a = true → a.size ≤ 100 → 20000 + a.size < k → spec_odAt k a.rows n = some (fund k n a).rows
  | 0, _, _, _, _, h => absurd h (Nat.not_lt_zero _)
  | k + 1, a, hl, hf, hs, hk => by
    have h3 : cap = 1099511627776 := rfl
    obtain ⟨hz, hx⟩ := lim_ne hl
    have h2 := lastE_size hz
    have fx := form_lastE hf
    have ff := fund_size k n (lastE a)
    have m : ((lastE a).size + 1) * ((lastE a).size + 1) ≤ 101 * 101 := Nat.mul_le_mul (by omega) (by omega)
    have hbs := befT_size a
    have hbx := befT_size (lastE a)
    have hal := a.len_size
    have hxl := (lastE a).len_size
    simp only [spec_odAt, spec_odAt_b, fund]
    have ih := odAt_eq n hn k (lastE a)
    have il := odLimit_eq (a := lastE a) (by omega) fx
    have bx := odBefore_eq (a := lastE a) hx (by omega)
    have ba := odBefore_eq (a := a) hz (by omega)
    have p1 := powT_size (fund k n (lastE a)) 1
    have p2 := powT_size (befT (lastE a)) n
    have sa := form_sm hf
    have sx := form_sm fx
    have sba := befT_sm sa (by omega)
    have sbx := befT_sm sx (by omega)
    have sf := fund_sm n hn k (lastE a) sx (by omega)
    have fb := befT_falls (form_falls hf)
    have hlast : ∀ {α : Type} (K : Rw → Int → Option α), ∃ c, row_si a.rows (IntKind.i64.wrap ((a.rows.length : Int) - 1)) K = K (lastE a).rows c := by
      intro α K
      rcases T.snoc a with rfl | ⟨l, e, c, rfl⟩
      · exact absurd rfl hz
      · rw [snocLen] at hal
        rw [lastI (by omega), row_T rfl (snoc_last l e c), lastE_snoc]; exact ⟨c, rfl⟩
    obtain ⟨c, hc⟩ := hlast (fun x3 x4 => ((spec_odLimit x3).bind fun y7 => (if y7 = true then ((spec_odBefore a.rows).bind fun y10 => ((spec_odAt k x3 n).bind fun y12 => ((spec_odTerm y12 1).bind fun y14 => ((spec_odPlus k y10 y14).bind fun y16 => some y16)))) else ((spec_odBefore a.rows).bind fun y18 => ((spec_odBefore x3).bind fun y20 => ((spec_odTerm y20 n).bind fun y22 => ((spec_odPlus k y18 y22).bind fun y24 => some y24)))))))
    rw [hc, il, Option.bind_some]
    have pl : ∀ (B : Int) (x : T) (i : Int), 0 ≤ B → B ≤ 1000000000 → sm B (powT x i) → (powT x i).size ≤ 11000 → spec_odPlus k (befT a).rows (powT x i).rows = some (plusT (befT a) (powT x i)).rows := by
      intro B x i hB hB2 sp zp
      have hlen : (powT x i).len ≤ 1 := by unfold powT; split <;> simp [len]
      have hm : B * ((powT x i).len : Int) ≤ B := by
        have : B * ((powT x i).len : Int) ≤ B * 1 := Int.mul_le_mul_of_nonneg_left (by omega) hB
        omega
      rw [odPlus_eq (B := B) (C := 1000000) k _ _ (by omega) (by omega) sba sp hB (by omega) (by omega), splus_plus fb (powT_falls x i)]
    cases q : limT (lastE a) with
    | true =>
      rw [if_pos rfl, ba, Option.bind_some, ih q fx (by omega) (by omega), Option.bind_some, odTerm_eq, Option.bind_some, pl (1000000 * (((lastE a).size : Int) + 1)) _ _ (by omega) (by omega) (powT_sm sf (by omega)) (by omega)]; rfl
    | false =>
      rw [if_neg (by decide), ba, Option.bind_some, bx, Option.bind_some, odTerm_eq, Option.bind_some, pl 1000000 _ _ (by omega) (by omega) (powT_sm sbx (by omega)) (by omega)]; rfl
end Go.Proofs.Try
