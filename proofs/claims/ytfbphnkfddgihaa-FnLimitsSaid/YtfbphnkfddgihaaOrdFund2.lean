/- Pure: elements of fundamental sequences are less, and grow. -/
import Derived.Test.YtfbphnkfddgihaaOrdFund
namespace Go.Proofs.Try
open Go Go.AX T
theorem cmp_app (p x y : T) : cmpT (app p x) (app p y) = cmpT x y := by
  induction p with
  | nil => rfl
  | cons e c l _ ih => simp only [app, cmpT, cmpT_refl, cmpI_refl, if_true, ih]
theorem goP_above {a x m : T} {d : Int} (h : falls none a) (hx : a ≠ nil → 0 < cmpT (lastE a) x) : goP a x d m = app a (cons x d m) := by
  rcases T.snoc a with rfl | ⟨l, e, c, rfl⟩
  · rfl
  · have hx := hx (by cases l <;> simp [app])
    rw [lastE_snoc] at hx
    have key : ∀ (l : T) (p : Option T), falls p (app l (cons e c nil)) → goP (app l (cons e c nil)) x d m = app (app l (cons e c nil)) (cons x d m) := by
      intro l
      induction l with
      | nil =>
        intro p _
        have r := cmpT_range e x
        simp only [app, goP]
        rw [if_pos (by omega)]
      | cons y g q _ ih =>
        intro p hp
        have h1 := falls_gt hp.2
        have r := cmpT_range e x
        have h2 := cmp_lt_of h1 (show cmpT e x = 1 ∨ cmpT e x = 0 by omega)
        have r2 := cmpT_range y x
        simp only [app, goP]
        rw [if_pos (by omega), ih _ hp.2]
    exact key l none h
theorem bef_lt {a : T} (h : a ≠ nil) (hf : formA none a = true) : cmpT (befT a) a < 0 := by
  rcases T.snoc a with rfl | ⟨l, e, c, rfl⟩
  · exact absurd rfl h
  · have hc := form_snoc hf
    rw [befT_snoc, cmp_app]
    by_cases g : 1 < c
    · have e1 : w (c - 1) = c - 1 := wid (by omega) (by omega)
      have e2 : cmpI (c - 1) c = -1 := by unfold cmpI; rw [if_pos (by omega)]
      rw [if_pos g, e1]
      simp only [cmpT, cmpT_refl, e2]
      decide
    · rw [if_neg g]; simp [cmpT]
/-- The exponent of what is added. -/
def fexp (k : Nat) (n : Int) (a : T) : T := cond (limT (lastE a)) (fund k n (lastE a)) (befT (lastE a))
def fcoe (n : Int) (a : T) : Int := cond (limT (lastE a)) 1 n
theorem fund_step (k : Nat) (n : Int) (a : T) : fund (k + 1) n a = plusT (befT a) (powT (fexp k n a) (fcoe n a)) := by
  simp only [fund, fexp, fcoe]
  cases limT (lastE a) <;> rfl
/-- Behind what is before a limit, less than its last term. -/
theorem plus_pow {a x : T} {d : Int} (hf : formA none a = true) (hx : cmpT x (lastE a) < 0) : plusT (befT a) (powT x d) = app (befT a) (powT x d) := by
  unfold powT
  by_cases h : d = 0
  · rw [if_pos h, app_nil]; cases befT a <;> rfl
  · rw [if_neg h]
    show goP (befT a) x d nil = _
    have hfa := form_falls hf
    refine goP_above (befT_falls hfa) fun hb => ?_
    rcases T.snoc a with rfl | ⟨l, e, c, rfl⟩
    · exact absurd rfl hb
    · rw [lastE_snoc] at hx
      rw [befT_snoc] at hb ⊢
      have q := cmpT_neg x e
      by_cases g : 1 < c
      · rw [if_pos g, lastE_snoc]; omega
      · rw [if_neg g, app_nil] at hb ⊢
        rcases T.snoc l with rfl | ⟨l', e', c', rfl⟩
        · exact absurd rfl hb
        · rw [lastE_snoc]
          have key : ∀ (l : T) (p : Option T), falls p (app (app l (cons e' c' nil)) (cons e c nil)) → 0 < cmpT e' e := by
            intro l
            induction l with
            | nil => intro p hp; exact hp.2.1 e' rfl
            | cons y g r _ ih => intro p hp; exact ih _ hp.2
          have h1 := key l' none hfa
          have r := cmpT_range e x
          exact cmp_lt_of h1 (by omega)
theorem app_lt {a y : T} (hz : a ≠ nil) (hf : formA none a = true) (hy : y = nil ∨ ∃ x d, y = cons x d nil ∧ cmpT x (lastE a) < 0) : cmpT (app (befT a) y) a < 0 := by
  rcases T.snoc a with rfl | ⟨l, e, c, rfl⟩
  · exact absurd rfl hz
  · have hc := form_snoc hf
    rw [lastE_snoc] at hy
    rw [befT_snoc, app_assoc, cmp_app]
    by_cases g : 1 < c
    · have e1 : w (c - 1) = c - 1 := wid (by omega) (by omega)
      have e2 : cmpI (c - 1) c = -1 := by unfold cmpI; rw [if_pos (by omega)]
      rw [if_pos g, e1]
      simp only [app, cmpT, cmpT_refl, e2]
      simp
    · rw [if_neg g]
      rcases hy with rfl | ⟨x, d, rfl, hx⟩
      · simp [app, cmpT]
      · simp only [app, cmpT]
        rw [if_neg (by omega)]; exact hx
theorem fund_lt (n : Int) : ∀ (k : Nat) (a : T), limT a = true → formA none a = true → a.size < k → cmpT (fund k n a) a < 0 ∧ fund k n a = app (befT a) (powT (fexp (k - 1) n a) (fcoe n a))
  | 0, _, _, _, h => absurd h (Nat.not_lt_zero _)
  | k + 1, a, hl, hf, hk => by
    obtain ⟨hz, hx⟩ := lim_ne hl
    have h2 := lastE_size hz
    have fx := form_lastE hf
    have lt : cmpT (fexp k n a) (lastE a) < 0 := by
      unfold fexp
      cases q : limT (lastE a) with
      | true => exact (fund_lt n k (lastE a) q fx (by omega)).1
      | false => exact bef_lt hx fx
    rw [fund_step, plus_pow hf lt]
    refine ⟨app_lt hz hf ?_, rfl⟩
    unfold powT
    split
    · exact Or.inl rfl
    · exact Or.inr ⟨_, _, rfl, lt⟩
theorem fund_mono (n : Int) (hn : 0 ≤ n ∧ n < 1000) : ∀ (k : Nat) (a : T), limT a = true → formA none a = true → a.size < k → cmpT (fund k n a) (fund k (n + 1) a) < 0
  | 0, _, _, _, h => absurd h (Nat.not_lt_zero _)
  | k + 1, a, hl, hf, hk => by
    obtain ⟨hz, hx⟩ := lim_ne hl
    have h2 := lastE_size hz
    have fx := form_lastE hf
    rw [(fund_lt n (k + 1) a hl hf hk).2, (fund_lt (n + 1) (k + 1) a hl hf hk).2, cmp_app]
    simp only [Nat.add_sub_cancel]
    unfold fexp fcoe powT
    cases q : limT (lastE a) with
    | true =>
      have ih := fund_mono n hn k (lastE a) q fx (by omega)
      simp only [cond]
      rw [if_neg (by decide), if_neg (by decide)]
      simp only [cmpT]
      rw [if_neg (by omega)]; exact ih
    | false =>
      simp only [cond]
      rw [if_neg (show ¬ n + 1 = 0 by omega)]
      by_cases g : n = 0
      · rw [if_pos g]; simp [cmpT]
      · rw [if_neg g]
        have e2 : cmpI n (n + 1) = -1 := by unfold cmpI; rw [if_pos (by omega)]
        simp only [cmpT, cmpT_refl, e2]
        decide
/-- A predecessor and one. -/
theorem bef_one {a : T} (hz : a ≠ nil) (hl : limT a = false) (hf : formA none a = true) : plusT (befT a) (cons nil 1 nil) = a := by
  rcases T.snoc a with rfl | ⟨l, e, c, rfl⟩
  · exact absurd rfl hz
  · have hc := form_snoc hf
    have hfa := form_falls hf
    unfold limT at hl
    rw [lastE_snoc] at hl
    cases e with
    | cons x y z => cases hl
    | nil =>
      rw [befT_snoc]
      show goP _ nil 1 nil = _
      by_cases g : 1 < c
      · have e1 : w (c - 1) = c - 1 := wid (by omega) (by omega)
        have e2 : w (c - 1 + 1) = c := by rw [show w (c - 1 + 1) = c - 1 + 1 from wid (by omega) (by omega)]; omega
        rw [if_pos g, e1]
        have key : ∀ (l : T) (p : Option T), falls p (app l (cons nil c nil)) → goP (app l (cons nil (c - 1) nil)) nil 1 nil = app l (cons nil c nil) := by
          intro l
          induction l with
          | nil => intro p _; simp only [app, goP, cmpT]; rw [if_neg (by decide), if_pos True.intro, e2]
          | cons y g r _ ih =>
            intro p hp
            have h1 := falls_gt hp.2
            have r2 := cmpT_range y nil
            simp only [app, goP]
            rw [if_pos (by omega), ih _ hp.2]
        exact key l none hfa
      · have : c = 1 := by omega
        subst this
        rw [if_neg g, app_nil, goP_end hfa]
end Go.Proofs.Try
