/- Pure: spec's sum; a term added naturally. -/
import Derived.Test.YtfbphnkfddgihaaOrdPlus
namespace Go.Proofs.Try
open Go Go.AX T
/-- Without the terms at the end that are less than w^e. -/
def popT : T → T → T
  | nil, _ => nil
  | cons x c l, e => match popT l e with
    | nil => if cmpT x e < 0 then nil else cons x c nil
    | cons y d m => cons x c (cons y d m)
/-- A term added at the end. -/
def addL : T → T → Int → T
  | nil, e, d => cons e d nil
  | cons x c l, e, d => match l with
    | nil => if cmpT x e = 0 then cons x (w (c + d)) nil else cons x c (cons e d nil)
    | cons _ _ _ => cons x c (addL l e d)
def splus : T → T → T
  | a, nil => a
  | a, cons f d m => splus (addL (popT a f) f d) m
theorem popT_snoc (l x : T) (c : Int) (e : T) : popT (app l (cons x c nil)) e = if cmpT x e < 0 then popT l e else app l (cons x c nil) := by
  induction l with
  | nil => simp [app, popT]
  | cons y d l _ ih =>
    by_cases h : cmpT x e < 0
    · rw [if_pos h] at ih ⊢
      simp only [app, popT]
      rw [ih]
    · rw [if_neg h] at ih ⊢
      simp only [app, popT]
      rw [ih]
      cases l <;> simp [app]
theorem addL_snoc (l x : T) (c : Int) (e : T) (d : Int) : addL (app l (cons x c nil)) e d = if cmpT x e = 0 then app l (cons x (w (c + d)) nil) else app (app l (cons x c nil)) (cons e d nil) := by
  induction l with
  | nil => simp only [app, addL]
  | cons y k l _ ih =>
    have : app l (cons x c nil) ≠ nil := by cases l <;> simp [app]
    simp only [app, addL]
    split
    · rename_i h; exact absurd h this
    · rename_i h
      rw [ih]
      split <;> rfl
theorem popT_size (a e : T) : (popT a e).size ≤ a.size := by
  induction a with
  | nil => simp [popT, size]
  | cons x c l _ ih =>
    simp only [popT]
    split
    · split <;> simp [size]
    · rename_i h; rw [h] at ih; simp only [size] at ih ⊢; omega
theorem addL_size (a e : T) (d : Int) : (addL a e d).size ≤ a.size + e.size + 1 := by
  induction a with
  | nil => simp [addL, size]
  | cons x c l _ ih =>
    simp only [addL]
    split
    · split <;> simp [size] <;> omega
    · simp only [size] at ih ⊢; omega
theorem splus_size (a b : T) : (splus a b).size ≤ a.size + b.size := by
  induction b generalizing a with
  | nil => simp [splus, size]
  | cons f d m _ ih =>
    have h1 := ih (addL (popT a f) f d)
    have h2 := addL_size (popT a f) f d
    have h3 := popT_size a f
    simp only [splus, size] at *; omega
/-- Coefficients within a bound. -/
def sm (B : Int) : T → Prop
  | nil => True
  | cons e c l => sm B e ∧ (-B ≤ c ∧ c ≤ B) ∧ sm B l
theorem sm_calm {B : Int} {t : T} (h : sm B t) (hB : B ≤ 1000000000000000) : calm t := by
  induction t with
  | nil => trivial
  | cons e c l ihe ihl => exact ⟨ihe h.1, by have := h.2.1; omega, ihl h.2.2⟩
theorem sm_mono {B C : Int} {t : T} (h : sm B t) (hB : B ≤ C) : sm C t := by
  induction t with
  | nil => trivial
  | cons e c l ihe ihl => exact ⟨ihe h.1, by have := h.2.1; omega, ihl h.2.2⟩
theorem sm_app {B : Int} {a b : T} : sm B (app a b) ↔ sm B a ∧ sm B b := by
  induction a with
  | nil => simp [app, sm]
  | cons e c l _ ih => simp only [app, sm, ih, and_assoc]
theorem sm_pop {B : Int} {a e : T} (h : sm B a) : sm B (popT a e) := by
  induction a with
  | nil => trivial
  | cons x c l _ ih =>
    have ih := ih h.2.2
    simp only [popT]
    split
    · split
      · trivial
      · exact ⟨h.1, h.2.1, trivial⟩
    · rename_i hq; rw [hq] at ih; exact ⟨h.1, h.2.1, ih⟩
theorem sm_addL {B C : Int} {a e : T} {d : Int} (h : sm B a) (he : sm C e) (hd : -C ≤ d ∧ d ≤ C) (hB : 0 ≤ B ∧ 0 ≤ C ∧ B + C ≤ 1000000000000000) : sm (B + C) (addL a e d) := by
  induction a with
  | nil => exact ⟨sm_mono he (by omega), by omega, trivial⟩
  | cons x c l _ ih =>
    obtain ⟨h1, h2, h3⟩ := h
    simp only [addL]
    split
    · split
      · refine ⟨sm_mono h1 (by omega), ?_, trivial⟩
        show _ ≤ w (c + d) ∧ w (c + d) ≤ _
        rw [show w (c + d) = c + d from wid (by omega) (by omega)]; omega
      · exact ⟨sm_mono h1 (by omega), by omega, sm_mono he (by omega), by omega, trivial⟩
    · exact ⟨sm_mono h1 (by omega), by omega, ih h3⟩
theorem snoc_last (l x : T) (c : Int) : drop (app l (cons x c nil)) l.len = cons x c nil := drop_app l _
theorem pop_loop {k : Nat} {b f : T} {i : Nat} {d : Int} {K : Rw → Option Rw} (qf : calm f) : ∀ (n : Nat) (x : T), x.len < n → x.size < k → x.size ≤ cap → calm x → spec_odPlus_l1 k b.rows i f.rows d K n x.rows = K (popT x f).rows
  | 0, x, h, _, _, _ => absurd h (Nat.not_lt_zero _)
  | n + 1, x, h, hk, hc, hq => by
    have h3 : cap = 1099511627776 := rfl
    have hl := x.len_size
    rcases T.snoc x with rfl | ⟨l, e, c, rfl⟩
    · simp [rows, spec_odPlus_l1, popT]
    · have hlen : (app l (cons e c nil)).len = l.len + 1 := by rw [len_app]; rfl
      have hsz : (app l (cons e c nil)).size = l.size + e.size + 1 := by rw [size_app]; simp [size]; omega
      rw [hlen] at h hl
      rw [calm_app] at hq
      have e1 : w (((app l (cons e c nil)).rows.length : Int) - 1) = (l.len : Int) := by rw [lenI, hlen]; show w _ = _; rw [show w (((l.len + 1 : Nat) : Int) - 1) = ((l.len + 1 : Nat) : Int) - 1 from wid (by omega) (by omega)]; omega
      simp only [spec_odPlus_l1]
      rw [if_pos (by rw [lenI, hlen]; omega)]
      simp only [w] at e1
      rw [e1, if_pos (by rw [lenI, hlen]; omega), row_T rfl (snoc_last l e c), odCmp_eq k e f hq.2.1 qf (by omega) (by omega), Option.bind_some, popT_snoc]
      by_cases g : cmpT e f < 0
      · rw [if_pos g, if_pos g, if_pos (by rw [lenI, hlen]; omega), Int.toNat_natCast, if_pos (by rw [rows_len, hlen]; omega)]
        have e2 : (app l (cons e c nil)).rows.take l.len = l.rows := by rw [rows_app, ← rows_len l]; exact List.take_left
        rw [e2]
        exact pop_loop qf n l (by omega) (by omega) (by omega) hq.1
      · rw [if_neg g, if_neg g]
theorem splus_loop {k : Nat} {b : T} {B : Int} : ∀ (t : T) (i : Nat) (acc : T) (C : Int), drop b i = t → acc.size + t.size < k → acc.size + t.size ≤ cap → sm C acc → sm B t → 0 ≤ B → 0 ≤ C → C + B * t.len + B ≤ 1000000000000 →
    spec_odPlus_l0 k b.rows (fun v => spec_odPlus_p3 v) t.rows i acc.rows = some (splus acc t).rows
  | nil, i, acc, C, _, _, _, _, _, _, _, _ => rfl
  | cons f d m, i, acc, C, hd, hk, hc, sa, st, hB, hC, hs => by
    have h3 : cap = 1099511627776 := rfl
    simp only [size] at hk hc
    simp only [len] at hs
    have hs' : C + B + B * m.len + B ≤ 1000000000000 := by
      have e : B * ((m.len + 1 : Nat) : Int) = B * m.len + B := by rw [Int.natCast_add, Int.mul_add]; omega
      rw [e] at hs; omega
    have hnn : 0 ≤ B * (m.len : Int) := Int.mul_nonneg hB (by omega)
    have ca := sm_calm sa (by omega)
    have cf := sm_calm st.1 (by omega)
    have hl := acc.len_size
    simp only [rows, spec_odPlus_l0, cell_T]
    rw [pop_loop cf k acc (by omega) (by omega) (by omega) ca]
    have hps := popT_size acc f
    have hpc := sm_pop (e := f) sa
    have hal := addL_size (popT acc f) f d
    have hsm : sm (C + B) (addL (popT acc f) f d) := sm_addL hpc st.1 st.2.1 ⟨hC, hB, by omega⟩
    have go := splus_loop (k := k) (b := b) (B := B) m (i + 1) (addL (popT acc f) f d) (C + B) (drop_succ hd) (by omega) (by omega) hsm st.2.2 hB (by omega) hs'
    have e0 : splus acc (cons f d m) = splus (addL (popT acc f) f d) m := rfl
    rw [e0, ← go]
    have hpl := (popT acc f).len_size
    rcases T.snoc (popT acc f) with hn | ⟨l, x, c, hn⟩
    · rw [hn]
      have e1 : IntKind.i64.wrap (((nil : T).rows.length : Int) - 1) = -1 := by rw [lenI]; simp only [len]; exact wid (by omega) (by omega)
      rw [e1, if_neg (by omega), if_pos (by rw [rows_len]; simp only [len]; omega)]
      rfl
    · rw [hn] at hpc hps hpl ⊢
      have hlen : (app l (cons x c nil)).len = l.len + 1 := by rw [len_app]; rfl
      have hsz : (app l (cons x c nil)).size = l.size + x.size + 1 := by rw [size_app]; simp [size]; omega
      have hpc' := (calm_app.1 (sm_calm hpc (by omega))).2
      have e1 : IntKind.i64.wrap (((app l (cons x c nil)).rows.length : Int) - 1) = (l.len : Int) := by rw [lenI, hlen, wid (by omega) (by omega)]; omega
      rw [e1, if_pos (by omega), if_pos (by rw [lenI, hlen]; omega), row_T rfl (snoc_last l x c), odCmp_eq k x f hpc'.1 cf (by omega) (by omega), Option.bind_some, addL_snoc]
      by_cases g : cmpT x f = 0
      · rw [if_pos g, if_pos g]
        have e2 : (app l (cons x c nil)).rows.set (Int.toNat (l.len : Int)) [D.sl x.rows, D.int .i64 (IntKind.i64.wrap (c + d))] = (app l (cons x (w (c + d)) nil)).rows := by
          rw [Int.toNat_natCast, rows_app, rows_app, ← rows_len l, List.set_append_right (h := Nat.le_refl _), Nat.sub_self]; rfl
        rw [e2]
      · rw [if_neg g, if_neg g, if_pos (by rw [rows_len]; omega)]
        have e2 : (app l (cons x c nil)).rows ++ [[D.sl f.rows, D.int .i64 d]] = (app (app l (cons x c nil)) (cons f d nil)).rows := by rw [rows_app (app l _)]; rfl
        rw [e2]
theorem odPlus_eq {B C : Int} (k : Nat) (a b : T) (hk : a.size + b.size < k) (hc : a.size + b.size ≤ cap) (sa : sm C a) (sb : sm B b) (hB : 0 ≤ B) (hC : 0 ≤ C) (hs : C + B * b.len + B ≤ 1000000000000) : spec_odPlus k a.rows b.rows = some (splus a b).rows := by
  have h1 := a.len_size
  have h2 := b.len_size
  unfold spec_odPlus
  rw [if_pos ⟨by rw [rows_len]; omega, rowsWide a⟩, if_pos (by rw [rows_len]; omega)]
  exact splus_loop b 0 a C (drop_zero b) hk hc sa sb hB hC hs
/-! ### right ones -/
theorem form_sm {p : Option T} {t : T} (h : formA p t = true) : sm 1000000 t := by
  induction t generalizing p with
  | nil => trivial
  | cons e c l ihe ihl =>
    simp only [formA, Bool.and_eq_true, decide_eq_true_eq] at h
    obtain ⟨⟨⟨⟨h1, h2⟩, h3⟩, _⟩, h5⟩ := h
    exact ⟨ihe h3, by omega, ihl h5⟩
/-- Exponents that fall, from below p on. -/
def falls : Option T → T → Prop
  | _, nil => True
  | p, cons e _ l => (∀ q, p = some q → 0 < cmpT q e) ∧ falls (some e) l
theorem form_falls {p : Option T} {t : T} (h : formA p t = true) : falls p t := by
  induction t generalizing p with
  | nil => trivial
  | cons e c l _ ihl =>
    simp only [formA, Bool.and_eq_true, decide_eq_true_eq] at h
    refine ⟨fun q hq => ?_, ihl h.2⟩
    subst hq
    simpa using h.1.2
theorem cmp_lt_of {a b c : T} (h1 : 0 < cmpT a b) (h2 : cmpT b c = 1 ∨ cmpT b c = 0) : 0 < cmpT a c := by
  rcases h2 with h2 | h2
  · have q1 : cmpT b a < 0 := by rw [cmpT_neg a b]; omega
    have q2 : cmpT c b < 0 := by rw [cmpT_neg b c]; omega
    have := cmpT_trans q2 q1
    rw [cmpT_neg c a]; omega
  · obtain rfl := cmpT_eq.1 h2; exact h1
/-- In falling terms, those ahead of a greater one are greater. -/
theorem goP_pop {a f : T} {d : Int} : ∀ {p : Option T}, falls p a → addL (popT a f) f d = goP a f d nil
  | p, h => by
    induction a generalizing p with
    | nil => rfl
    | cons e c l _ ih =>
      have h2 := h.2
      have key : ∀ {x : T}, falls (some x) l → cmpT x f ≤ 0 → popT l f = nil := by
        intro x hx hxf
        clear ih h h2
        induction l generalizing x with
        | nil => rfl
        | cons y k m _ ihm =>
          have hy := hx.1 x rfl
          have hyf : cmpT y f < 0 := by
            rcases cmpT_range x f with q | q | q
            · have q2 : cmpT y x < 0 := by rw [cmpT_neg x y]; omega
              exact cmpT_trans q2 (by omega)
            · obtain rfl := cmpT_eq.1 q
              rw [cmpT_neg x y]; omega
            · omega
          simp only [popT, ihm hx.2 (by omega), if_pos hyf]
      have ih := ih _ h2
      simp only [popT, goP]
      rcases cmpT_range e f with q | q | q
      · rw [key h2 (by omega)]
        have e1 : ¬ cmpT e f = 1 := by omega
        have e2 : ¬ cmpT e f = 0 := by omega
        simp only [if_neg e1, if_neg e2, if_pos (by omega : cmpT e f < 0)]
        rw [← ih, key h2 (by omega)]
      · rw [key h2 (by omega)]
        have e1 : ¬ cmpT e f = 1 := by omega
        simp only [if_neg e1, if_pos q, if_neg (by omega : ¬ cmpT e f < 0), addL]
      · simp only [if_pos q]
        rw [← ih]
        cases hq : popT l f with
        | nil =>
          simp only [if_neg (by omega : ¬ cmpT e f < 0), addL, if_neg (by omega : ¬ cmpT e f = 0)]
        | cons y k m => simp only [addL]
theorem goP_app {a f : T} {d : Int} {m : T} : goP a f d m = app (goP a f d nil) m := by
  induction a with
  | nil => rfl
  | cons e c l _ ih =>
    simp only [goP]
    split
    · simp only [app, ih]
    · split
      · rfl
      · exact ih
/-- What is less than all ahead of it is only added at the end. -/
theorem splus_end {a x : T} {c : Int} : ∀ {m : T}, falls (some x) m → splus (app a (cons x c nil)) m = app (app a (cons x c nil)) m
  | nil, _ => by simp [splus]
  | cons g k m, h => by
    have h1 := h.1 x rfl
    simp only [splus]
    rw [popT_snoc, if_neg (by omega), addL_snoc, if_neg (by omega)]
    rw [splus_end (a := app a (cons x c nil)) h.2, app_assoc (app a (cons x c nil))]
    rfl
theorem goP_snoc {a f : T} {d : Int} : ∃ l c, goP a f d nil = app l (cons f c nil) := by
  induction a with
  | nil => exact ⟨nil, d, rfl⟩
  | cons e c l _ ih =>
    obtain ⟨l', c', h⟩ := ih
    simp only [goP]
    split
    · exact ⟨cons e c l', c', by rw [h]; rfl⟩
    · split
      · rename_i q; obtain rfl := cmpT_eq.1 q; exact ⟨nil, _, rfl⟩
      · exact ⟨l', c', h⟩
theorem splus_plus {a b : T} (ha : falls none a) (hb : falls none b) : splus a b = plusT a b := by
  cases b with
  | nil => cases a <;> rfl
  | cons f d m =>
    simp only [splus, plusT]
    rw [goP_pop ha, goP_app (m := m)]
    obtain ⟨l, c, h⟩ := goP_snoc (a := a) (f := f) (d := d)
    rw [h]
    exact splus_end hb.2
theorem plusT_sm {B C : Int} {a b : T} (ha : sm B a) (hb : sm C b) (hB : 0 ≤ B ∧ 0 ≤ C ∧ B + C ≤ 1000000000000000) : sm (B + C) (plusT a b) := by
  cases b with
  | nil => exact sm_mono ha (by omega)
  | cons f d m =>
    simp only [plusT]
    have hm : sm (B + C) m := sm_mono hb.2.2 (by omega)
    induction a with
    | nil => exact ⟨sm_mono hb.1 (by omega), by have := hb.2.1; omega, hm⟩
    | cons e c l _ ih =>
      have h1 := ha.2.1
      have h2 := hb.2.1
      simp only [goP]
      split
      · exact ⟨sm_mono ha.1 (by omega), by omega, ih ha.2.2⟩
      · split
        · refine ⟨sm_mono ha.1 (by omega), ?_, hm⟩
          show _ ≤ w (c + d) ∧ w (c + d) ≤ _
          rw [show w (c + d) = c + d from wid (by omega) (by omega)]; omega
        · exact ih ha.2.2
def intT (n : Int) : T := if n = 0 then nil else cons nil n nil
theorem intT_size (n : Int) : (intT n).size ≤ 1 := by unfold intT; split <;> simp [size]
theorem intT_sm {n B : Int} (h : -B ≤ n ∧ n ≤ B) : sm B (intT n) := by
  unfold intT; split
  · trivial
  · exact ⟨trivial, h, trivial⟩
theorem snocRows (l e : T) (c : Int) : l.rows ++ [[D.sl e.rows, D.int .i64 c]] = (app l (cons e c nil)).rows := by rw [rows_app]; rfl
end Go.Proofs.Try
