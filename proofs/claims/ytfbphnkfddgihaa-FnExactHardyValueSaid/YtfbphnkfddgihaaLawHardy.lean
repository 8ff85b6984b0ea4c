/- Pure: FnExactHardyValue answers true. -/
import Derived.Test.YtfbphnkfddgihaaOrdFund
namespace Go.Proofs.Try
open Go Go.AX T
theorem told_ok {t : T} (h : (toldT t).2 = true) : ordP (toldT t).1 = true := by
  unfold toldT at *
  split
  · rename_i q; exact q
  · rename_i q; rw [if_neg q] at h; cases h
theorem told_no {t : T} (h : (toldT t).2 = false) : (toldT t).1 = nil := by
  unfold toldT at *
  split
  · rename_i q; rw [if_pos q] at h; cases h
  · rfl
theorem desc_eq {k : Nat} {a : T} {n : Int} (hk : 30000 < k) (ha : a.size < k) (hc : a.size + 2 ≤ cap) : ∃ (t : T) (m : Int) (ok : Bool), impl_DescendOnce k a.rows n = some (t.rows, m, ok) ∧ spec_DescendOnce k a.rows n = some (t.rows, m, ok) ∧ (ok = true → ordP t = true) := by
  have h3 : cap = 1099511627776 := rfl
  have hal := a.len_size
  unfold impl_DescendOnce spec_DescendOnce spec_PredecessorOf spec_FundamentalAt
  rw [IsOrdinal_eq k a ha (by omega), odGood_all k a ha (by omega)]
  simp only [Option.bind_some]
  cases oa : ordP a with
  | false => exact ⟨nil, 0, false, rfl, rfl, fun h => by cases h⟩
  | true =>
    have hf := ordP_form oa
    have hs := ordP_size oa
    rw [if_pos rfl, if_pos rfl, isZ, odZ, impl_in_eq, l1In_eq]
    simp only [Option.bind_some]
    by_cases hn : 0 ≤ n ∧ n ≤ 1000
    · have hn' : (decide (0 ≤ n) && decide (n ≤ 1000)) = true := by simp; omega
      rw [hn', if_pos rfl]
      by_cases hz : a = nil
      · subst hz; exact ⟨nil, 0, false, rfl, rfl, fun h => by cases h⟩
      · have z0 : zer a = false := by cases a with | nil => exact absurd rfl hz | cons _ _ _ => rfl
        rw [z0, isLimit_eq (by omega) hf, odLimit_eq (by omega) hf]
        simp only [Option.bind_some, Bool.false_eq_true, if_false, if_true]
        cases hl : limT a with
        | true =>
          have m : (a.size + 1) * (a.size + 1) ≤ 31 * 31 := Nat.mul_le_mul (by omega) (by omega)
          have fs := fund_size k n a
          simp only [if_true, Option.bind_some, Bool.false_eq_true, if_false]
          rw [fundamental_eq n hn k a hl hf (by omega) (by omega), odAt_eq n hn k a hl hf (by omega) (by omega)]
          simp only [Option.bind_some]
          rw [told_eq k _ (by omega) (by omega), odIf_all k _ (by omega) (by omega)]
          simp only [Option.bind_some]
          cases ho : (toldT (fund k n a)).2 with
          | true => exact ⟨_, n, true, rfl, rfl, fun _ => told_ok ho⟩
          | false => exact ⟨nil, 0, false, rfl, rfl, fun h => by cases h⟩
        | false =>
          have bs := befT_size a
          simp only [Bool.false_eq_true, if_false]
          rw [before_eq hz hl (by omega) (by omega) hf, odBefore_eq hz (by omega)]
          simp only [Option.bind_some]
          rw [told_eq k _ (by omega) (by omega), odIf_all k _ (by omega) (by omega)]
          simp only [Option.bind_some]
          cases ho : (toldT (befT a)).2 with
          | true => exact ⟨_, _, true, rfl, rfl, fun _ => told_ok ho⟩
          | false => exact ⟨nil, 0, false, rfl, rfl, fun h => by cases h⟩
    · have hn' : (decide (0 ≤ n) && decide (n ≤ 1000)) = false := by
        cases q : (decide (0 ≤ n) && decide (n ≤ 1000)) with
        | false => rfl
        | true => simp at q; omega
      rw [hn']
      simp only [Bool.false_eq_true, if_false]
      cases zer a <;> exact ⟨nil, 0, false, rfl, rfl, fun h => by cases h⟩
theorem hardy_loop {k : Nat} {most : Int} (hk : 30000 < k) (hm : most ≤ 200) : ∀ (r f : Nat) (a : T) (n j : Int), ordP a = true → 0 ≤ j → (r : Int) + j = most → r < f →
    ∃ (v : Int) (ok : Bool), impl_HardyValue_l0 k most (fun (v54 : Int) => (impl_HardyValue_p3 v54)) f n j a.rows = some (v, ok) ∧ spec_HardyValue_l0 k (fun (v26 : Int) => some (v26, true)) f n (r : Int) a.rows = some (v, ok)
  | _, 0, _, _, _, _, _, _, h => absurd h (Nat.not_lt_zero _)
  | r, f + 1, a, n, j, oa, hj, hr, hf => by
    have h3 : cap = 1099511627776 := rfl
    have hs := ordP_size oa
    simp only [impl_HardyValue_l0, spec_HardyValue_l0]
    rw [isZ, odZ]
    simp only [Option.bind_some]
    obtain ⟨t, m, ok, e1, e2, e3⟩ := desc_eq (k := k) (a := a) (n := n) hk (by omega) (by omega)
    cases hz : zer a with
    | true => exact ⟨n, true, rfl, rfl⟩
    | false =>
      simp only [Bool.false_eq_true, if_false]
      rw [e1, e2]
      simp only [Option.bind_some]
      cases r with
      | zero =>
        refine ⟨0, false, ?_, by rw [if_pos (by omega)]⟩
        cases ok with
        | true => rw [if_pos rfl, if_pos (by omega)]
        | false => rfl
      | succ r =>
        rw [if_neg (show ¬ ((r + 1 : Nat) : Int) = 0 by omega)]
        cases ok with
        | false => exact ⟨0, false, rfl, rfl⟩
        | true =>
          simp only [if_true]
          rw [if_neg (show ¬ j = most by omega)]
          have w1 : IntKind.i64.wrap (j + 1) = j + 1 := wid (by omega) (by omega)
          have w2 : IntKind.i64.wrap (((r + 1 : Nat) : Int) - 1) = (r : Int) := by rw [wid (by omega) (by omega)]; omega
          rw [w1, w2]
          exact hardy_loop hk hm r f t m (j + 1) (e3 rfl) (by omega) (by omega) (by omega)
theorem hardy_eq {k : Nat} {a : T} {n most : Int} (hk : 30000 < k) (ha : a.size < k) (hc : a.size + 2 ≤ cap) : ∃ (v : Int) (ok : Bool), impl_HardyValue k a.rows n most = some (v, ok) ∧ spec_HardyValue k a.rows n most = some (v, ok) := by
  unfold impl_HardyValue spec_HardyValue
  rw [IsOrdinal_eq k a ha (by omega), odGood_all k a ha (by omega), impl_in_eq, l1In_eq, impl_in_eq, l1In_eq]
  simp only [Option.bind_some]
  cases oa : ordP a with
  | false => exact ⟨0, false, rfl, rfl⟩
  | true =>
    cases (decide (0 ≤ n) && decide (n ≤ 1000)) with
    | false => exact ⟨0, false, rfl, rfl⟩
    | true =>
      cases hm : (decide (0 ≤ most) && decide (most ≤ 200)) with
      | false => exact ⟨0, false, rfl, rfl⟩
      | true =>
        simp only [Bool.and_eq_true, decide_eq_true_eq] at hm
        obtain ⟨r, rfl⟩ : ∃ r : Nat, most = r := ⟨most.toNat, by omega⟩
        simp only [if_true]
        exact hardy_loop hk hm.2 r k a n 0 oa (by omega) (by omega) (by omega)
/-! ### the frame of the exact law -/
theorem toOrd_loop {rec_ : Rw → Option Rw} {a : T} {K : Rw → Option Rw} (hr : ∀ e : T, e.size < a.size → rec_ e.rows = some e.rows) :
    ∀ (t : T) (i : Nat) (done : T), t.size ≤ a.size → done.len = i → laws_toOrdinalTermS_l0 rec_ a.rows K t.rows i (done.rows ++ List.replicate t.len [D.sl ([]), D.int .i64 0]) = K (app done t).rows
  | nil, i, done, _, hd => by
    simp only [rows, laws_toOrdinalTermS_l0, len, List.replicate_zero, List.append_nil, rows_app]
  | cons e c l, i, done, hs, hd => by
    simp only [size] at hs
    simp only [rows, laws_toOrdinalTermS_l0, cell_T, laws_toOrdinalTerm, len]
    rw [hr e (by omega), Option.bind_some]
    have hlen : (done.rows ++ List.replicate (l.len + 1) [D.sl ([]), D.int .i64 0]).length = i + (l.len + 1) := by rw [List.length_append, rows_len, hd, List.length_replicate]
    rw [Option.bind_some, if_pos ⟨by omega, by rw [hlen]; omega⟩]
    have hrow : ∀ {α : Type} (K : Rw → Int → Option α), row_si (done.rows ++ List.replicate (l.len + 1) [D.sl ([]), D.int .i64 0]) (i : Int) K = K [] 0 := by
      intro α K
      unfold row_si
      rw [if_pos (by omega), Int.toNat_natCast, List.getElem?_append_right (by rw [rows_len]; omega), rows_len, hd, Nat.sub_self, List.replicate_succ]
      rfl
    rw [hrow]
    have hset : (done.rows ++ List.replicate (l.len + 1) [D.sl ([]), D.int .i64 0]).set (i : Int).toNat [D.sl e.rows, D.int .i64 c] = (app done (cons e c nil)).rows ++ List.replicate l.len [D.sl ([]), D.int .i64 0] := by
      rw [Int.toNat_natCast, List.set_append_right (h := by rw [rows_len]; omega), rows_len, hd, Nat.sub_self, List.replicate_succ, rows_app]
      simp [rows]
    rw [hset, toOrd_loop hr l (i + 1) (app done (cons e c nil)) (by omega) (by rw [snocLen, hd]), app_assoc]
    rfl
theorem toOrd_eq : ∀ (k : Nat) (a : T), a.size < k → a.size ≤ cap → laws_toOrdinal k a.rows = some a.rows
  | 0, _, h, _ => absurd h (Nat.not_lt_zero _)
  | k + 1, a, h, hc => by
    have h3 : cap = 1099511627776 := rfl
    have hl := a.len_size
    simp only [laws_toOrdinal, laws_toOrdinal_b, laws_toOrdinalTermS]
    rw [if_pos (by rw [lenI]; omega), if_pos (by rw [rows_len]; omega), lenI, Int.toNat_natCast]
    have := toOrd_loop (rec_ := laws_toOrdinal k) (a := a) (K := fun v29 => some v29) (fun e he => toOrd_eq k e (by omega) (by omega)) a 0 nil (Nat.le_refl _) rfl
    simp only [rows, List.nil_append, app] at this
    rw [this]; rfl
theorem eqOrd_loop {rec_ : Rw → Rw → Option Bool} {a : T} (hr : ∀ e : T, e.size < a.size → rec_ e.rows e.rows = some true) : ∀ (t : T) (i : Nat), drop a i = t → laws_eqOrdinalTermS_l0 rec_ a.rows a.rows (some true) t.rows i = some true
  | nil, i, _ => rfl
  | cons e c l, i, hd => by
    have hs := drop_cons_size hd
    simp only [rows, laws_eqOrdinalTermS_l0, cell_T, laws_eqOrdinalTerm]
    rw [row_T rfl hd, hr e (by omega), Option.bind_some, if_pos rfl, if_pos rfl, Option.bind_some, if_pos rfl]
    exact eqOrd_loop hr l (i + 1) (drop_succ hd)
theorem eqOrd_refl : ∀ (k : Nat) (a : T), a.size < k → a.size ≤ cap → laws_eqOrdinal k a.rows a.rows = some true
  | 0, _, h, _ => absurd h (Nat.not_lt_zero _)
  | k + 1, a, h, hc => by
    have hl := a.len_size
    simp only [laws_eqOrdinal, laws_eqOrdinal_b, laws_eqOrdinalTermS]
    rw [if_pos True.intro, if_pos (by rw [rows_len]; omega), eqOrd_loop (a := a) (fun e he => eqOrd_refl k e (by omega) (by omega)) a 0 (drop_zero a)]
    rfl
/-- Slices no longer than a machine has. -/
def fitT : T → Prop
  | nil => True
  | cons e c l => fitT e ∧ (e.len : Int) ≤ 9223372036854775807 ∧ fitT l
theorem sz_loop {rec_ : Rw → Int → Option Int} {a : T} {K : Int → Option Int} (hr : ∀ (e : T) (v : Int), e.size < a.size → fitT e → (e.len : Int) ≤ 9223372036854775807 → 0 ≤ v → v ≤ 1048576 → ∃ r : Int, rec_ e.rows v = some r ∧ r ≤ v ∧ -1 ≤ r ∧ (0 ≤ r → r + e.size ≤ v)) :
    ∀ (t : T) (v : Int), t.size ≤ a.size → fitT t → 0 ≤ v → v ≤ 1048576 → (laws_szOrdinalTermS_l0 rec_ a.rows K t.rows v = some (-1)) ∨ ∃ r : Int, laws_szOrdinalTermS_l0 rec_ a.rows K t.rows v = K r ∧ 0 ≤ r ∧ r + t.size ≤ v + t.len
  | nil, v, _, _, h0, h1 => Or.inr ⟨v, rfl, h0, by simp [size, len]⟩
  | cons e c l, v, hs, hf, h0, h1 => by
    simp only [size] at hs
    obtain ⟨r, e1, q1, q2, q3⟩ := hr e v (by omega) hf.1 hf.2.1 h0 h1
    simp only [rows, laws_szOrdinalTermS_l0, cell_T, laws_szOrdinalTerm]
    rw [e1, Option.bind_some]
    by_cases g : r < 0
    · left; rw [if_pos g, Option.bind_some, if_pos (by omega)]
    · rw [if_neg g, Option.bind_some, if_neg g]
      rcases sz_loop hr l r (by omega) hf.2.2 (by omega) (by omega) with h | ⟨u, h, p1, p2⟩
      · left; exact h
      · right; exact ⟨u, h, p1, by simp only [size, len]; omega⟩
theorem sz_eq : ∀ (k : Nat) (a : T) (v : Int), a.size < k → fitT a → (a.len : Int) ≤ 9223372036854775807 → 0 ≤ v → v ≤ 1048576 → ∃ r : Int, laws_szOrdinal k a.rows v = some r ∧ r ≤ v ∧ -1 ≤ r ∧ (0 ≤ r → r + a.size ≤ v)
  | 0, _, _, h, _, _, _, _ => absurd h (Nat.not_lt_zero _)
  | k + 1, a, v, h, hf, hl, h0, h1 => by
    have h3 : cap = 1099511627776 := rfl
    simp only [laws_szOrdinal, laws_szOrdinal_b, laws_szOrdinalTermS]
    have e1 : IntKind.i64.wrap (v - (a.rows.length : Int)) = v - (a.len : Int) := by rw [lenI, wid (by omega) (by omega)]
    rw [e1]
    by_cases g : v - (a.len : Int) < 0
    · rw [if_pos g, Option.bind_some, if_pos (by omega)]
      exact ⟨-1, rfl, by omega, by omega, fun h => by omega⟩
    · rw [if_neg g, if_pos (by rw [rows_len]; omega)]
      rcases sz_loop (rec_ := laws_szOrdinal k) (a := a) (K := fun v22 => some v22) (fun e v he hf hl h0 h1 => sz_eq k e v (by omega) hf hl h0 h1) a (v - (a.len : Int)) (Nat.le_refl _) hf (by omega) (by omega) with q | ⟨r, q, p1, p2⟩
      · rw [q, Option.bind_some, if_pos (by omega)]
        exact ⟨-1, rfl, by omega, by omega, fun h => by omega⟩
      · rw [q, Option.bind_some, if_neg (by omega)]
        exact ⟨r, rfl, by omega, by omega, fun _ => by omega⟩
theorem hardy_true {a : T} {n most : Int} (hf : fitT a) (hl : (a.len : Int) ≤ 9223372036854775807) : laws_FnExactHardyValue (a.size + 30001) a.rows n most = some true := by
  have h3 : cap = 1099511627776 := rfl
  obtain ⟨k, hk⟩ : ∃ k, k = a.size + 30001 := ⟨_, rfl⟩
  rw [← hk]
  unfold laws_FnExactHardyValue
  obtain ⟨r, e, q1, q2, q3⟩ := sz_eq k a 1048576 (by omega) hf hl (by omega) (by omega)
  rw [e, Option.bind_some]
  unfold laws_FnExactHardyValue_p3
  by_cases g : r < 0
  · rw [if_pos g]
  · have q3 := q3 (by omega)
    obtain ⟨v, ok, e1, e2⟩ := hardy_eq (k := k) (a := a) (n := n) (most := most) (by omega) (by omega) (by omega)
    have e3 := toOrd_eq k a (by omega) (by omega)
    have e4 := eqOrd_refl k a (by omega) (by omega)
    rw [if_neg g, e3, Option.bind_some, e2, Option.bind_some]
    have p7 : laws_FnExactHardyValue_p7 k a.rows v v a.rows ok ok = some true := by
      unfold laws_FnExactHardyValue_p7
      rw [e3, Option.bind_some, e4, Option.bind_some, if_pos rfl, if_pos rfl]
      cases ok <;> rfl
    have p5 : laws_FnExactHardyValue_p5 k a.rows n most v ok = some true := by
      unfold laws_FnExactHardyValue_p5 laws_FnExactHardyValue_p6
      rw [e3]
      simp only [Option.bind_some]
      rw [e1]
      simp only [Option.bind_some]
      cases ok <;> exact p7
    cases ok <;> exact p5
end Go.Proofs.Try
