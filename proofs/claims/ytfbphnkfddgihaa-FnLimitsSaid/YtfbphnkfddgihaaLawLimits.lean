/- Pure: FnLimits answers true. -/
import Derived.Test.YtfbphnkfddgihaaOrdFund2
import Derived.Test.YtfbphnkfddgihaaOrdBoth
import Derived.Test.YtfbphnkfddgihaaOrdDraw2
namespace Go.Proofs.Try
open Go Go.AX T
def fundA (k : Nat) (a : T) (n : Int) : T × Bool := cond (ordP a && (limT a && (decide (0 ≤ n) && decide (n ≤ 1000)))) (toldT (fund k n a)) (nil, false)
def predA (a : T) : T × Bool := cond (ordP a && (!zer a && !limT a)) (toldT (befT a)) (nil, false)
theorem fund_both {k : Nat} {a : T} {n : Int} (hk : 30000 < k) (ha : a.size < k) (hc : a.size + 2 ≤ cap) : impl_FundamentalAt k a.rows n = some ((fundA k a n).1.rows, (fundA k a n).2) ∧ spec_FundamentalAt k a.rows n = some ((fundA k a n).1.rows, (fundA k a n).2) := by
  have h3 : cap = 1099511627776 := rfl
  have hal := a.len_size
  unfold impl_FundamentalAt spec_FundamentalAt fundA
  rw [IsOrdinal_eq k a ha (by omega), odGood_all k a ha (by omega)]
  simp only [Option.bind_some]
  cases oa : ordP a with
  | false => exact ⟨rfl, rfl⟩
  | true =>
    have hf := ordP_form oa
    have hs := ordP_size oa
    simp only [if_true]
    rw [isLimit_eq (by omega) hf, odLimit_eq (by omega) hf, impl_in_eq, l1In_eq]
    simp only [Option.bind_some, Bool.true_and]
    cases hl : limT a with
    | false => exact ⟨rfl, rfl⟩
    | true =>
      simp only [if_true, Bool.true_and]
      cases hn : (decide (0 ≤ n) && decide (n ≤ 1000)) with
      | false => exact ⟨rfl, rfl⟩
      | true =>
        simp only [Bool.and_eq_true, decide_eq_true_eq] at hn
        have m : (a.size + 1) * (a.size + 1) ≤ 31 * 31 := Nat.mul_le_mul (by omega) (by omega)
        have fs := fund_size k n a
        simp only [if_true, cond]
        rw [fundamental_eq n hn k a hl hf (by omega) (by omega), odAt_eq n hn k a hl hf (by omega) (by omega)]
        simp only [Option.bind_some]
        rw [told_eq k _ (by omega) (by omega), odIf_all k _ (by omega) (by omega)]
        simp only [Option.bind_some]
        cases (toldT (fund k n a)).2 <;> exact ⟨rfl, rfl⟩
theorem pred_both {k : Nat} {a : T} (hk : 30000 < k) (ha : a.size < k) (hc : a.size + 2 ≤ cap) : impl_PredecessorOf k a.rows = some ((predA a).1.rows, (predA a).2) ∧ spec_PredecessorOf k a.rows = some ((predA a).1.rows, (predA a).2) := by
  have h3 : cap = 1099511627776 := rfl
  have hal := a.len_size
  unfold impl_PredecessorOf spec_PredecessorOf predA
  rw [IsOrdinal_eq k a ha (by omega), odGood_all k a ha (by omega)]
  simp only [Option.bind_some]
  cases oa : ordP a with
  | false => exact ⟨rfl, rfl⟩
  | true =>
    have hf := ordP_form oa
    have hs := ordP_size oa
    simp only [if_true]
    rw [isZ, odZ]
    simp only [Option.bind_some, Bool.true_and]
    by_cases hz : a = nil
    · subst hz; exact ⟨rfl, rfl⟩
    · have z0 : zer a = false := by cases a with | nil => exact absurd rfl hz | cons _ _ _ => rfl
      rw [z0, isLimit_eq (by omega) hf, odLimit_eq (by omega) hf]
      simp only [Option.bind_some, Bool.not_false, Bool.true_and, Bool.false_eq_true, if_false]
      cases hl : limT a with
      | true => exact ⟨rfl, rfl⟩
      | false =>
        have bs := befT_size a
        simp only [Bool.false_eq_true, if_false, Bool.not_false, cond]
        rw [before_eq hz hl (by omega) (by omega) hf, odBefore_eq hz (by omega)]
        simp only [Option.bind_some]
        rw [told_eq k _ (by omega) (by omega), odIf_all k _ (by omega) (by omega)]
        simp only [Option.bind_some]
        cases (toldT (befT a)).2 <;> exact ⟨rfl, rfl⟩
theorem lim_both {k : Nat} {a : T} (ha : a.size < k) (hc : a.size + 2 ≤ cap) : impl_IsLimit k a.rows = some (ordP a && limT a, ordP a) ∧ spec_IsLimit k a.rows = some (ordP a && limT a, ordP a) := by
  have hal := a.len_size
  unfold impl_IsLimit spec_IsLimit
  rw [IsOrdinal_eq k a ha (by omega), odGood_all k a ha (by omega)]
  simp only [Option.bind_some]
  cases oa : ordP a with
  | false => exact ⟨rfl, rfl⟩
  | true =>
    have hf := ordP_form oa
    simp only [if_true]
    rw [isLimit_eq (by omega) hf, odLimit_eq (by omega) hf]
    simp only [Option.bind_some]
    cases limT a <;> exact ⟨rfl, rfl⟩
theorem told_fst {t : T} (h : (toldT t).2 = true) : (toldT t).1 = t ∧ ordP t = true := by
  unfold toldT at *
  split
  · rename_i q; exact ⟨rfl, q⟩
  · rename_i q; rw [if_neg q] at h; cases h
theorem fundA_ok {k : Nat} {a : T} {n : Int} (h : (fundA k a n).2 = true) : ordP a = true ∧ limT a = true ∧ (0 ≤ n ∧ n ≤ 1000) ∧ (fundA k a n).1 = fund k n a ∧ ordP (fund k n a) = true := by
  unfold fundA at *
  cases q : (ordP a && (limT a && (decide (0 ≤ n) && decide (n ≤ 1000)))) with
  | false => rw [q] at h; cases h
  | true =>
    rw [q] at h
    simp only [Bool.and_eq_true, decide_eq_true_eq] at q
    obtain ⟨e1, e2⟩ := told_fst (t := fund k n a) h
    exact ⟨q.1, q.2.1, q.2.2, e1, e2⟩
theorem predA_ok {a : T} (h : (predA a).2 = true) : ordP a = true ∧ a ≠ nil ∧ limT a = false ∧ (predA a).1 = befT a ∧ ordP (befT a) = true := by
  unfold predA at *
  cases q : (ordP a && (!zer a && !limT a)) with
  | false => rw [q] at h; cases h
  | true =>
    rw [q] at h
    simp only [Bool.and_eq_true, Bool.not_eq_true'] at q
    obtain ⟨e1, e2⟩ := told_fst (t := befT a) h
    refine ⟨q.1, ?_, q.2.2, e1, e2⟩
    intro e
    rw [e] at q
    exact absurd q.2.1 (by decide)
theorem toldT_size (t : T) : (toldT t).1.size ≤ 30 := by
  unfold toldT; split
  · rename_i q; exact ordP_size q
  · simp [size]
theorem fundA_size (k : Nat) (a : T) (n : Int) : (fundA k a n).1.size ≤ 30 := by
  unfold fundA
  cases (ordP a && (limT a && (decide (0 ≤ n) && decide (n ≤ 1000)))) with
  | false => simp [cond, size]
  | true => exact toldT_size _
theorem predA_size (a : T) : (predA a).1.size ≤ 30 := by
  unfold predA
  cases (ordP a && (!zer a && !limT a)) with
  | false => simp [cond, size]
  | true => exact toldT_size _
theorem limits_p10 {k : Nat} {a : T} (hk : 40000 < k) (ha : a.size ≤ 300) : laws_FnLimits_p10 k a.rows (ordP a && limT a) = some true := by
  have h3 : cap = 1099511627776 := rfl
  obtain ⟨i1, i2⟩ := pred_both (k := k) (a := a) (by omega) (by omega) (by omega)
  have ps := predA_size a
  have sr := same_refl k (predA a).1 (by omega) (by omega)
  have sa := same_refl k a (by omega) (by omega)
  have p13 : laws_FnLimits_p13 k a.rows (predA a).1.rows (ordP a && limT a) (predA a).2 = some true := by
    unfold laws_FnLimits_p13
    cases hp : (predA a).2 with
    | false => cases (ordP a && limT a) <;> rfl
    | true =>
      obtain ⟨oa, hz, hl, e1, e2⟩ := predA_ok hp
      have hf := ordP_form oa
      have h1 : impl_FiniteOrdinal 1 = some ((cons nil 1 nil : T).rows, true) := rfl
      have o1 : ordP (cons nil 1 nil) = true := by decide
      have b1 := bef_one hz hl hf
      have ad := addT_of e2 o1 (by rw [b1]; exact oa)
      rw [hl, Bool.and_false]
      simp only [cond]
      rw [h1, Option.bind_some, e1]
      have bs := befT_size a
      simp only [if_true]
      rw [AddOrdinals_eq k _ _ (by simp only [size]; omega) (by simp only [size]; omega), ad, b1]
      simp only [Option.bind_some, if_true]
      rw [sa]; rfl
  generalize predA a = q at *
  obtain ⟨p, f⟩ := q
  simp only at *
  generalize (ordP a && limT a) = s at *
  have p12 : laws_FnLimits_p12 k a.rows p.rows p.rows f s f = some true := by
    unfold laws_FnLimits_p12
    rw [sr]
    simp only [Option.bind_some, if_true]
    cases f <;> cases s <;> exact p13
  have p11 : laws_FnLimits_p11 k a.rows p.rows f s = some true := by
    unfold laws_FnLimits_p11
    rw [i2]
    simp only [Option.bind_some]
    cases f <;> cases s <;> exact p12
  unfold laws_FnLimits_p10
  rw [i1]
  simp only [Option.bind_some]
  cases f <;> cases s <;> exact p11
theorem limits_p8 {k : Nat} {a : T} {n : Int} (hk : 40000 < k) (ha : a.size ≤ 300) : laws_FnLimits_p8 k n a.rows (fundA k a n).1.rows (ordP a) (ordP a && limT a) (fundA k a n).2 (ordP a && limT a) (ordP a) = some true := by
  have h3 : cap = 1099511627776 := rfl
  have p10 := limits_p10 hk ha
  have xs := fundA_size k a n
  cases ok : (fundA k a n).2 with
  | false =>
    unfold laws_FnLimits_p8
    cases oa : ordP a <;> cases hl : limT a <;> rw [oa, hl] at p10 <;> exact p10
  | true =>
    obtain ⟨oa, hl, hn, e1, e2⟩ := fundA_ok ok
    have hf := ordP_form oa
    rw [oa, hl] at p10 ⊢
    have lt := (fund_lt n k a hl hf (by omega)).1
    have c1 := CompareOrdinals_eq k (fundA k a n).1 a (by omega) (by omega) (by omega) (by omega)
    have q1 : cmpO (fundA k a n).1 a = (cmpT (fund k n a) a, true) := by unfold cmpO; rw [e1, e2, oa]; rfl
    rw [q1] at c1
    unfold laws_FnLimits_p8
    simp only [cond, Bool.and_self]
    rw [c1, Option.bind_some]
    simp only [if_true]
    rw [if_neg (by omega)]
    have wn : IntKind.i64.wrap (n + 1) = n + 1 := wid (by omega) (by omega)
    rw [wn, (fund_both (k := k) (a := a) (n := n + 1) (by omega) (by omega) (by omega)).1, Option.bind_some]
    cases ok2 : (fundA k a (n + 1)).2 with
    | false => exact p10
    | true =>
      obtain ⟨_, _, hn2, e3, e4⟩ := fundA_ok ok2
      have ys := fundA_size k a (n + 1)
      have mo := fund_mono n (by omega) k a hl hf (by omega)
      have c2 := CompareOrdinals_eq k (fundA k a n).1 (fundA k a (n + 1)).1 (by omega) (by omega) (by omega) (by omega)
      have q2 : cmpO (fundA k a n).1 (fundA k a (n + 1)).1 = (cmpT (fund k n a) (fund k (n + 1) a), true) := by unfold cmpO; rw [e1, e2, e3, e4]; rfl
      rw [q2] at c2
      simp only [if_true]
      rw [c2, Option.bind_some]
      simp only [if_true]
      rw [if_neg (by omega)]
      exact p10
theorem limits_p3 {k : Nat} {a : T} {n : Int} (hk : 40000 < k) (ha : a.size ≤ 300) : laws_FnLimits_p3 k n a.rows = some true := by
  have h3 : cap = 1099511627776 := rfl
  have p8 := limits_p8 (n := n) hk ha
  obtain ⟨f1, f2⟩ := fund_both (k := k) (a := a) (n := n) (by omega) (by omega) (by omega)
  obtain ⟨l1, l2⟩ := lim_both (k := k) (a := a) (by omega) (by omega)
  have xs := fundA_size k a n
  have sr := same_refl k (fundA k a n).1 (by omega) (by omega)
  generalize fundA k a n = q at *
  obtain ⟨x, ok⟩ := q
  generalize (ordP a && limT a) = is at *
  generalize ordP a = va at *
  simp only at *
  have p7 : laws_FnLimits_p7 k n a.rows x.rows va is ok = some true := by
    unfold laws_FnLimits_p7
    rw [l2]
    simp only [Option.bind_some]
    cases va <;> cases is <;> cases ok <;> exact p8
  have p6 : laws_FnLimits_p6 k n a.rows x.rows ok = some true := by
    unfold laws_FnLimits_p6
    rw [l1]
    simp only [Option.bind_some]
    cases va <;> cases is <;> cases ok <;> exact p7
  have p5 : laws_FnLimits_p5 k n a.rows x.rows x.rows ok ok = some true := by
    unfold laws_FnLimits_p5
    rw [sr]
    simp only [Option.bind_some, if_true]
    cases ok <;> exact p6
  have p4 : laws_FnLimits_p4 k n a.rows x.rows ok = some true := by
    unfold laws_FnLimits_p4
    rw [f2]
    simp only [Option.bind_some]
    cases ok <;> exact p5
  unfold laws_FnLimits_p3
  rw [f1]
  simp only [Option.bind_some]
  cases ok <;> exact p4
theorem limits_true {x y : Rw} (hx : bytes x) : laws_FnLimits 40001 x y = some true := by
  have p2 : laws_FnLimits_p2 40001 x = some true := by
    unfold laws_FnLimits_p2 spec_DrawFundamentalAt
    obtain ⟨r, a1, c1, e1, p1, p2, a, rfl, p3, p4⟩ := any_ok (k := 40001) (c := 0) hx (by omega) (show (0 : Int) ≤ 0 by omega) (by omega)
    rw [e1, Option.bind_some]
    obtain ⟨v, a2, c2, e2, _, _, _⟩ := among_ok (es := [[.int .i64 0], [.int .i64 1], [.int .i64 2], [.int .i64 3], [.int .i64 10], [.int .i64 1000], [.int .i64 1001], [.int .i64 (-1)]]) (Q := fun _ => True) (c := c1) hx p1 (by omega) (by simp) (by
      intro r hr
      simp only [List.mem_cons, List.not_mem_nil, or_false] at hr
      rcases hr with rfl | rfl | rfl | rfl | rfl | rfl | rfl | rfl <;> exact ⟨_, rfl, trivial⟩)
    simp only
    rw [e2, Option.bind_some, Option.bind_some]
    exact limits_p3 (by omega) (by omega)
  unfold laws_FnLimits laws_big
  split
  · rfl
  · split
    · rfl
    · rw [Option.bind_some, if_neg (by decide)]; exact p2
end Go.Proofs.Try
