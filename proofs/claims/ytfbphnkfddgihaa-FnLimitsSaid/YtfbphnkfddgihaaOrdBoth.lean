/- Pure: impl's AddOrdinals and CompareOrdinals. -/
import Derived.Test.YtfbphnkfddgihaaOrdPlus
namespace Go.Proofs.Try
open Go Go.AX T
theorem both_eq (k : Nat) (a b : T) (ha : a.size < k) (hb : b.size < k) (ca : a.size ≤ cap) (cb : b.size ≤ cap) : impl_both k a.rows b.rows = some (ordP a && ordP b) := by
  unfold impl_both
  rw [IsOrdinal_eq k a ha ca, Option.bind_some]
  cases ordP a with
  | false => rfl
  | true =>
    rw [if_pos rfl, IsOrdinal_eq k b hb cb, Option.bind_some]
    cases ordP b <;> rfl
/-! ### copies -/
def addT (a b : T) : T × Bool := if ordP a && ordP b then toldT (plusT a b) else (nil, false)
theorem AddOrdinals_eq (k : Nat) (a b : T) (ha : a.size + b.size < k) (hc : a.size + b.size + 1 ≤ cap) : impl_AddOrdinals k a.rows b.rows = some ((addT a b).1.rows, (addT a b).2) := by
  unfold impl_AddOrdinals addT
  rw [both_eq k a b (by omega) (by omega) (by omega) (by omega), Option.bind_some]
  cases ordP a && ordP b with
  | false => rfl
  | true =>
    have := plusT_size a b
    simp only [if_true]
    rw [plus_eq k a b (by omega) hc, Option.bind_some, told_eq k _ (by omega) (by omega), Option.bind_some]
    cases (toldT (plusT a b)).2 <;> rfl
def cmpO (a b : T) : Int × Bool := if ordP a && ordP b then (cmpT a b, true) else (0, false)
theorem CompareOrdinals_eq (k : Nat) (a b : T) (ha : a.size < k) (hb : b.size < k) (ca : a.size ≤ cap) (cb : b.size ≤ cap) : impl_CompareOrdinals k a.rows b.rows = some ((cmpO a b).1, (cmpO a b).2) := by
  unfold impl_CompareOrdinals cmpO
  rw [both_eq k a b ha hb ca cb, Option.bind_some]
  cases ordP a && ordP b with
  | false => rfl
  | true =>
    simp only [if_true]
    rw [impl_cmp_eq k a b ha ca]; rfl
/-! ### the same -/
theorem same_loop {rec_ : Rw → Rw → Option Bool} {a : T} (hr : ∀ e : T, e.size < a.size → rec_ e.rows e.rows = some true) : ∀ (t : T) (i : Nat), drop a i = t → laws_sameOrdinal_l0 rec_ a.rows a.rows (some true) t.rows i = some true
  | nil, i, _ => rfl
  | cons e c l, i, hd => by
    have hs := drop_cons_size hd
    simp only [rows, laws_sameOrdinal_l0, cell_T]
    rw [row_T rfl hd, if_pos rfl, hr e (by omega), Option.bind_some, if_pos rfl]
    exact same_loop hr l (i + 1) (drop_succ hd)
theorem same_refl : ∀ (k : Nat) (a : T), a.size < k → a.size ≤ cap → laws_sameOrdinal k a.rows a.rows = some true
  | 0, _, h, _ => absurd h (Nat.not_lt_zero _)
  | k + 1, a, h, hc => by
    have := a.len_size
    simp only [laws_sameOrdinal, laws_sameOrdinal_b]
    rw [if_pos trivial, if_pos (by rw [rows_len]; omega)]
    exact same_loop (fun e he => same_refl k e (by omega) (by omega)) a 0 (drop_zero a)
theorem addT_ok {a b : T} (h : (addT a b).2 = true) : ordP a = true ∧ ordP b = true ∧ ordP (plusT a b) = true ∧ (addT a b).1 = plusT a b := by
  unfold addT toldT at *
  cases ha : ordP a <;> cases hb : ordP b <;> simp only [ha, hb, Bool.and_self, Bool.and_true, Bool.and_false, if_true] at h ⊢ <;> try (simp at h)
  cases hs : ordP (plusT a b) <;> simp [hs] at h ⊢
theorem addT_of {a b : T} (ha : ordP a = true) (hb : ordP b = true) (hs : ordP (plusT a b) = true) : addT a b = (plusT a b, true) := by
  unfold addT toldT
  rw [ha, hb, Bool.and_self, if_pos rfl, if_pos hs]
end Go.Proofs.Try
