/- Pure: right or not, whatever the coefficients. -/
import Derived.Test.YtfbphnkfddgihaaOrdSPlus
namespace Go.Proofs.Try
open Go Go.AX T
theorem form_loop_all {k : Nat} {rec_ : Rw → Int → Option Bool} {a : T} {depth : Int} (hd : 0 ≤ depth ∧ depth ≤ 6) (hk : a.size ≤ k) (hc : a.size ≤ cap)
    (hr : ∀ e : T, e.size < a.size → rec_ e.rows (depth - 1) = some (decide ((dp e : Int) ≤ depth - 1) && formA none e)) :
    ∀ (t : T) (i : Nat), drop a i = t → i ≤ a.len → (∀ q, ahead a i = some q → calm q) → spec_odForm_l0 k rec_ a.rows depth spec_odForm_p3 t.rows i = some (decide ((dp t : Int) ≤ depth) && formA (ahead a i) t)
  | nil, i, hdr, hi, _ => by
    have : decide ((dp nil : Int) ≤ depth) = true := decide_eq_true (by simp only [dp]; omega)
    rw [this]; rfl
  | cons e c l, i, hdr, hi, hcalm => by
    have hs := drop_cons_size hdr
    simp only [rows, spec_odForm_l0, cell_T, l1In_eq, Option.bind_some]
    by_cases h2 : (decide (1 ≤ c) && decide (c ≤ 1000000)) = true
    · rw [if_pos h2, wid (n := depth - 1) (by omega) (by omega), hr e (by omega), Option.bind_some]
      by_cases h3 : (decide ((dp e : Int) ≤ depth - 1) && formA none e) = true
      · rw [if_pos h3]
        simp only [Bool.and_eq_true, decide_eq_true_eq] at h3
        have hce := form_calm h3.2
        have go : ∀ (hp : (match ahead a i with | none => true | some q => decide (0 < cmpT q e)) = true), spec_odForm_l0 k rec_ a.rows depth spec_odForm_p3 l.rows (i + 1) = some (decide ((dp (cons e c l) : Int) ≤ depth) && formA (ahead a i) (cons e c l)) := by
          intro hp
          rw [form_loop_all hd hk hc hr l (i + 1) (drop_succ hdr) (drop_lt hdr) (by rw [ahead_succ hdr]; intro q hq; cases hq; exact hce), ahead_succ hdr]
          have e1 : decide ((dp (cons e c l) : Int) ≤ depth) = decide ((dp l : Int) ≤ depth) := by simp only [dp]; congr 1; apply propext; omega
          have h6 : formA (ahead a i) (cons e c l) = formA (some e) l := by
            simp only [formA, h2, h3.2, Bool.true_and]
            cases hq : ahead a i with
            | none => simp
            | some q => rw [hq] at hp; simp only at hp; simp [hp]
          rw [e1, h6]
        by_cases h4 : (0 : Int) < (i : Int)
        · obtain ⟨q, qc, ql, hq, ha'⟩ := ahead_some (t := a) (i := i) (by omega) hi
          have hqs := drop_cons_size hq
          have hcq := hcalm q ha'
          rw [if_pos h4, wid (n := (i : Int) - 1) (by omega) (by have := a.len_size; have : cap = 1099511627776 := rfl; omega), row_T (n := i - 1) (by omega) hq, odCmp_eq k q e hcq hce (by omega) (by omega), Option.bind_some]
          by_cases h5 : cmpT q e ≤ 0
          · rw [if_pos h5]
            have : decide (0 < cmpT q e) = false := by simpa using h5
            simp [formA, ha', this]
          · rw [if_neg h5]
            exact go (by rw [ha']; simp; omega)
        · rw [if_neg h4]
          have : i = 0 := by omega
          subst this
          exact go rfl
      · rw [if_neg h3]
        have : (decide ((dp (cons e c l) : Int) ≤ depth) && formA (ahead a i) (cons e c l)) = false := by
          refine Bool.eq_false_iff.2 fun hx => h3 ?_
          rw [Bool.and_eq_true, decide_eq_true_eq] at hx ⊢
          obtain ⟨x1, x2⟩ := hx
          simp only [dp] at x1
          simp only [formA, Bool.and_eq_true] at x2
          exact ⟨by omega, x2.1.1.2⟩
        rw [this]
    · rw [if_neg h2]
      have : formA (ahead a i) (cons e c l) = false := by
        simp only [formA]
        cases hx : (decide (1 ≤ c) && decide (c ≤ 1000000)) with
        | true => exact absurd hx h2
        | false => simp
      rw [this, Bool.and_false]
theorem form_all : ∀ (k : Nat) (a : T) (depth : Int), a.size < k → a.size ≤ cap → -1 ≤ depth → depth ≤ 6 → spec_odForm k a.rows depth = some (decide ((dp a : Int) ≤ depth) && formA none a)
  | 0, _, _, h, _, _, _ => absurd h (Nat.not_lt_zero _)
  | k + 1, a, depth, h, hc, d0, d6 => by
    have hl := a.len_size
    simp only [spec_odForm, spec_odForm_b]
    by_cases h1 : depth < 0
    · rw [if_pos h1]
      have : decide ((dp a : Int) ≤ depth) = false := by simp; omega
      rw [this, Bool.false_and]
    · rw [if_neg h1, if_pos (by rw [rows_len]; omega), form_loop_all (a := a) (by omega) (by omega) hc (fun e he => form_all k e (depth - 1) (by omega) (by omega) (by omega) (by omega)) a 0 (drop_zero a) (by omega) (by intro q hq; cases hq)]
      rfl
theorem odGood_all (k : Nat) (a : T) (h : a.size < k) (hc : a.size ≤ cap) : spec_odGood k a.rows = some (ordP a) := by
  unfold spec_odGood
  obtain ⟨r, er, q1, q2, q3, q4⟩ := left_eq k a 6 60 h hc (by omega) (by omega) (by omega) (by omega)
  rw [er, Option.bind_some]
  by_cases h1 : 1 + nodesL a ≤ 60 ∧ dp a ≤ 6
  · have := q3 ⟨by omega, by omega⟩
    rw [if_pos (by omega), form_all k a 6 h hc (by omega) (by omega), Option.bind_some]
    have h2 : decide ((dp a : Int) ≤ 6) = true := by simp; omega
    simp only [ordP, h2, h1.1, h1.2, decide_true, Bool.true_and]
    cases formA none a <;> rfl
  · have := q4 (by omega)
    rw [if_neg (by omega)]
    have : ordP a = false := by
      cases hx : ordP a with
      | false => rfl
      | true => simp only [ordP, Bool.and_eq_true, decide_eq_true_eq] at hx; exact absurd hx.1 h1
    rw [this]
theorem odIf_all (k : Nat) (a : T) (h : a.size < k) (hc : a.size ≤ cap) : spec_odIf k a.rows = some ((toldT a).1.rows, (toldT a).2) := by
  unfold spec_odIf toldT
  rw [odGood_all k a h hc]
  simp only [Option.bind_some]
  cases ordP a with
  | false => rfl
  | true => rw [if_pos rfl, own_eq k a h hc]; rfl
end Go.Proofs.Try
