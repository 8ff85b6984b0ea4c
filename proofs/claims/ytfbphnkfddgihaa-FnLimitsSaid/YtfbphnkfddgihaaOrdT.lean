/- Ordinals as plain data: their rows, their order, what is right. -/
import Derived.Test.YtfbphnkfddgihaaAxGen
namespace Go.Proofs.Try
open Go Go.AX

theorem wid {n : Int} (h1 : -9223372036854775808 ≤ n) (h2 : n < 9223372036854775808) : IntKind.i64.wrap n = n := wrap_in h1 h2
/-- An ordinal: its terms, exponents and coefficients. -/
inductive T where
  | nil
  | cons (e : T) (c : Int) (l : T)
namespace T
def rows : T → Rw
  | nil => []
  | cons e c l => [.sl (rows e), .int .i64 c] :: rows l
def size : T → Nat
  | nil => 0
  | cons e _ l => size e + size l + 1
def len : T → Nat
  | nil => 0
  | cons _ _ l => len l + 1
def drop : T → Nat → T
  | t, 0 => t
  | nil, _ + 1 => nil
  | cons _ _ l, n + 1 => drop l n
def app : T → T → T
  | nil, b => b
  | cons e c l, b => cons e c (app l b)
@[simp] theorem drop_zero (t : T) : drop t 0 = t := by cases t <;> rfl
@[simp] theorem drop_nil (n : Nat) : drop nil n = nil := by cases n <;> rfl
@[simp] theorem rows_len (t : T) : (rows t).length = len t := by
  induction t with
  | nil => rfl
  | cons e c l _ ih => simp [rows, len, ih]
theorem len_size (t : T) : len t ≤ size t := by
  induction t with
  | nil => simp [len]
  | cons e c l _ ih => simp [len, size]; omega
@[simp] theorem rows_app (a b : T) : rows (app a b) = rows a ++ rows b := by
  induction a with
  | nil => rfl
  | cons e c l _ ih => simp [app, rows, ih]
theorem rows_drop (t : T) (i : Nat) : rows (drop t i) = (rows t).drop i := by
  induction t generalizing i with
  | nil => cases i <;> simp [drop, rows]
  | cons e c l _ ih => cases i with
    | zero => simp [drop]
    | succ i => simp [drop, rows, ih]
theorem rowsWide (t : T) : ∀ cs ∈ rows t, cs.length = 2 := by
  induction t with
  | nil => intro cs h; cases h
  | cons e c l _ ih =>
    intro cs h
    simp only [rows, List.mem_cons] at h
    rcases h with rfl | h
    · rfl
    · exact ih cs h
theorem rowsWide_drop (t : T) (i : Nat) : ∀ cs ∈ (rows t).drop i, cs.length = 2 := fun cs h => rowsWide t cs (List.mem_of_mem_drop h)
theorem drop_len (t : T) (i : Nat) : len (drop t i) = len t - i := by rw [← rows_len, rows_drop, List.length_drop, rows_len]
theorem drop_succ {t : T} {i : Nat} {e : T} {c : Int} {l : T} (h : drop t i = cons e c l) : drop t (i + 1) = l := by
  induction t generalizing i with
  | nil => simp at h
  | cons e' c' l' _ ih =>
    cases i with
    | zero => simp only [drop, cons.injEq] at h ⊢; simp [h.2.2]
    | succ i => exact ih h
theorem drop_size {t : T} {i : Nat} : size (drop t i) ≤ size t := by
  induction t generalizing i with
  | nil => simp
  | cons e c l _ ih =>
    cases i with
    | zero => simp
    | succ i => simp only [drop, size]; have := ih (i := i); omega
theorem drop_cons_size {t : T} {i : Nat} {e : T} {c : Int} {l : T} (h : drop t i = cons e c l) : size e + size l + 1 ≤ size t := by
  have := drop_size (t := t) (i := i); rw [h] at this; exact this
theorem drop_lt {t : T} {i : Nat} {e : T} {c : Int} {l : T} (h : drop t i = cons e c l) : i < len t := by
  have := drop_len t i; rw [h] at this; simp only [len] at this; omega
theorem drop_ge {t : T} {i : Nat} (h : drop t i = nil) : len t ≤ i := by
  have := drop_len t i; rw [h] at this; simp only [len] at this; omega
theorem drop_of_ge {t : T} {i : Nat} (h : len t ≤ i) : drop t i = nil := by
  have := drop_len t i
  cases hd : drop t i with
  | nil => rfl
  | cons e c l => rw [hd] at this; simp only [len] at this; omega
theorem rows_get {t : T} {i : Nat} {e : T} {c : Int} {l : T} (h : drop t i = cons e c l) : (rows t)[i]? = some [.sl (rows e), .int .i64 c] := by
  have := rows_drop t i
  rw [h] at this
  have h2 : ((rows t).drop i)[0]? = some [.sl (rows e), .int .i64 c] := by rw [← this]; rfl
  rwa [List.getElem?_drop, Nat.add_zero] at h2
@[simp] theorem app_nil (t : T) : app t nil = t := by
  induction t with
  | nil => rfl
  | cons e c l _ ih => simp [app, ih]
theorem app_assoc (a b c : T) : app (app a b) c = app a (app b c) := by
  induction a with
  | nil => rfl
  | cons e k l _ ih => simp [app, ih]
theorem size_app (a b : T) : (app a b).size = a.size + b.size := by
  induction a with
  | nil => simp [app, size]
  | cons e c l _ ih => simp [app, size, ih]; omega
theorem len_app (a b : T) : (app a b).len = a.len + b.len := by
  induction a with
  | nil => simp [app, len]
  | cons e c l _ ih => simp [app, len, ih]; omega
theorem rows_inj : ∀ {a b : T}, rows a = rows b → a = b
  | nil, nil, _ => rfl
  | nil, cons _ _ _, h => by simp [rows] at h
  | cons _ _ _, nil, h => by simp [rows] at h
  | cons e c l, cons f d m, h => by
    simp only [rows, List.cons.injEq, D.sl.injEq, D.int.injEq, true_and, and_true] at h
    obtain ⟨⟨h1, h2⟩, h3⟩ := h
    rw [rows_inj h1, h2, rows_inj h3]
end T
open T
theorem row_rows {α : Type} {t : T} {i : Int} {n : Nat} (hi : i = n) {e : T} {c : Int} {l : T} (h : drop t n = cons e c l) (F : Rw → List D → Option α) : (if 0 ≤ i then (match (rows t)[i.toNat]? with | some cs => F (rows t) cs | none => none) else none) = F (rows t) [.sl (rows e), .int .i64 c] := by
  subst hi
  rw [if_pos (by omega), Int.toNat_natCast, rows_get h]

/-! ### the order -/
def cmpI (a b : Int) : Int := if a < b then -1 else if b < a then 1 else 0
def cmpT : T → T → Int
  | nil, nil => 0
  | nil, cons _ _ _ => -1
  | cons _ _ _, nil => 1
  | cons e c l, cons f d m => if cmpT e f = 0 then (if cmpI c d = 0 then cmpT l m else cmpI c d) else cmpT e f
theorem cmpI_refl (a : Int) : cmpI a a = 0 := by simp [cmpI]
theorem cmpI_eq {a b : Int} : cmpI a b = 0 ↔ a = b := by unfold cmpI; split <;> (try split) <;> simp <;> omega
theorem cmpI_neg (a b : Int) : cmpI b a = - cmpI a b := by unfold cmpI; split <;> split <;> (try split) <;> omega
theorem cmpT_range (a b : T) : cmpT a b = -1 ∨ cmpT a b = 0 ∨ cmpT a b = 1 := by
  induction a generalizing b with
  | nil => cases b <;> simp [cmpT]
  | cons e c l ihe ihl =>
    cases b with
    | nil => simp [cmpT]
    | cons f d m =>
      simp only [cmpT]
      split
      · split
        · exact ihl m
        · unfold cmpI; split <;> (try split) <;> simp
      · exact ihe f
theorem cmpT_refl (a : T) : cmpT a a = 0 := by
  induction a with
  | nil => rfl
  | cons e c l ihe ihl => simp [cmpT, ihe, ihl, cmpI_refl]
theorem cmpT_eq {a b : T} : cmpT a b = 0 ↔ a = b := by
  induction a generalizing b with
  | nil => cases b <;> simp [cmpT]
  | cons e c l ihe ihl =>
    cases b with
    | nil => simp [cmpT]
    | cons f d m =>
      simp only [cmpT, cons.injEq]
      constructor
      · intro h
        split at h
        · rename_i h1
          split at h
          · rename_i h2; exact ⟨ihe.1 h1, cmpI_eq.1 h2, ihl.1 h⟩
          · rename_i h2; exact absurd h h2
        · rename_i h1; exact absurd h h1
      · rintro ⟨rfl, rfl, rfl⟩
        rw [if_pos (cmpT_refl e), if_pos (cmpI_refl c)]; exact cmpT_refl l
theorem cmpT_neg (a b : T) : cmpT b a = - cmpT a b := by
  induction a generalizing b with
  | nil => cases b <;> simp [cmpT]
  | cons e c l ihe ihl =>
    cases b with
    | nil => simp [cmpT]
    | cons f d m =>
      simp only [cmpT, ihe f, ihl m, cmpI_neg c d]
      split <;> split <;> (try split) <;> (try split) <;> omega
theorem cmpI_trans {a b c : Int} (h1 : cmpI a b < 0) (h2 : cmpI b c < 0) : cmpI a c < 0 := by
  unfold cmpI at *
  split at h1 <;> (try split at h1) <;> split at h2 <;> (try split at h2) <;> split <;> (try split) <;> omega
theorem cmpT_trans {a b c : T} (h1 : cmpT a b < 0) (h2 : cmpT b c < 0) : cmpT a c < 0 := by
  induction a generalizing b c with
  | nil =>
    cases b with
    | nil => simp [cmpT] at h1
    | cons f d m => cases c with
      | nil => simp [cmpT] at h2
      | cons g k n => simp [cmpT]
  | cons e x l ihe ihl =>
    cases b with
    | nil => simp [cmpT] at h1
    | cons f y m =>
      cases c with
      | nil => simp [cmpT] at h2
      | cons g z n =>
        simp only [cmpT] at h1 h2 ⊢
        by_cases q1 : cmpT e f = 0
        · rw [if_pos q1] at h1
          obtain rfl := cmpT_eq.1 q1
          by_cases q2 : cmpT e g = 0
          · rw [if_pos q2] at h2 ⊢
            by_cases q3 : cmpI x y = 0
            · rw [if_pos q3] at h1
              obtain rfl := cmpI_eq.1 q3
              by_cases q4 : cmpI x z = 0
              · rw [if_pos q4] at h2 ⊢; exact ihl h1 h2
              · rw [if_neg q4] at h2 ⊢; exact h2
            · rw [if_neg q3] at h1
              by_cases q4 : cmpI y z = 0
              · rw [if_pos q4] at h2
                obtain rfl := cmpI_eq.1 q4
                rw [if_neg q3]; exact h1
              · rw [if_neg q4] at h2
                have := cmpI_trans h1 h2
                rw [if_neg (by omega)]; exact this
          · rw [if_neg q2] at h2 ⊢; exact h2
        · rw [if_neg q1] at h1
          by_cases q2 : cmpT f g = 0
          · obtain rfl := cmpT_eq.1 q2
            rw [if_neg q1]; exact h1
          · rw [if_neg q2] at h2
            have := ihe h1 h2
            rw [if_neg (by omega)]; exact this

/-! ### what is right -/
def nodesL : T → Nat
  | nil => 0
  | cons e _ l => 2 + nodesL e + nodesL l
def dp : T → Nat
  | nil => 0
  | cons e _ l => max (1 + dp e) (dp l)
/-- Coefficients in their range, exponents that fall; p: the exponent ahead. -/
def formA : Option T → T → Bool
  | _, nil => true
  | p, cons e c l => decide (1 ≤ c) && decide (c ≤ 1000000) && formA none e && (match p with | none => true | some q => decide (0 < cmpT q e)) && formA (some e) l
def ordP (t : T) : Bool := decide (1 + nodesL t ≤ 60) && decide (dp t ≤ 6) && formA none t
theorem nodes_size (t : T) : nodesL t = 2 * size t := by
  induction t with
  | nil => rfl
  | cons e c l ihe ihl => simp only [nodesL, size, ihe, ihl]; omega
theorem ordP_size {t : T} (h : ordP t = true) : size t ≤ 30 := by
  simp only [ordP, Bool.and_eq_true, decide_eq_true_eq] at h
  have := nodes_size t
  omega
end Go.Proofs.Try
