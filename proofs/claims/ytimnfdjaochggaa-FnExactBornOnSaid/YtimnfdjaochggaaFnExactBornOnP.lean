/- What the printed functions compute: plain data. -/
import Derived.Test.YtimnfdjaochggaaBO0
import Derived.Lib.Strings
import Derived.Lib.Join
import Derived.Lib.ItoaLen
set_option linter.unusedVariables false
set_option linter.unusedSimpArgs false
namespace Go.Proofs.Try
open Go Go.AX

theorem wid {n : Int} (h1 : -9223372036854775808 ≤ n) (h2 : n < 9223372036854775808) : IntKind.i64.wrap n = n := wrap_in h1 h2
/-- An ordinal: its terms, exponents and coefficients. -/
inductive T where
  | nil
  | cons (e : T) (c : Int) (l : T)
namespace T
def rows : T → Rw
  | nil => []
  | cons e c l => [.sl (rows e), .int .i64 c] :: rows l
def size : T → Nat
  | nil => 0
  | cons e _ l => size e + size l + 1
def len : T → Nat
  | nil => 0
  | cons _ _ l => len l + 1
def drop : T → Nat → T
  | t, 0 => t
  | nil, _ + 1 => nil
  | cons _ _ l, n + 1 => drop l n
def app : T → T → T
  | nil, b => b
  | cons e c l, b => cons e c (app l b)
@[simp] theorem drop_zero (t : T) : drop t 0 = t := by cases t <;> rfl
@[simp] theorem drop_nil (n : Nat) : drop nil n = nil := by cases n <;> rfl
@[simp] theorem rows_len (t : T) : (rows t).length = len t := by
  induction t with
  | nil => rfl
  | cons e c l _ ih => simp [rows, len, ih]
theorem len_size (t : T) : len t ≤ size t := by
  induction t with
  | nil => simp [len]
  | cons e c l _ ih => simp [len, size]; omega
@[simp] theorem rows_app (a b : T) : rows (app a b) = rows a ++ rows b := by
  induction a with
  | nil => rfl
  | cons e c l _ ih => simp [app, rows, ih]
theorem rows_drop (t : T) (i : Nat) : rows (drop t i) = (rows t).drop i := by
  induction t generalizing i with
  | nil => cases i <;> simp [drop, rows]
  | cons e c l _ ih => cases i with
    | zero => simp [drop]
    | succ i => simp [drop, rows, ih]
theorem rowsWide (t : T) : ∀ cs ∈ rows t, cs.length = 2 := by
  induction t with
  | nil => intro cs h; cases h
  | cons e c l _ ih =>
    intro cs h
    simp only [rows, List.mem_cons] at h
    rcases h with rfl | h
    · rfl
    · exact ih cs h
theorem rowsWide_drop (t : T) (i : Nat) : ∀ cs ∈ (rows t).drop i, cs.length = 2 := fun cs h => rowsWide t cs (List.mem_of_mem_drop h)
theorem drop_len (t : T) (i : Nat) : len (drop t i) = len t - i := by rw [← rows_len, rows_drop, List.length_drop, rows_len]
theorem drop_succ {t : T} {i : Nat} {e : T} {c : Int} {l : T} (h : drop t i = cons e c l) : drop t (i + 1) = l := by
  induction t generalizing i with
  | nil => simp at h
  | cons e' c' l' _ ih =>
    cases i with
    | zero => simp only [drop, cons.injEq] at h ⊢; simp [h.2.2]
    | succ i => exact ih h
theorem drop_size {t : T} {i : Nat} : size (drop t i) ≤ size t := by
  induction t generalizing i with
  | nil => simp
  | cons e c l _ ih =>
    cases i with
    | zero => simp
    | succ i => simp only [drop, size]; have := ih (i := i); omega
theorem drop_cons_size {t : T} {i : Nat} {e : T} {c : Int} {l : T} (h : drop t i = cons e c l) : size e + size l + 1 ≤ size t := by
  have := drop_size (t := t) (i := i); rw [h] at this; exact this
theorem drop_lt {t : T} {i : Nat} {e : T} {c : Int} {l : T} (h : drop t i = cons e c l) : i < len t := by
  have := drop_len t i; rw [h] at this; simp only [len] at this; omega
theorem drop_ge {t : T} {i : Nat} (h : drop t i = nil) : len t ≤ i := by
  have := drop_len t i; rw [h] at this; simp only [len] at this; omega
theorem drop_of_ge {t : T} {i : Nat} (h : len t ≤ i) : drop t i = nil := by
  have := drop_len t i
  cases hd : drop t i with
  | nil => rfl
  | cons e c l => rw [hd] at this; simp only [len] at this; omega
theorem rows_get {t : T} {i : Nat} {e : T} {c : Int} {l : T} (h : drop t i = cons e c l) : (rows t)[i]? = some [.sl (rows e), .int .i64 c] := by
  have := rows_drop t i
  rw [h] at this
  have h2 : ((rows t).drop i)[0]? = some [.sl (rows e), .int .i64 c] := by rw [← this]; rfl
  rwa [List.getElem?_drop, Nat.add_zero] at h2
@[simp] theorem app_nil (t : T) : app t nil = t := by
  induction t with
  | nil => rfl
  | cons e c l _ ih => simp [app, ih]
theorem app_assoc (a b c : T) : app (app a b) c = app a (app b c) := by
  induction a with
  | nil => rfl
  | cons e k l _ ih => simp [app, ih]
theorem size_app (a b : T) : (app a b).size = a.size + b.size := by
  induction a with
  | nil => simp [app, size]
  | cons e c l _ ih => simp [app, size, ih]; omega
theorem len_app (a b : T) : (app a b).len = a.len + b.len := by
  induction a with
  | nil => simp [app, len]
  | cons e c l _ ih => simp [app, len, ih]; omega
theorem rows_inj : ∀ {a b : T}, rows a = rows b → a = b
  | nil, nil, _ => rfl
  | nil, cons _ _ _, h => by simp [rows] at h
  | cons _ _ _, nil, h => by simp [rows] at h
  | cons e c l, cons f d m, h => by
    simp only [rows, List.cons.injEq, D.sl.injEq, D.int.injEq, true_and, and_true] at h
    obtain ⟨⟨h1, h2⟩, h3⟩ := h
    rw [rows_inj h1, h2, rows_inj h3]
end T
open T
theorem row_rows {α : Type} {t : T} {i : Int} {n : Nat} (hi : i = n) {e : T} {c : Int} {l : T} (h : drop t n = cons e c l) (F : Rw → List D → Option α) : (if 0 ≤ i then (match (rows t)[i.toNat]? with | some cs => F (rows t) cs | none => none) else none) = F (rows t) [.sl (rows e), .int .i64 c] := by
  subst hi
  rw [if_pos (by omega), Int.toNat_natCast, rows_get h]

/-! ### the order -/
def cmpI (a b : Int) : Int := if a < b then -1 else if b < a then 1 else 0
def cmpT : T → T → Int
  | nil, nil => 0
  | nil, cons _ _ _ => -1
  | cons _ _ _, nil => 1
  | cons e c l, cons f d m => if cmpT e f = 0 then (if cmpI c d = 0 then cmpT l m else cmpI c d) else cmpT e f
theorem cmpI_refl (a : Int) : cmpI a a = 0 := by simp [cmpI]
theorem cmpI_eq {a b : Int} : cmpI a b = 0 ↔ a = b := by unfold cmpI; split <;> (try split) <;> simp <;> omega
theorem cmpI_neg (a b : Int) : cmpI b a = - cmpI a b := by unfold cmpI; split <;> split <;> (try split) <;> omega
theorem cmpT_range (a b : T) : cmpT a b = -1 ∨ cmpT a b = 0 ∨ cmpT a b = 1 := by
  induction a generalizing b with
  | nil => cases b <;> simp [cmpT]
  | cons e c l ihe ihl =>
    cases b with
    | nil => simp [cmpT]
    | cons f d m =>
      simp only [cmpT]
      split
      · split
        · exact ihl m
        · unfold cmpI; split <;> (try split) <;> simp
      · exact ihe f
theorem cmpT_refl (a : T) : cmpT a a = 0 := by
  induction a with
  | nil => rfl
  | cons e c l ihe ihl => simp [cmpT, ihe, ihl, cmpI_refl]
theorem cmpT_eq {a b : T} : cmpT a b = 0 ↔ a = b := by
  induction a generalizing b with
  | nil => cases b <;> simp [cmpT]
  | cons e c l ihe ihl =>
    cases b with
    | nil => simp [cmpT]
    | cons f d m =>
      simp only [cmpT, cons.injEq]
      constructor
      · intro h
        split at h
        · rename_i h1
          split at h
          · rename_i h2; exact ⟨ihe.1 h1, cmpI_eq.1 h2, ihl.1 h⟩
          · rename_i h2; exact absurd h h2
        · rename_i h1; exact absurd h h1
      · rintro ⟨rfl, rfl, rfl⟩
        rw [if_pos (cmpT_refl e), if_pos (cmpI_refl c)]; exact cmpT_refl l
theorem cmpT_neg (a b : T) : cmpT b a = - cmpT a b := by
  induction a generalizing b with
  | nil => cases b <;> simp [cmpT]
  | cons e c l ihe ihl =>
    cases b with
    | nil => simp [cmpT]
    | cons f d m =>
      simp only [cmpT, ihe f, ihl m, cmpI_neg c d]
      split <;> split <;> (try split) <;> (try split) <;> omega
theorem cmpI_trans {a b c : Int} (h1 : cmpI a b < 0) (h2 : cmpI b c < 0) : cmpI a c < 0 := by
  unfold cmpI at *
  split at h1 <;> (try split at h1) <;> split at h2 <;> (try split at h2) <;> split <;> (try split) <;> omega
theorem cmpT_trans {a b c : T} (h1 : cmpT a b < 0) (h2 : cmpT b c < 0) : cmpT a c < 0 := by
  induction a generalizing b c with
  | nil =>
    cases b with
    | nil => simp [cmpT] at h1
    | cons f d m => cases c with
      | nil => simp [cmpT] at h2
      | cons g k n => simp [cmpT]
  | cons e x l ihe ihl =>
    cases b with
    | nil => simp [cmpT] at h1
    | cons f y m =>
      cases c with
      | nil => simp [cmpT] at h2
      | cons g z n =>
        simp only [cmpT] at h1 h2 ⊢
        by_cases q1 : cmpT e f = 0
        · rw [if_pos q1] at h1
          obtain rfl := cmpT_eq.1 q1
          by_cases q2 : cmpT e g = 0
          · rw [if_pos q2] at h2 ⊢
            by_cases q3 : cmpI x y = 0
            · rw [if_pos q3] at h1
              obtain rfl := cmpI_eq.1 q3
              by_cases q4 : cmpI x z = 0
              · rw [if_pos q4] at h2 ⊢; exact ihl h1 h2
              · rw [if_neg q4] at h2 ⊢; exact h2
            · rw [if_neg q3] at h1
              by_cases q4 : cmpI y z = 0
              · rw [if_pos q4] at h2
                obtain rfl := cmpI_eq.1 q4
                rw [if_neg q3]; exact h1
              · rw [if_neg q4] at h2
                have := cmpI_trans h1 h2
                rw [if_neg (by omega)]; exact this
          · rw [if_neg q2] at h2 ⊢; exact h2
        · rw [if_neg q1] at h1
          by_cases q2 : cmpT f g = 0
          · obtain rfl := cmpT_eq.1 q2
            rw [if_neg q1]; exact h1
          · rw [if_neg q2] at h2
            have := ihe h1 h2
            rw [if_neg (by omega)]; exact this

/-! ### what is right -/
def nodesL : T → Nat
  | nil => 0
  | cons e _ l => 2 + nodesL e + nodesL l
def dp : T → Nat
  | nil => 0
  | cons e _ l => max (1 + dp e) (dp l)
/-- Coefficients in their range, exponents that fall; p: the exponent ahead. -/
def formA : Option T → T → Bool
  | _, nil => true
  | p, cons e c l => decide (1 ≤ c) && decide (c ≤ 1000000) && formA none e && (match p with | none => true | some q => decide (0 < cmpT q e)) && formA (some e) l
def ordP (t : T) : Bool := decide (1 + nodesL t ≤ 60) && decide (dp t ≤ 6) && formA none t
theorem nodes_size (t : T) : nodesL t = 2 * size t := by
  induction t with
  | nil => rfl
  | cons e c l ihe ihl => simp only [nodesL, size, ihe, ihl]; omega
theorem ordP_size {t : T} (h : ordP t = true) : size t ≤ 30 := by
  simp only [ordP, Bool.and_eq_true, decide_eq_true_eq] at h
  have := nodes_size t
  omega
end Go.Proofs.Try

namespace Go.Proofs.Try
open Go Go.AX
/-- A surreal number: its terms, exponents and coefficients (fractions). -/
inductive S where
  | nil
  | cons (e : S) (c c₂ : Int) (l : S)
namespace S
def rowsS : S → Rw
  | nil => []
  | cons e c c₂ l => [.sl (rowsS e), .int .i64 c, .int .i64 c₂] :: rowsS l
def sizeS : S → Nat
  | nil => 0
  | cons e _ _ l => sizeS e + sizeS l + 1
def lenS : S → Nat
  | nil => 0
  | cons _ _ _ l => lenS l + 1
def dropS : S → Nat → S
  | t, 0 => t
  | nil, _ + 1 => nil
  | cons _ _ _ l, n + 1 => dropS l n
def appS : S → S → S
  | nil, b => b
  | cons e c c₂ l, b => cons e c c₂ (appS l b)
@[simp] theorem drop_zeroS (t : S) : dropS t 0 = t := by cases t <;> rfl
@[simp] theorem drop_nilS (n : Nat) : dropS nil n = nil := by cases n <;> rfl
@[simp] theorem rowsS_len (t : S) : (rowsS t).length = lenS t := by
  induction t with
  | nil => rfl
  | cons e c c₂ l _ ih => simp [rowsS, lenS, ih]
theorem len_sizeS (t : S) : lenS t ≤ sizeS t := by
  induction t with
  | nil => simp [lenS]
  | cons e c c₂ l _ ih => simp [lenS, sizeS]; omega
@[simp] theorem rows_appS (a b : S) : rowsS (appS a b) = rowsS a ++ rowsS b := by
  induction a with
  | nil => rfl
  | cons e c c₂ l _ ih => simp [appS, rowsS, ih]
theorem rows_dropS (t : S) (i : Nat) : rowsS (dropS t i) = (rowsS t).drop i := by
  induction t generalizing i with
  | nil => cases i <;> simp [dropS, rowsS]
  | cons e c c₂ l _ ih => cases i with
    | zero => simp [dropS]
    | succ i => simp [dropS, rowsS, ih]
theorem rowsWideS (t : S) : ∀ cs ∈ rowsS t, cs.length = 3 := by
  induction t with
  | nil => intro cs h; cases h
  | cons e c c₂ l _ ih =>
    intro cs h
    simp only [rowsS, List.mem_cons] at h
    rcases h with rfl | h
    · rfl
    · exact ih cs h
theorem rowsWide_dropS (t : S) (i : Nat) : ∀ cs ∈ (rowsS t).drop i, cs.length = 3 := fun cs h => rowsWideS t cs (List.mem_of_mem_drop h)
theorem drop_lenS (t : S) (i : Nat) : lenS (dropS t i) = lenS t - i := by rw [← rowsS_len, rows_dropS, List.length_drop, rowsS_len]
theorem drop_succS {t : S} {i : Nat} {e : S} {c c₂ : Int} {l : S} (h : dropS t i = cons e c c₂ l) : dropS t (i + 1) = l := by
  induction t generalizing i with
  | nil => simp at h
  | cons e' c' c₂' l' _ ih =>
    cases i with
    | zero => simp only [dropS, cons.injEq] at h ⊢; simp [h.2.2]
    | succ i => exact ih h
theorem drop_sizeS {t : S} {i : Nat} : sizeS (dropS t i) ≤ sizeS t := by
  induction t generalizing i with
  | nil => simp
  | cons e c c₂ l _ ih =>
    cases i with
    | zero => simp
    | succ i => simp only [dropS, sizeS]; have := ih (i := i); omega
theorem drop_cons_sizeS {t : S} {i : Nat} {e : S} {c c₂ : Int} {l : S} (h : dropS t i = cons e c c₂ l) : sizeS e + sizeS l + 1 ≤ sizeS t := by
  have := drop_sizeS (t := t) (i := i); rw [h] at this; exact this
theorem drop_ltS {t : S} {i : Nat} {e : S} {c c₂ : Int} {l : S} (h : dropS t i = cons e c c₂ l) : i < lenS t := by
  have := drop_lenS t i; rw [h] at this; simp only [lenS] at this; omega
theorem drop_geS {t : S} {i : Nat} (h : dropS t i = nil) : lenS t ≤ i := by
  have := drop_lenS t i; rw [h] at this; simp only [lenS] at this; omega
theorem drop_of_geS {t : S} {i : Nat} (h : lenS t ≤ i) : dropS t i = nil := by
  have := drop_lenS t i
  cases hd : dropS t i with
  | nil => rfl
  | cons e c c₂ l => rw [hd] at this; simp only [lenS] at this; omega
theorem rows_getS {t : S} {i : Nat} {e : S} {c c₂ : Int} {l : S} (h : dropS t i = cons e c c₂ l) : (rowsS t)[i]? = some [.sl (rowsS e), .int .i64 c, .int .i64 c₂] := by
  have := rows_dropS t i
  rw [h] at this
  have h2 : ((rowsS t).drop i)[0]? = some [.sl (rowsS e), .int .i64 c, .int .i64 c₂] := by rw [← this]; rfl
  rwa [List.getElem?_drop, Nat.add_zero] at h2
@[simp] theorem app_nilS (t : S) : appS t nil = t := by
  induction t with
  | nil => rfl
  | cons e c c₂ l _ ih => simp [appS, ih]
theorem app_assocS (a b c : S) : appS (appS a b) c = appS a (appS b c) := by
  induction a with
  | nil => rfl
  | cons e k k₂ l _ ih => simp [appS, ih]
theorem size_appS (a b : S) : (appS a b).sizeS = a.sizeS + b.sizeS := by
  induction a with
  | nil => simp [appS, sizeS]
  | cons e c c₂ l _ ih => simp [appS, sizeS, ih]; omega
theorem len_appS (a b : S) : (appS a b).lenS = a.lenS + b.lenS := by
  induction a with
  | nil => simp [appS, lenS]
  | cons e c c₂ l _ ih => simp [appS, lenS, ih]; omega
theorem rows_injS : ∀ {a b : S}, rowsS a = rowsS b → a = b
  | nil, nil, _ => rfl
  | nil, cons _ _ _ _, h => by simp [rowsS] at h
  | cons _ _ _ _, nil, h => by simp [rowsS] at h
  | cons e c c₂ l, cons f d d₂ m, h => by
    simp only [rowsS, List.cons.injEq, D.sl.injEq, D.int.injEq, true_and, and_true] at h
    obtain ⟨⟨h1, h2⟩, h3⟩ := h
    rw [rows_injS h1, h2.1, h2.2, rows_injS h3]
end S
open S
theorem lenSI (t : S) : ((t.rowsS.length : Nat) : Int) = (t.lenS : Int) := by rw [rowsS_len]
end Go.Proofs.Try

namespace Go.Proofs.Try
open Go Go.AX
theorem gcd_step (a b : Int) : Int.gcd b (a.tmod b) = Int.gcd a b := by
  show Nat.gcd b.natAbs (a.tmod b).natAbs = Nat.gcd a.natAbs b.natAbs
  rw [Int.natAbs_tmod, Nat.gcd_comm b.natAbs, ← Nat.gcd_rec, Nat.gcd_comm]
theorem halve (a b : Nat) (h : 0 < b) : b % (a % b) ≤ b / 2 ∨ a % b = 0 := by
  by_cases h0 : a % b = 0
  · exact .inr h0
  · left
    have h1 := Nat.mod_lt a h
    by_cases h2 : a % b ≤ b / 2
    · have := Nat.mod_lt b (show 0 < a % b by omega); omega
    · have h3 : b % (a % b) = b - a % b := by
        rw [Nat.mod_eq_sub_mod (by omega), Nat.mod_eq_of_lt (by omega)]
      omega
theorem igcd_loop {K : Int → Option Int} : ∀ (f n : Nat) (a b : Int), b.natAbs < 2 ^ f → 2 * f + 1 ≤ n → ∃ g : Int, impl_gcd_l0 K n a b = K g ∧ g.natAbs = Int.gcd a b
  | f, 0, _, _, _, h => absurd h (by omega)
  | 0, n + 1, a, b, hb, _ => by
    have : b = 0 := by omega
    subst this
    exact ⟨a, by simp only [impl_gcd_l0, if_true], by simp⟩
  | f + 1, n + 1, a, b, hb, hn => by
    obtain ⟨m, rfl⟩ : ∃ m, n = m + 1 := ⟨n - 1, by omega⟩
    simp only [impl_gcd_l0]
    by_cases h0 : b = 0
    · subst h0
      rw [if_pos rfl]
      exact ⟨a, rfl, by simp⟩
    · rw [if_neg h0, if_pos h0]
      by_cases h1 : a.tmod b = 0
      · rw [if_pos h1]
        exact ⟨b, rfl, by rw [← gcd_step, h1]; simp⟩
      · rw [if_neg h1, if_pos h1]
        have hh := halve a.natAbs b.natAbs (by omega)
        have hz : a.natAbs % b.natAbs ≠ 0 := by rw [← Int.natAbs_tmod]; omega
        have e1 : (b.tmod (a.tmod b)).natAbs = b.natAbs % (a.natAbs % b.natAbs) := by rw [Int.natAbs_tmod, Int.natAbs_tmod]
        have hp : 2 ^ (f + 1) = 2 * 2 ^ f := by rw [Nat.pow_succ, Nat.mul_comm]
        obtain ⟨g, e, hg⟩ := igcd_loop f m (a.tmod b) (b.tmod (a.tmod b)) (by rw [e1]; omega) (by omega)
        exact ⟨g, e, by rw [hg, gcd_step, gcd_step]⟩
theorem sgcd_loop {K : Int → Option Int} : ∀ (f n : Nat) (a b : Int), b.natAbs < 2 ^ f → 2 * f + 1 ≤ n → ∃ g : Int, spec_shGcd_l0 K n a b = K g ∧ g.natAbs = Int.gcd a b
  | f, 0, _, _, _, h => absurd h (by omega)
  | 0, n + 1, a, b, hb, _ => by
    have : b = 0 := by omega
    subst this
    exact ⟨a, by simp only [spec_shGcd_l0, if_true], by simp⟩
  | f + 1, n + 1, a, b, hb, hn => by
    obtain ⟨m, rfl⟩ : ∃ m, n = m + 1 := ⟨n - 1, by omega⟩
    simp only [spec_shGcd_l0]
    by_cases h0 : b = 0
    · subst h0
      rw [if_pos rfl]
      exact ⟨a, rfl, by simp⟩
    · rw [if_neg h0, if_pos h0]
      by_cases h1 : a.tmod b = 0
      · rw [if_pos h1]
        exact ⟨b, rfl, by rw [← gcd_step, h1]; simp⟩
      · rw [if_neg h1, if_pos h1]
        have hh := halve a.natAbs b.natAbs (by omega)
        have hz : a.natAbs % b.natAbs ≠ 0 := by rw [← Int.natAbs_tmod]; omega
        have e1 : (b.tmod (a.tmod b)).natAbs = b.natAbs % (a.natAbs % b.natAbs) := by rw [Int.natAbs_tmod, Int.natAbs_tmod]
        have hp : 2 ^ (f + 1) = 2 * 2 ^ f := by rw [Nat.pow_succ, Nat.mul_comm]
        obtain ⟨g, e, hg⟩ := sgcd_loop f m (a.tmod b) (b.tmod (a.tmod b)) (by rw [e1]; omega) (by omega)
        exact ⟨g, e, by rw [hg, gcd_step, gcd_step]⟩
theorem gcd_le (a b : Int) : Int.gcd a b ≤ max a.natAbs b.natAbs := by
  show Nat.gcd a.natAbs b.natAbs ≤ _
  by_cases h : a.natAbs = 0
  · rw [h, Nat.gcd_zero_left]; omega
  · have := Nat.gcd_le_left b.natAbs (show 0 < a.natAbs by omega); omega
theorem lt64 {b : Int} (hb : -4000000000000000000 ≤ b ∧ b ≤ 4000000000000000000) : b.natAbs < 2 ^ 64 := by
  have : (2 : Nat) ^ 64 = 18446744073709551616 := by decide
  omega
theorem dvd_cop {d n g : Int} (h : Int.gcd n d = 1) (hd : d ∣ n * g) : d ∣ g := by
  have h1 : d.natAbs ∣ n.natAbs * g.natAbs := by rw [← Int.natAbs_mul]; exact Int.natAbs_dvd_natAbs.2 hd
  have h2 : Nat.Coprime d.natAbs n.natAbs := by
    show Nat.gcd d.natAbs n.natAbs = 1
    rw [Nat.gcd_comm]; exact h
  exact Int.natAbs_dvd_natAbs.1 (h2.dvd_of_dvd_mul_left h1)
theorem igcd_eq {k : Nat} {a b : Int} (hk : 200 < k) (ha : -4000000000000000000 ≤ a ∧ a ≤ 4000000000000000000) (hb : -4000000000000000000 ≤ b ∧ b ≤ 4000000000000000000) : impl_gcd k a b = some (Int.gcd a b : Int) := by
  unfold impl_gcd
  obtain ⟨g, e, hg⟩ := igcd_loop (K := fun v9 => (impl_size v9).bind fun y14 => some y14) 64 k a b (lt64 hb) (by omega)
  have hl := gcd_le a b
  rw [e]
  unfold impl_size
  rw [Option.bind_some, wid (by omega) (by omega)]
  congr 1
  split <;> omega
theorem sgcd_eq {k : Nat} {a b : Int} (hk : 200 < k) (ha : -4000000000000000000 ≤ a ∧ a ≤ 4000000000000000000) (hb : -4000000000000000000 ≤ b ∧ b ≤ 4000000000000000000) : spec_shGcd k a b = some (Int.gcd a b : Int) := by
  unfold spec_shGcd
  obtain ⟨g, e, hg⟩ := sgcd_loop (K := fun v9 => (spec_l1Abs v9).bind fun y14 => some y14) 64 k a b (lt64 hb) (by omega)
  have hl := gcd_le a b
  rw [e]
  unfold spec_l1Abs spec_l1Most
  rw [wid (by omega) (by omega)]
  split
  · simp only [Option.bind_some]; congr 1; omega
  · simp only [Option.bind_some]; congr 1; omega
/-- A fraction that is right. -/
def frP (n d : Int) : Bool := (decide (1 ≤ d) && decide (d ≤ 1000000)) && ((decide (-1000000 ≤ n) && decide (n ≤ 1000000)) && decide (Int.gcd n d = 1))
theorem iIn_eq (n a b : Int) : impl_in n a b = some (decide (a ≤ n) && decide (n ≤ b)) := by
  unfold impl_in
  by_cases h1 : a ≤ n <;> by_cases h2 : n ≤ b <;> simp [h1, h2]
theorem sIn_eq (n a b : Int) : spec_l1In n a b = some (decide (a ≤ n) && decide (n ≤ b)) := by
  unfold spec_l1In
  by_cases h1 : a ≤ n <;> by_cases h2 : n ≤ b <;> simp [h1, h2]
theorem IsFraction_eq {k : Nat} (hk : 200 < k) (n d : Int) : impl_IsFraction k n d = some (frP n d) := by
  unfold impl_IsFraction frP
  rw [iIn_eq, iIn_eq]
  simp only [Option.bind_some]
  cases h1 : (decide (1 ≤ d) && decide (d ≤ 1000000)) with
  | false => simp
  | true =>
    cases h2 : (decide (-1000000 ≤ n) && decide (n ≤ 1000000)) with
    | false => simp
    | true =>
      simp only [Bool.and_eq_true, decide_eq_true_eq] at h1 h2
      rw [if_pos rfl, if_pos rfl, igcd_eq hk (by omega) (by omega), Option.bind_some]
      by_cases h3 : Int.gcd n d = 1
      · rw [if_pos (by omega), h3]; rfl
      · rw [if_neg (by omega)]; simp [h3]
theorem frP_in {n d : Int} (h : frP n d = true) : (1 ≤ d ∧ d ≤ 1000000) ∧ (-1000000 ≤ n ∧ n ≤ 1000000) ∧ Int.gcd n d = 1 := by
  simp only [frP, Bool.and_eq_true, decide_eq_true_eq] at h
  exact h
/-! ### their order -/
def cmpF (n d m g : Int) : Int := cmpI (n * g) (m * d)
theorem prod_in {a b B C : Int} (ha : -B ≤ a ∧ a ≤ B) (hb : 0 ≤ b ∧ b ≤ C) : -(B * C) ≤ a * b ∧ a * b ≤ B * C := by
  have hB : 0 ≤ B := by omega
  have h1 : a * b ≤ B * b := Int.mul_le_mul_of_nonneg_right ha.2 hb.1
  have h2 : B * b ≤ B * C := Int.mul_le_mul_of_nonneg_left hb.2 hB
  have h3 : -B * b ≤ a * b := Int.mul_le_mul_of_nonneg_right ha.1 hb.1
  rw [Int.neg_mul] at h3
  omega
theorem cmp_inB {n d m g : Int} (h1 : frP n d = true) (h2 : frP m g = true) : (-1000000000000 ≤ n * g ∧ n * g ≤ 1000000000000) ∧ (-1000000000000 ≤ m * d ∧ m * d ≤ 1000000000000) := by
  obtain ⟨a1, a2, _⟩ := frP_in h1
  obtain ⟨b1, b2, _⟩ := frP_in h2
  have q1 := prod_in (B := 1000000) (C := 1000000) a2 ⟨by omega, b1.2⟩
  have q2 := prod_in (B := 1000000) (C := 1000000) b2 ⟨by omega, a1.2⟩
  omega
theorem cmpI_sub (a b : Int) : cmpI (a - b) 0 = cmpI a b := by
  unfold cmpI
  by_cases h1 : a < b
  · rw [if_pos (by omega), if_pos h1]
  · rw [if_neg (by omega), if_neg h1]
    by_cases h2 : b < a
    · rw [if_pos (by omega), if_pos h2]
    · rw [if_neg (by omega), if_neg h2]
theorem cmpF_eq {n d m g : Int} (h1 : frP n d = true) (h2 : frP m g = true) : cmpF n d m g = 0 ↔ n = m ∧ d = g := by
  obtain ⟨a1, a2, a3⟩ := frP_in h1
  obtain ⟨b1, b2, b3⟩ := frP_in h2
  unfold cmpF
  rw [cmpI_eq]
  constructor
  · intro h
    have d1 : d ∣ g := by
      have : d ∣ n * g := ⟨m, by rw [h, Int.mul_comm]⟩
      exact dvd_cop a3 this
    have d2 : g ∣ d := by
      have : g ∣ m * d := ⟨n, by rw [← h, Int.mul_comm]⟩
      exact dvd_cop b3 this
    have e1 := Int.le_of_dvd (by omega) d1
    have e2 := Int.le_of_dvd (by omega) d2
    have e : d = g := by omega
    subst e
    exact ⟨Int.eq_of_mul_eq_mul_right (by omega) h, rfl⟩
  · rintro ⟨rfl, rfl⟩; rfl
theorem cmpF_neg (n d m g : Int) : cmpF m g n d = - cmpF n d m g := cmpI_neg _ _
end Go.Proofs.Try

namespace Go.Proofs.Try
open Go Go.AX
/-- A fraction in lowest terms. -/
def mkF (n d : Int) : Int × Int := (n.tdiv (Int.gcd n d : Int), d.tdiv (Int.gcd n d : Int))
def addF (n d m g : Int) : Int × Int := mkF (n * g + m * d) (d * g)
def mulF (n d m g : Int) : Int × Int := mkF (n * m) (d * g)
theorem tdiv_in {a b : Int} (h : -4000000000000000000 ≤ a ∧ a ≤ 4000000000000000000) : -4000000000000000000 ≤ a.tdiv b ∧ a.tdiv b ≤ 4000000000000000000 := by
  have h1 : (a.tdiv b).natAbs = a.natAbs / b.natAbs := Int.natAbs_tdiv a b
  have h2 := Nat.div_le_self a.natAbs b.natAbs
  omega
theorem wtdiv {a b : Int} (h : -4000000000000000000 ≤ a ∧ a ≤ 4000000000000000000) : IntKind.i64.wrap (a.tdiv b) = a.tdiv b := by
  have := tdiv_in (b := b) h
  exact wid (by omega) (by omega)
theorem gcd_ne {n d : Int} (hd : 0 < d) : (Int.gcd n d : Int) ≠ 0 := by
  have : Int.gcd n d ≠ 0 := by
    rw [Ne, Int.gcd_eq_zero_iff]; omega
  omega
theorem made_eq {k : Nat} {n d : Int} (hk : 200 < k) (hd : 0 < d) (hn : -4000000000000000000 ≤ n ∧ n ≤ 4000000000000000000) (hd2 : d ≤ 4000000000000000000) :
    impl_made k n d = some (if frP (mkF n d).1 (mkF n d).2 = true then ((mkF n d).1, (mkF n d).2, true) else (0, 0, false)) := by
  have hg := gcd_ne (n := n) hd
  unfold impl_made
  rw [if_neg (by omega), igcd_eq hk hn (by omega), Option.bind_some, if_neg (by omega), if_pos hg, wtdiv hn, wtdiv (a := d) (by omega), IsFraction_eq hk, Option.bind_some]
  change (if frP (mkF n d).1 (mkF n d).2 = true then some ((mkF n d).1, (mkF n d).2, true) else some (0, 0, false)) = _
  by_cases h : frP (mkF n d).1 (mkF n d).2 = true
  · rw [if_pos h, if_pos h]
  · rw [if_neg h, if_neg h]
theorem shMake_eq {k : Nat} {n d : Int} (hk : 200 < k) (hd : 0 < d) (hn : -4000000000000000000 ≤ n ∧ n ≤ 4000000000000000000) (hd2 : d ≤ 4000000000000000000) :
    spec_shMake k n d = some (mkF n d) := by
  have hg := gcd_ne (n := n) hd
  unfold spec_shMake
  rw [sgcd_eq hk hn (by omega), Option.bind_some, if_neg (by omega), if_pos hg, wtdiv hn, wtdiv (a := d) (by omega)]
  rfl
theorem add_in {n d m g : Int} (h1 : frP n d = true) (h2 : frP m g = true) : IntKind.i64.wrap (IntKind.i64.wrap (n * g) + IntKind.i64.wrap (m * d)) = n * g + m * d ∧ IntKind.i64.wrap (d * g) = d * g ∧ (-4000000000000000000 ≤ n * g + m * d ∧ n * g + m * d ≤ 4000000000000000000) ∧ 0 < d * g ∧ d * g ≤ 4000000000000000000 := by
  have hb := cmp_inB h1 h2
  obtain ⟨a1, _, _⟩ := frP_in h1
  obtain ⟨b1, _, _⟩ := frP_in h2
  have hp := prod_in (B := 1000000) (C := 1000000) (show -1000000 ≤ d ∧ d ≤ 1000000 by omega) (show 0 ≤ g ∧ g ≤ 1000000 by omega)
  have hq := Int.mul_pos (show 0 < d by omega) (show 0 < g by omega)
  rw [wid (n := n * g) (by omega) (by omega), wid (n := m * d) (by omega) (by omega)]
  exact ⟨wid (by omega) (by omega), wid (by omega) (by omega), by omega, hq, by omega⟩
theorem mul_in2 {n d m g : Int} (h1 : frP n d = true) (h2 : frP m g = true) : IntKind.i64.wrap (n * m) = n * m ∧ IntKind.i64.wrap (d * g) = d * g ∧ (-4000000000000000000 ≤ n * m ∧ n * m ≤ 4000000000000000000) ∧ 0 < d * g ∧ d * g ≤ 4000000000000000000 := by
  obtain ⟨a1, a2, _⟩ := frP_in h1
  obtain ⟨b1, b2, _⟩ := frP_in h2
  have hp := prod_in (B := 1000000) (C := 1000000) (show -1000000 ≤ d ∧ d ≤ 1000000 by omega) (show 0 ≤ g ∧ g ≤ 1000000 by omega)
  have hq := Int.mul_pos (show 0 < d by omega) (show 0 < g by omega)
  have hr : -1000000000000 ≤ n * m ∧ n * m ≤ 1000000000000 := by
    rcases Int.lt_or_le m 0 with x | x
    · have := prod_in (B := 1000000) (C := 1000000) a2 (show 0 ≤ -m ∧ -m ≤ 1000000 by omega)
      rw [Int.mul_neg] at this; omega
    · have := prod_in (B := 1000000) (C := 1000000) a2 (show 0 ≤ m ∧ m ≤ 1000000 by omega)
      omega
  exact ⟨wid (by omega) (by omega), wid (by omega) (by omega), by omega, hq, by omega⟩
/-- A fraction that is told, or none. -/
def resF (p : Int × Int) : Int × Int × Bool := if frP p.1 p.2 = true then (p.1, p.2, true) else (0, 0, false)
theorem shAdd_eq {k : Nat} {n d m g : Int} (hk : 200 < k) (h1 : frP n d = true) (h2 : frP m g = true) : spec_shAdd k n d m g = some (addF n d m g) := by
  obtain ⟨q1, q2, q3, q4, q5⟩ := add_in h1 h2
  unfold spec_shAdd
  rw [q1, q2, shMake_eq hk q4 q3 q5]; rfl
theorem shMul_eq {k : Nat} {n d m g : Int} (hk : 200 < k) (h1 : frP n d = true) (h2 : frP m g = true) : spec_shMul k n d m g = some (mulF n d m g) := by
  obtain ⟨q1, q2, q3, q4, q5⟩ := mul_in2 h1 h2
  unfold spec_shMul
  rw [q1, q2, shMake_eq hk q4 q3 q5]; rfl
end Go.Proofs.Try

namespace Go.Proofs.Try
theorem bind_of {α β : Type} {o : Option α} {y : α} {K : α → Option β} {r : Option β} (h : o = some y) (hk : K y = r) : o.bind K = r := by rw [h]; exact hk
theorem ite_pos {α : Type} {c : Prop} [Decidable c] {a b r : α} (h : c) (hk : a = r) : (if c then a else b) = r := by rw [if_pos h]; exact hk
theorem ite_neg {α : Type} {c : Prop} [Decidable c] {a b r : α} (h : ¬ c) (hk : b = r) : (if c then a else b) = r := by rw [if_neg h]; exact hk
theorem cond_tt {α : Type} {a b r : α} (h : a = r) : cond true a b = r := h
theorem cond_ff {α : Type} {a b r : α} (h : b = r) : cond false a b = r := h
end Go.Proofs.Try

namespace Go.Proofs.Try
open Go Go.AX
theorem mk_ok {n d : Int} (hd : 0 < d) : ∃ g : Int, 0 < g ∧ n = (mkF n d).1 * g ∧ d = (mkF n d).2 * g ∧ Int.gcd (mkF n d).1 (mkF n d).2 = 1 ∧ 0 < (mkF n d).2 := by
  have hg := gcd_ne (n := n) hd
  have h1 : (Int.gcd n d : Int) ∣ n := Int.gcd_dvd_left ..
  have h2 : (Int.gcd n d : Int) ∣ d := Int.gcd_dvd_right ..
  have gp : 0 < (Int.gcd n d : Int) := by omega
  have e1 : n.tdiv (Int.gcd n d : Int) = n / (Int.gcd n d : Int) := Int.tdiv_eq_ediv_of_dvd h1
  have e2 : d.tdiv (Int.gcd n d : Int) = d / (Int.gcd n d : Int) := Int.tdiv_eq_ediv_of_dvd h2
  refine ⟨(Int.gcd n d : Int), gp, ?_, ?_, ?_, ?_⟩
  · simp only [mkF]; rw [e1]; exact (Int.ediv_mul_cancel h1).symm
  · simp only [mkF]; rw [e2]; exact (Int.ediv_mul_cancel h2).symm
  · simp only [mkF]; rw [e1, e2]
    exact Int.gcd_ediv_gcd_ediv_gcd (by omega)
  · simp only [mkF]; rw [e2]
    have := Int.ediv_mul_cancel h2
    rcases Int.lt_or_le 0 (d / (Int.gcd n d : Int)) with q | q
    · exact q
    · have := Int.mul_nonpos_of_nonpos_of_nonneg q (Int.le_of_lt gp)
      omega
theorem pow_dvd2 {i j : Nat} (h : i ≤ j) : (2 : Int) ^ i ∣ 2 ^ j := ⟨2 ^ (j - i), by rw [← Int.pow_add]; congr 1; omega⟩
theorem cop_dvd {s t x : Int} (h : t ∣ s * x) (hg : Int.gcd s t = 1) : t ∣ x := by
  have h1 : t.natAbs ∣ s.natAbs * x.natAbs := by
    have := Int.natAbs_dvd_natAbs.2 h
    rwa [Int.natAbs_mul] at this
  have h2 : Nat.Coprime t.natAbs s.natAbs := by
    unfold Nat.Coprime
    rw [Nat.gcd_comm]
    exact hg
  exact Int.natAbs_dvd_natAbs.1 (h2.dvd_of_dvd_mul_left h1)
/-- A number behind i letters. -/
def okV (i : Nat) (p : Int × Int) : Prop := 1 ≤ p.2 ∧ p.2 ∣ (2 : Int) ^ i ∧ (-((i : Int) * p.2) ≤ p.1 ∧ p.1 ≤ (i : Int) * p.2) ∧ Int.gcd p.1 p.2 = 1
theorem okV_mono {i j : Nat} {p : Int × Int} (h : okV i p) (hij : i ≤ j) : okV j p := by
  obtain ⟨h1, h2, h3, h4⟩ := h
  have : (i : Int) * p.2 ≤ (j : Int) * p.2 := Int.mul_le_mul_of_nonneg_right (by omega) (by omega)
  exact ⟨h1, Int.dvd_trans h2 (pow_dvd2 hij), ⟨by omega, by omega⟩, h4⟩
theorem okV_den {i : Nat} {p : Int × Int} (h : okV i p) (hi : i ≤ 20) : p.2 ≤ 1048576 := by
  have h1 := Int.le_of_dvd (Int.pow_pos (by decide)) h.2.1
  have h2 : (2 : Int) ^ i ≤ 2 ^ 20 := by
    have := Nat.pow_le_pow_right (n := 2) (by decide) hi
    exact_mod_cast this
  have h3 : (2 : Int) ^ 20 = 1048576 := by decide
  omega
theorem okV_num {i : Nat} {p : Int × Int} (h : okV i p) (hi : i ≤ 20) : -20971520 ≤ p.1 ∧ p.1 ≤ 20971520 := by
  have h1 := okV_den h hi
  have h2 : (i : Int) * p.2 ≤ 20 * 1048576 := Int.mul_le_mul (by omega) h1 (by have := h.1; omega) (by decide)
  have h3 := h.2.2.1
  omega
theorem okV_zero : okV 0 (0, 1) := ⟨by decide, by decide, by decide, by decide⟩
/-- Numbers with small parts: sums and products are what they are in whole numbers. -/
def smF (p : Int × Int) : Prop := (-4000000000000 ≤ p.1 ∧ p.1 ≤ 4000000000000) ∧ 1 ≤ p.2 ∧ p.2 ≤ 2000000
theorem addV {k : Nat} {n d m g : Int} (hk : 200 < k) (hn : -30000000 ≤ n ∧ n ≤ 30000000) (hd : 1 ≤ d ∧ d ≤ 2000000) (hm : -30000000 ≤ m ∧ m ≤ 30000000) (hg : 1 ≤ g ∧ g ≤ 2000000) : spec_shAdd k n d m g = some (addF n d m g) := by
  have a := prod_in (B := 30000000) (C := 2000000) hn (show 0 ≤ g ∧ g ≤ 2000000 by omega)
  have b := prod_in (B := 30000000) (C := 2000000) hm (show 0 ≤ d ∧ d ≤ 2000000 by omega)
  have c := prod_in (B := 2000000) (C := 2000000) (show -2000000 ≤ d ∧ d ≤ 2000000 by omega) (show 0 ≤ g ∧ g ≤ 2000000 by omega)
  have cp : 0 < d * g := Int.mul_pos (by omega) (by omega)
  unfold spec_shAdd
  rw [wrap_in (n := n * g) (by omega) (by omega), wrap_in (n := m * d) (by omega) (by omega), wrap_in (n := n * g + m * d) (by omega) (by omega), wrap_in (n := d * g) (by omega) (by omega)]
  rw [shMake_eq hk cp (by omega) (by omega)]
  rfl
theorem halfV {k : Nat} {n d : Int} (hk : 200 < k) (hn : -4000000000000000 ≤ n ∧ n ≤ 4000000000000000) (hd : 1 ≤ d ∧ d ≤ 4000000000000000) : spec_shMul k n d 1 2 = some (mkF n (d * 2)) := by
  unfold spec_shMul
  rw [Int.mul_one, wrap_in (n := n) (by omega) (by omega), wrap_in (n := d * 2) (by omega) (by omega), shMake_eq hk (by omega) (by omega) (by omega)]
  rfl
theorem le_cancel {a b g : Int} (hg : 0 < g) (h : a * g ≤ b * g) : a ≤ b := Int.le_of_mul_le_mul_right h hg
/-- The number in the middle. -/
theorem mid_ok {i : Nat} {l h : Int × Int} (hl : okV i l) (hh : okV i h) : okV (i + 1) (mkF (addF l.1 l.2 h.1 h.2).1 ((addF l.1 l.2 h.1 h.2).2 * 2)) ∧ 1 ≤ (addF l.1 l.2 h.1 h.2).2 := by
  obtain ⟨l1, ⟨a, ha⟩, l3, l4⟩ := hl
  obtain ⟨h1, ⟨b, hb⟩, h3, h4⟩ := hh
  have dp : 0 < l.2 * h.2 := Int.mul_pos (by omega) (by omega)
  obtain ⟨g, g0, g1, g2, g3, g4⟩ := mk_ok (n := l.1 * h.2 + h.1 * l.2) dp
  unfold addF
  generalize mkF (l.1 * h.2 + h.1 * l.2) (l.2 * h.2) = p at g1 g2 g3 g4
  obtain ⟨s, t⟩ := p
  simp only at g1 g2 g3 g4 ⊢
  -- t divides 2 ^ i
  have key : t * (l.1 * a + h.1 * b) = s * 2 ^ i := by
    have e : (t * (l.1 * a + h.1 * b)) * g = (s * 2 ^ i) * g := by
      have q1 : (t * (l.1 * a + h.1 * b)) * g = (t * g) * (l.1 * a + h.1 * b) := by rw [Int.mul_right_comm]
      have q2 : (s * 2 ^ i) * g = (s * g) * 2 ^ i := by rw [Int.mul_right_comm]
      rw [q1, q2, ← g1, ← g2, Int.mul_add, Int.add_mul]
      have r1 : l.2 * h.2 * (l.1 * a) = l.1 * h.2 * 2 ^ i := by rw [ha]; simp only [Int.mul_comm, Int.mul_left_comm]
      have r2 : l.2 * h.2 * (h.1 * b) = h.1 * l.2 * 2 ^ i := by rw [hb]; simp only [Int.mul_comm, Int.mul_left_comm]
      rw [r1, r2]
    exact Int.eq_of_mul_eq_mul_right (by omega) e
  have tdvd : t ∣ 2 ^ i := by
    have : t ∣ s * 2 ^ i := ⟨_, key.symm⟩
    exact cop_dvd this g3
  -- the sum is within 2 i
  have i0 : (0 : Int) ≤ i := Int.natCast_nonneg i
  have b1 : l.1 * h.2 ≤ (i : Int) * l.2 * h.2 := Int.mul_le_mul_of_nonneg_right l3.2 (by omega)
  have b2 : -((i : Int) * l.2) * h.2 ≤ l.1 * h.2 := Int.mul_le_mul_of_nonneg_right l3.1 (by omega)
  have b3 : h.1 * l.2 ≤ (i : Int) * h.2 * l.2 := Int.mul_le_mul_of_nonneg_right h3.2 (by omega)
  have b4 : -((i : Int) * h.2) * l.2 ≤ h.1 * l.2 := Int.mul_le_mul_of_nonneg_right h3.1 (by omega)
  have c1 : (i : Int) * h.2 * l.2 = (i : Int) * (l.2 * h.2) := by rw [Int.mul_assoc, Int.mul_comm h.2]
  have c2 : (i : Int) * l.2 * h.2 = (i : Int) * (l.2 * h.2) := by rw [Int.mul_assoc]
  rw [Int.neg_mul] at b2 b4
  rw [c2] at b1 b2
  rw [c1] at b3 b4
  rw [g2] at b1 b2 b3 b4
  have s1 : s * g ≤ (2 * i * t) * g := by
    have : (2 * (i : Int) * t) * g = (i : Int) * (t * g) + (i : Int) * (t * g) := by
      rw [← Int.two_mul, ← Int.mul_assoc, ← Int.mul_assoc]
    rw [this, ← g1]; omega
  have s2 : -(2 * i * t) * g ≤ s * g := by
    have : -(2 * (i : Int) * t) * g = -((i : Int) * (t * g) + (i : Int) * (t * g)) := by
      rw [← Int.two_mul, Int.neg_mul, ← Int.mul_assoc, ← Int.mul_assoc]
    rw [this, ← g1]; omega
  have s1 := le_cancel g0 s1
  have s2 := le_cancel g0 s2
  refine ⟨?_, by omega⟩
  obtain ⟨g', f0, f1, f2, f3, f4⟩ := mk_ok (n := s) (d := t * 2) (by omega)
  generalize mkF s (t * 2) = q at f1 f2 f3 f4
  obtain ⟨u, v⟩ := q
  simp only at f1 f2 f3 f4 ⊢
  refine ⟨by simp only; omega, ?_, ?_, f3⟩
  · simp only
    have : v ∣ t * 2 := ⟨g', f2⟩
    rw [Int.pow_succ]
    exact Int.dvd_trans this (Int.mul_dvd_mul tdvd (Int.dvd_refl 2))
  · simp only
    have w1 : u * g' ≤ ((i : Int) * v) * g' := by
      have : ((i : Int) * v) * g' = 2 * i * t := by rw [Int.mul_assoc, ← f2]; simp only [Int.mul_comm, Int.mul_left_comm]
      rw [this, ← f1]; exact s1
    have w2 : -((i : Int) * v) * g' ≤ u * g' := by
      have : -((i : Int) * v) * g' = -(2 * i * t) := by rw [Int.neg_mul, Int.mul_assoc, ← f2]; simp only [Int.mul_comm, Int.mul_left_comm]
      rw [this, ← f1]; exact s2
    have w1 := le_cancel f0 w1
    have w2 := le_cancel f0 w2
    have : ((i + 1 : Nat) : Int) * v = (i : Int) * v + v := by rw [Int.natCast_add, Int.add_mul]; simp
    omega
/-- A step beside. -/
theorem beside_ok {i : Nat} {p : Int × Int} (hp : okV i p) {c : Int} (hc : c = 1 ∨ c = -1) : okV (i + 1) (addF p.1 p.2 c 1) := by
  obtain ⟨h1, h2, h3, h4⟩ := hp
  obtain ⟨g, g0, g1, g2, g3, g4⟩ := mk_ok (n := p.1 * 1 + c * p.2) (d := p.2 * 1) (by omega)
  unfold addF
  generalize mkF (p.1 * 1 + c * p.2) (p.2 * 1) = q at g1 g2 g3 g4
  obtain ⟨u, v⟩ := q
  simp only at g1 g2 g3 g4 ⊢
  have e : (i : Int) * v * g = (i : Int) * p.2 := by rw [Int.mul_assoc, ← g2, Int.mul_one]
  have e2 : v * g = p.2 := by rw [← g2, Int.mul_one]
  refine ⟨by simp only; omega, ?_, ?_, g3⟩
  · simp only
    have : v ∣ p.2 := ⟨g, by rw [← e2]⟩
    exact Int.dvd_trans this (Int.dvd_trans h2 (pow_dvd2 (by omega)))
  · simp only
    have ex : ((i + 1 : Nat) : Int) * v * g = (i : Int) * p.2 + p.2 := by rw [Int.natCast_add, Int.add_mul, Int.add_mul, e]; simp [e2]
    have c2 : -p.2 ≤ c * p.2 ∧ c * p.2 ≤ p.2 := by rcases hc with rfl | rfl <;> constructor <;> omega
    have w1 : u * g ≤ (((i + 1 : Nat) : Int) * v) * g := by rw [ex, ← g1]; omega
    have w2 : -(((i + 1 : Nat) : Int) * v) * g ≤ u * g := by rw [Int.neg_mul, ex, ← g1]; omega
    exact ⟨le_cancel g0 w2, le_cancel g0 w1⟩
end Go.Proofs.Try

namespace Go.Proofs.Try
open Go Go.AX
theorem mkF_in {n d B : Int} (hn : -B ≤ n ∧ n ≤ B) (hd : 0 < d) (hd2 : d ≤ B) : (-B ≤ (mkF n d).1 ∧ (mkF n d).1 ≤ B) ∧ 1 ≤ (mkF n d).2 ∧ (mkF n d).2 ≤ B := by
  obtain ⟨g, g0, g1, g2, g3, g4⟩ := mk_ok (n := n) hd
  have h1 : ((mkF n d).1).natAbs ≤ n.natAbs := by
    have : ((mkF n d).1) = n.tdiv (Int.gcd n d : Int) := rfl
    rw [this, Int.natAbs_tdiv]
    exact Nat.div_le_self _ _
  have h2 : ((mkF n d).2).natAbs ≤ d.natAbs := by
    have : ((mkF n d).2) = d.tdiv (Int.gcd n d : Int) := rfl
    rw [this, Int.natAbs_tdiv]
    exact Nat.div_le_self _ _
  omega
/-- Where a walk is behind i letters. -/
def inW (i : Nat) (a l h : Int × Int) (p q : Bool) : Prop := okV i a ∧ (p = true → okV i l) ∧ (q = true → okV i h)
theorem mid_run {k i : Nat} {l h : Int × Int} {F : Int × Int → Option (Int × Int × Int × Int × Int × Int × Bool × Bool)} {r : Option (Int × Int × Int × Int × Int × Int × Bool × Bool)} (hk : 200 < k) (hi : i ≤ 20) (hl : okV i l) (hh : okV i h)
    (hF : ∀ a : Int × Int, okV (i + 1) a → F a = r → True) :
    ∃ a : Int × Int, okV (i + 1) a ∧ ((spec_shAdd k l.1 l.2 h.1 h.2).bind fun y => (spec_shMul k y.1 y.2 1 2).bind F) = F a := by
  have a1 := okV_num hl hi
  have a2 := okV_den hl hi
  have b1 := okV_num hh hi
  have b2 := okV_den hh hi
  obtain ⟨m1, m2⟩ := mid_ok hl hh
  have l1 := hl.1
  have h1 := hh.1
  have hb : (-1000000000000000 ≤ (addF l.1 l.2 h.1 h.2).1 ∧ (addF l.1 l.2 h.1 h.2).1 ≤ 1000000000000000) ∧ 1 ≤ (addF l.1 l.2 h.1 h.2).2 ∧ (addF l.1 l.2 h.1 h.2).2 ≤ 1000000000000000 := by
    unfold addF
    have a := prod_in (B := 30000000) (C := 2000000) (show -30000000 ≤ l.1 ∧ l.1 ≤ 30000000 by omega) (show 0 ≤ h.2 ∧ h.2 ≤ 2000000 by omega)
    have b := prod_in (B := 30000000) (C := 2000000) (show -30000000 ≤ h.1 ∧ h.1 ≤ 30000000 by omega) (show 0 ≤ l.2 ∧ l.2 ≤ 2000000 by omega)
    have c := prod_in (B := 2000000) (C := 2000000) (show -2000000 ≤ l.2 ∧ l.2 ≤ 2000000 by omega) (show 0 ≤ h.2 ∧ h.2 ≤ 2000000 by omega)
    have cp : 0 < l.2 * h.2 := Int.mul_pos (by omega) (by omega)
    exact mkF_in (by omega) cp (by omega)
  refine ⟨_, m1, ?_⟩
  rw [addV hk (by omega) (by omega) (by omega) (by omega), Option.bind_some, halfV hk (by omega) (by omega), Option.bind_some]
theorem beside_run {k i : Nat} {p : Int × Int} {c : Int} {F : Int × Int → Option (Int × Int × Int × Int × Int × Int × Bool × Bool)} (hk : 200 < k) (hi : i ≤ 20) (hp : okV i p) (hc : c = 1 ∨ c = -1) :
    ∃ a : Int × Int, okV (i + 1) a ∧ ((spec_shAdd k p.1 p.2 c 1).bind F) = F a := by
  have a1 := okV_num hp hi
  have a2 := okV_den hp hi
  have p1 := hp.1
  refine ⟨_, beside_ok hp hc, ?_⟩
  rw [addV hk (by omega) (by omega) (by omega) (by omega), Option.bind_some]
theorem stepW_ok {k i : Nat} {a l h : Int × Int} {p q b : Bool} (hk : 200 < k) (hi : i ≤ 19) (hw : inW i a l h p q) :
    ∃ (a' l' h' : Int × Int) (p' q' : Bool), spec_shWalk_step k a.1 a.2 l.1 l.2 h.1 h.2 p q b = some (a'.1, a'.2, l'.1, l'.2, h'.1, h'.2, p', q') ∧ inW (i + 1) a' l' h' p' q' := by
  obtain ⟨w1, w2, w3⟩ := hw
  have mo : ∀ {x : Int × Int}, okV i x → okV (i + 1) x := fun h => okV_mono h (by omega)
  unfold spec_shWalk_step
  cases p <;> cases q <;> cases b
  · obtain ⟨c, c1, c2⟩ := beside_run (k := k) (F := fun y12 => some (y12.1, y12.2, l.1, l.2, a.1, a.2, false, true)) hk (by omega) w1 (.inr rfl)
    exact ⟨c, l, a, false, true, c2, c1, (by simp), fun _ => mo w1⟩
  · obtain ⟨c, c1, c2⟩ := beside_run (k := k) (F := fun y12 => some (y12.1, y12.2, a.1, a.2, h.1, h.2, true, false)) hk (by omega) w1 (.inl rfl)
    exact ⟨c, a, h, true, false, c2, c1, fun _ => mo w1, (by simp)⟩
  · obtain ⟨c, c1, c2⟩ := beside_run (k := k) (F := fun y12 => some (y12.1, y12.2, l.1, l.2, a.1, a.2, false, true)) hk (by omega) w1 (.inr rfl)
    exact ⟨c, l, a, false, true, c2, c1, (by simp), fun _ => mo w1⟩
  · obtain ⟨c, c1, c2⟩ := mid_run (k := k) (r := none) (F := fun y24 => some (y24.1, y24.2, a.1, a.2, h.1, h.2, true, true)) hk (by omega) w1 (w3 rfl) (fun _ _ _ => trivial)
    exact ⟨c, a, h, true, true, c2, c1, fun _ => mo w1, fun _ => mo (w3 rfl)⟩
  · obtain ⟨c, c1, c2⟩ := mid_run (k := k) (r := none) (F := fun y24 => some (y24.1, y24.2, l.1, l.2, a.1, a.2, true, true)) hk (by omega) (w2 rfl) w1 (fun _ _ _ => trivial)
    exact ⟨c, l, a, true, true, c2, c1, fun _ => mo (w2 rfl), fun _ => mo w1⟩
  · obtain ⟨c, c1, c2⟩ := beside_run (k := k) (F := fun y12 => some (y12.1, y12.2, a.1, a.2, h.1, h.2, true, false)) hk (by omega) w1 (.inl rfl)
    exact ⟨c, a, h, true, false, c2, c1, fun _ => mo w1, (by simp)⟩
  · obtain ⟨c, c1, c2⟩ := mid_run (k := k) (r := none) (F := fun y24 => some (y24.1, y24.2, l.1, l.2, a.1, a.2, true, true)) hk (by omega) (w2 rfl) w1 (fun _ _ _ => trivial)
    exact ⟨c, l, a, true, true, c2, c1, fun _ => mo (w2 rfl), fun _ => mo w1⟩
  · obtain ⟨c, c1, c2⟩ := mid_run (k := k) (r := none) (F := fun y24 => some (y24.1, y24.2, a.1, a.2, h.1, h.2, true, true)) hk (by omega) w1 (w3 rfl) (fun _ _ _ => trivial)
    exact ⟨c, a, h, true, true, c2, c1, fun _ => mo w1, fun _ => mo (w3 rfl)⟩
theorem value_step {k n : Nat} {s : ByteArray} {K : Int → Int → Int → Int → Int → Int → Bool → Bool → Option (Int × Int)} {v a1 a2 l1 l2 h1 h2 : Int} {p q : Bool} :
    spec_shValue_l0_4 k s K (n + 1) v a1 a2 l1 l2 h1 h2 p q = (if v < (s.size : Int) then (byteD s v fun b => (spec_shWalk_step k a1 a2 l1 l2 h1 h2 p q (decide ((b.toNat : Int) = 43))).bind fun y => spec_shValue_l0_4 k s K n (IntKind.i64.wrap (v + 1)) y.1 y.2.1 y.2.2.1 y.2.2.2.1 y.2.2.2.2.1 y.2.2.2.2.2.1 y.2.2.2.2.2.2.1 y.2.2.2.2.2.2.2) else K a1 a2 l1 l2 h1 h2 q p) := by
  rw [spec_shValue_l0_4]
  have hb : ∀ (r : Option (Int × Int × Int × Int × Int × Int × Bool × Bool)), (r.bind fun y => (if y.2.2.2.2.2.2.1 = true then (if y.2.2.2.2.2.2.2 = true then (spec_shValue_l0_4 k s K n (IntKind.i64.wrap (v + 1)) y.1 y.2.1 y.2.2.1 y.2.2.2.1 y.2.2.2.2.1 y.2.2.2.2.2.1 true true) else (spec_shValue_l0_4 k s K n (IntKind.i64.wrap (v + 1)) y.1 y.2.1 y.2.2.1 y.2.2.2.1 y.2.2.2.2.1 y.2.2.2.2.2.1 true false)) else (if y.2.2.2.2.2.2.2 = true then (spec_shValue_l0_4 k s K n (IntKind.i64.wrap (v + 1)) y.1 y.2.1 y.2.2.1 y.2.2.2.1 y.2.2.2.2.1 y.2.2.2.2.2.1 false true) else (spec_shValue_l0_4 k s K n (IntKind.i64.wrap (v + 1)) y.1 y.2.1 y.2.2.1 y.2.2.2.1 y.2.2.2.2.1 y.2.2.2.2.2.1 false false))))
      = r.bind fun y => spec_shValue_l0_4 k s K n (IntKind.i64.wrap (v + 1)) y.1 y.2.1 y.2.2.1 y.2.2.2.1 y.2.2.2.2.1 y.2.2.2.2.2.1 y.2.2.2.2.2.2.1 y.2.2.2.2.2.2.2 := by
    intro r
    cases r with
    | none => rfl
    | some y =>
      obtain ⟨y1, y2, y3, y4, y5, y6, y7, y8⟩ := y
      simp only [Option.bind_some]
      cases y7 <;> cases y8 <;> rfl
  cases p <;> cases q <;>
  · simp only [cond_true, cond_false, hb]
    split
    · congr 1
      funext b
      by_cases g : (b.toNat : Int) = 43
      · rw [if_pos g, decide_eq_true g]
      · rw [if_neg g, decide_eq_false g]
    · rfl
/-- Whatever its bytes. -/
theorem value_loop {k : Nat} {s : ByteArray} {K : Int → Int → Int → Int → Int → Int → Bool → Bool → Option (Int × Int)} (hk : 200 < k) (hs : s.size ≤ 20) (hK : ∀ a b c d e f p q, K a b c d e f p q = some (a, b)) :
    ∀ (n i : Nat) (a l h : Int × Int) (p q : Bool), i ≤ s.size → s.size - i < n → inW i a l h p q → ∃ r : Int × Int, spec_shValue_l0_4 k s K n (i : Int) a.1 a.2 l.1 l.2 h.1 h.2 p q = some r ∧ okV s.size r
  | 0, i, _, _, _, _, _, h1, h2, _ => by omega
  | n + 1, i, a, l, h, p, q, h1, h2, hw => by
    rw [value_step]
    by_cases hi : i < s.size
    · rw [if_pos (by omega)]
      unfold byteD
      have hb : s[((i : Nat) : Int).toNat]? = some (s[i]'hi) := by rw [Int.toNat_natCast]; exact getElem?_pos s i hi
      rw [if_pos (by omega), hb]
      obtain ⟨a', l', h', p', q', e, hw'⟩ := stepW_ok (k := k) (b := decide (((s[i]'hi).toNat : Int) = 43)) hk (by omega) hw
      simp only
      rw [e, Option.bind_some, wrap_in (by omega) (by omega)]
      exact value_loop hk hs hK n (i + 1) a' l' h' p' q' (by omega) (by omega) hw'
    · rw [if_neg (by omega), hK]
      have : i = s.size := by omega
      subst this
      exact ⟨a, rfl, hw.1⟩
theorem value_ok {k : Nat} {s : ByteArray} (hk : 200 < k) (hs : s.size ≤ 20) : ∃ r : Int × Int, spec_shValue k s = some r ∧ okV s.size r := by
  unfold spec_shValue
  refine (show ∀ {x : Option (Int × Int)}, (∃ r : Int × Int, x = some r ∧ okV s.size r) → _ from fun h => h) ?_
  exact value_loop hk hs (fun a b c d e f p q => by cases p <;> cases q <;> rfl) k 0 (0, 1) (0, 0) (0, 0) false false (by omega) (by omega) ⟨okV_zero, by simp, by simp⟩
theorem okV_frP {i : Nat} {r : Int × Int} (h : okV i r) (hi : i ≤ 5) : frP r.1 r.2 = true := by
  have h1 := Int.le_of_dvd (Int.pow_pos (by decide)) h.2.1
  have h2 : (2 : Int) ^ i ≤ 2 ^ 5 := by
    have := Nat.pow_le_pow_right (n := 2) (by decide) hi
    exact_mod_cast this
  have h3 : (2 : Int) ^ 5 = 32 := by decide
  have h4 : (i : Int) * r.2 ≤ 5 * 32 := Int.mul_le_mul (by omega) (by omega) (by have := h.1; omega) (by decide)
  obtain ⟨q1, _, q3, q4⟩ := h
  simp only [frP, Bool.and_eq_true, decide_eq_true_eq]
  exact ⟨⟨q1, by omega⟩, ⟨by omega, by omega⟩, q4⟩
end Go.Proofs.Try

namespace Go.Proofs.Try
open Go Go.AX
theorem mkF_ext {a b c d : Int} (hb : 0 < b) (hd : 0 < d) (h : a * d = c * b) : mkF a b = mkF c d := by
  obtain ⟨g, g0, g1, g2, g3, g4⟩ := mk_ok (n := a) hb
  obtain ⟨e, e0, e1, e2, e3, e4⟩ := mk_ok (n := c) hd
  generalize mkF a b = p at g1 g2 g3 g4 ⊢
  generalize mkF c d = q at e1 e2 e3 e4 ⊢
  obtain ⟨n, r⟩ := p
  obtain ⟨m, s⟩ := q
  simp only at g1 g2 g3 g4 e1 e2 e3 e4
  subst g1 g2 e1 e2
  have k : n * s = m * r := by
    have : (n * s) * (g * e) = (m * r) * (g * e) := by
      have a1 : (n * s) * (g * e) = n * g * (s * e) := by simp only [Int.mul_comm, Int.mul_left_comm]
      have a2 : (m * r) * (g * e) = m * e * (r * g) := by simp only [Int.mul_comm, Int.mul_left_comm]
      rw [a1, a2, h]
    exact Int.eq_of_mul_eq_mul_right (Int.ne_of_gt (Int.mul_pos g0 e0)) this
  have d1 : r ∣ s := by
    have : r ∣ n * s := ⟨m, by rw [k, Int.mul_comm]⟩
    exact dvd_cop g3 this
  have d2 : s ∣ r := by
    have : s ∣ m * r := ⟨n, by rw [← k, Int.mul_comm]⟩
    exact dvd_cop e3 this
  have l1 := Int.le_of_dvd e4 d1
  have l2 := Int.le_of_dvd g4 d2
  have : r = s := by omega
  subst this
  rw [Int.eq_of_mul_eq_mul_right (by omega) k]
/-- Where a walk is: the number, and the last ones on both sides. -/
structure NS where
  x : Int
  lo : Option Int
  hi : Option Int
def upN (x : Int) : Option Int → Int
  | none => x + 1048576
  | some h => (x + h) / 2
def dnN (x : Int) : Option Int → Int
  | none => x - 1048576
  | some l => (x + l) / 2
def stN (s : NS) : Bool → NS
  | true => ⟨upN s.x s.hi, some s.x, s.hi⟩
  | false => ⟨dnN s.x s.lo, s.lo, some s.x⟩
def oN : NS := ⟨0, none, none⟩
def runN (s : NS) : List Bool → NS
  | [] => s
  | b :: w => runN (stN s b) w
theorem runN_app (s : NS) : ∀ v w, runN s (v ++ w) = runN (runN s v) w := by
  intro v
  induction v generalizing s with
  | nil => intro w; rfl
  | cons b v ih => intro w; exact ih (stN s b) w
/-- What holds behind i letters. -/
def okN (i : Nat) (s : NS) : Prop :=
  match s.lo, s.hi with
  | none, none => i = 0 ∧ s.x = 0
  | some l, none => 1 ≤ i ∧ s.x = (i : Int) * 1048576 ∧ l = s.x - 1048576
  | none, some h => 1 ≤ i ∧ s.x = -((i : Int) * 1048576) ∧ h = s.x + 1048576
  | some l, some h => ∃ (m : Nat) (d k : Int), 1 ≤ m ∧ m + 1 ≤ i ∧ d = 2 ^ (20 - m) ∧ l = k * (2 * d) ∧ h = l + 2 * d ∧ s.x = l + d ∧ -(((i - m : Nat) : Int) * 1048576) ≤ l ∧ h ≤ ((i - m : Nat) : Int) * 1048576
theorem okN_zero : okN 0 oN := ⟨rfl, rfl⟩
theorem pw_half {m : Nat} (h : m ≤ 19) : (2 : Int) ^ (20 - m) = 2 * 2 ^ (20 - (m + 1)) := by
  rw [show 20 - m = (20 - (m + 1)) + 1 by omega, Int.pow_succ, Int.mul_comm]
theorem pw_pos (n : Nat) : (0 : Int) < 2 ^ n := Int.pow_pos (by decide)
theorem okN_step {i : Nat} {s : NS} (h : okN i s) (hi : i ≤ 20) (b : Bool) : okN (i + 1) (stN s b) := by
  obtain ⟨x, lo, hi'⟩ := s
  have e20 : (2 : Int) ^ (20 - 1) = 524288 := by decide
  cases lo with
  | none =>
    cases hi' with
    | none =>
      obtain ⟨rfl, h2⟩ := h
      simp only at h2
      subst h2
      cases b with
      | true => exact ⟨by omega, by simp only [stN, upN]; omega, by simp only [stN, upN]; omega⟩
      | false => exact ⟨by omega, by simp only [stN, dnN]; omega, by simp only [stN, dnN]; omega⟩
    | some g =>
      obtain ⟨h1, h2, h3⟩ := h
      simp only at h2 h3
      cases b with
      | true =>
        refine ⟨1, 524288, -(i : Int), by omega, by omega, e20.symm, ?_, ?_, ?_, ?_, ?_⟩ <;> (try simp only [stN, upN]) <;> omega
      | false => exact ⟨by omega, by simp only [stN, dnN]; omega, by simp only [stN, dnN]; omega⟩
  | some l =>
    cases hi' with
    | none =>
      obtain ⟨h1, h2, h3⟩ := h
      simp only at h2 h3
      cases b with
      | true => exact ⟨by omega, by simp only [stN, upN]; omega, by simp only [stN, upN]; omega⟩
      | false =>
        refine ⟨1, 524288, (i : Int) - 1, by omega, by omega, e20.symm, ?_, ?_, ?_, ?_, ?_⟩ <;> (try simp only [stN, dnN]) <;> omega
    | some g =>
      obtain ⟨m, d, k, h1, h2, h3, h4, h5, h6, h7, h8⟩ := h
      simp only at h6
      have hd := pw_half (m := m) (by omega)
      have hp := pw_pos (20 - (m + 1))
      rw [← h3] at hd
      generalize hd' : (2 : Int) ^ (20 - (m + 1)) = d' at hd hp
      subst hd
      have e1 : i + 1 - (m + 1) = i - m := by omega
      cases b with
      | true =>
        refine ⟨m + 1, d', 2 * k + 1, by omega, by omega, hd'.symm, ?_, ?_, ?_, ?_, ?_⟩
        · show x = _
          rw [h6, h4, Int.add_mul, Int.mul_comm 2 k, Int.mul_assoc, Int.one_mul]
        · show g = x + 2 * d'; omega
        · simp only [stN, upN]; omega
        · rw [e1]; show _ ≤ x; omega
        · rw [e1]; omega
      | false =>
        refine ⟨m + 1, d', 2 * k, by omega, by omega, hd'.symm, ?_, ?_, ?_, ?_, ?_⟩
        · show l = _
          rw [h4, Int.mul_comm 2 k, Int.mul_assoc]
        · show x = _; omega
        · simp only [stN, dnN]; omega
        · rw [e1]; omega
        · rw [e1]; show x ≤ _; omega
theorem okN_run : ∀ (w : List Bool) {i : Nat} {s : NS}, okN i s → i + w.length ≤ 20 → okN (i + w.length) (runN s w)
  | [], i, s, h, _ => h
  | b :: w, i, s, h, hl => by
    simp only [List.length_cons] at hl ⊢
    have := okN_run w (okN_step h (by omega) b) (by omega)
    rw [show i + (w.length + 1) = i + 1 + w.length by omega]
    exact this
theorem okN_lo {i : Nat} {s : NS} (h : okN i s) (hi : i ≤ 20) {l : Int} (hl : s.lo = some l) : l < s.x := by
  obtain ⟨x, lo, hi'⟩ := s
  simp only at hl
  subst hl
  cases hi' with
  | none => obtain ⟨h1, h2, h3⟩ := h; simp only at h2 h3 ⊢; omega
  | some g =>
    obtain ⟨m, d, k, h1, h2, h3, h4, h5, h6, h7, h8⟩ := h
    have hp := pw_pos (20 - m)
    simp only at h6 ⊢; omega
theorem okN_hi {i : Nat} {s : NS} (h : okN i s) (hi : i ≤ 20) {g : Int} (hl : s.hi = some g) : s.x < g := by
  obtain ⟨x, lo, hi'⟩ := s
  simp only at hl
  subst hl
  cases lo with
  | none => obtain ⟨h1, h2, h3⟩ := h; simp only at h2 h3 ⊢; omega
  | some l =>
    obtain ⟨m, d, k, h1, h2, h3, h4, h5, h6, h7, h8⟩ := h
    have hp := pw_pos (20 - m)
    simp only at h6 ⊢; omega
theorem run_lo : ∀ (w : List Bool) {i : Nat} {s : NS} {l : Int}, okN i s → i + w.length ≤ 20 → s.lo = some l → l < (runN s w).x
  | [], i, s, l, h, hl, e => okN_lo h (by simpa using hl) e
  | b :: w, i, s, l, h, hl, e => by
    simp only [List.length_cons] at hl
    have h2 := okN_step h (by omega) b
    cases b with
    | true =>
      have := run_lo w (l := s.x) h2 (by omega) rfl
      have := okN_lo h (by omega) e
      simp only [runN]; omega
    | false => exact run_lo w h2 (by omega) e
theorem run_hi : ∀ (w : List Bool) {i : Nat} {s : NS} {g : Int}, okN i s → i + w.length ≤ 20 → s.hi = some g → (runN s w).x < g
  | [], i, s, l, h, hl, e => okN_hi h (by simpa using hl) e
  | b :: w, i, s, g, h, hl, e => by
    simp only [List.length_cons] at hl
    have h2 := okN_step h (by omega) b
    cases b with
    | false =>
      have := run_hi w (g := s.x) h2 (by omega) rfl
      have := okN_hi h (by omega) e
      simp only [runN]; omega
    | true => exact run_hi w h2 (by omega) e
theorem run_up {w : List Bool} {i : Nat} {s : NS} (h : okN i s) (hl : i + w.length + 1 ≤ 20) : s.x < (runN s (true :: w)).x :=
  run_lo w (okN_step h (by omega) true) (by omega) rfl
theorem run_dn {w : List Bool} {i : Nat} {s : NS} (h : okN i s) (hl : i + w.length + 1 ≤ 20) : (runN s (false :: w)).x < s.x :=
  run_hi w (okN_step h (by omega) false) (by omega) rfl
/-- Small parts. -/
theorem tab20 : ∀ m : Nat, m ≤ 19 → (20 - m) * 2 ^ m ≤ 524288 := by decide
theorem okN_parts {i : Nat} {s : NS} (h : okN i s) (hi : i ≤ 20) : ∃ (m : Nat) (t : Int), m ≤ 19 ∧ s.x * 2 ^ m = 1048576 * t ∧ (-524288 ≤ t ∧ t ≤ 524288) := by
  obtain ⟨x, lo, hi'⟩ := s
  cases lo with
  | none =>
    cases hi' with
    | none => obtain ⟨rfl, h2⟩ := h; simp only at h2; exact ⟨0, 0, by omega, by simp only [h2, Int.zero_mul, Int.mul_zero], by omega⟩
    | some g => obtain ⟨h1, h2, h3⟩ := h; simp only at h2; exact ⟨0, -(i : Int), by omega, by simp only [h2]; omega, by omega⟩
  | some l =>
    cases hi' with
    | none => obtain ⟨h1, h2, h3⟩ := h; simp only at h2; exact ⟨0, (i : Int), by omega, by simp only [h2]; omega, by omega⟩
    | some g =>
      obtain ⟨m, d, k, h1, h2, h3, h4, h5, h6, h7, h8⟩ := h
      simp only at h6 ⊢
      have hp := pw_pos (20 - m)
      have e : d * 2 ^ m = 1048576 := by
        rw [h3, ← Int.pow_add, show 20 - m + m = 20 by omega]; decide
      have ex : x = (2 * k + 1) * d := by
        rw [h6, h4, Int.add_mul, Int.one_mul, Int.mul_comm 2 k, Int.mul_assoc]
      have et : x * 2 ^ m = 1048576 * (2 * k + 1) := by
        rw [ex, Int.mul_assoc, e, Int.mul_comm]
      refine ⟨m, 2 * k + 1, by omega, et, ?_⟩
      have tb := tab20 m (by omega)
      have q : (0 : Int) < 2 ^ m := pw_pos m
      have b1 : x * 2 ^ m ≤ ((i - m : Nat) : Int) * 1048576 * 2 ^ m := Int.mul_le_mul_of_nonneg_right (by omega) (by omega)
      have b2 : -(((i - m : Nat) : Int) * 1048576) * 2 ^ m ≤ x * 2 ^ m := Int.mul_le_mul_of_nonneg_right (by omega) (by omega)
      have c : ((i - m : Nat) : Int) * 1048576 * 2 ^ m ≤ 1048576 * 524288 := by
        have c1 : ((i - m : Nat) : Int) * 2 ^ m ≤ 524288 := by
          have c2 : (i - m) * 2 ^ m ≤ (20 - m) * 2 ^ m := Nat.mul_le_mul_right _ (by omega)
          have : (i - m) * 2 ^ m ≤ 524288 := by omega
          have h3 : (((i - m) * 2 ^ m : Nat) : Int) ≤ ((524288 : Nat) : Int) := Int.ofNat_le.2 this
          rw [Int.natCast_mul, Int.natCast_pow] at h3
          exact h3
        rw [Int.mul_right_comm, Int.mul_comm]
        omega
      rw [Int.neg_mul] at b2
      rw [et] at b1 b2
      omega
theorem units_fr {x t : Int} {m : Nat} (hm : m ≤ 19) (h : x * 2 ^ m = 1048576 * t) (ht : -524288 ≤ t ∧ t ≤ 524288) : frP (mkF x 1048576).1 (mkF x 1048576).2 = true := by
  obtain ⟨g, g0, g1, g2, g3, g4⟩ := mk_ok (n := x) (d := 1048576) (by decide)
  generalize mkF x 1048576 = p at g1 g2 g3 g4 ⊢
  obtain ⟨n, d⟩ := p
  simp only at g1 g2 g3 g4 ⊢
  have q : (0 : Int) < 2 ^ m := pw_pos m
  have k : n * 2 ^ m = t * d := by
    have : n * 2 ^ m * g = t * d * g := by
      rw [Int.mul_right_comm, ← g1, h, Int.mul_assoc, ← g2, Int.mul_comm]
    exact Int.eq_of_mul_eq_mul_right (by omega) this
  have dd : d ∣ 2 ^ m := by
    have : d ∣ n * 2 ^ m := ⟨t, by rw [k, Int.mul_comm]⟩
    exact dvd_cop g3 this
  have l1 := Int.le_of_dvd q dd
  have l2 : (2 : Int) ^ m ≤ 2 ^ 19 := by
    have := Nat.pow_le_pow_right (n := 2) (by decide) hm
    exact_mod_cast this
  have l3 : (2 : Int) ^ 19 = 524288 := by decide
  obtain ⟨c, hc⟩ := dd
  have c0 : 0 < c := by
    rcases Int.lt_or_le 0 c with z | z
    · exact z
    · have := Int.mul_nonpos_of_nonneg_of_nonpos (Int.le_of_lt g4) z
      omega
  have kn : n * c = t := by
    have : n * c * d = t * d := by rw [← k, hc, Int.mul_assoc, Int.mul_comm c d]
    exact Int.eq_of_mul_eq_mul_right (by omega) this
  have n1 : n ≤ 524288 := by
    rcases Int.lt_or_le 0 n with z | z
    · have : n * 1 ≤ n * c := Int.mul_le_mul_of_nonneg_left (by omega) (by omega)
      omega
    · omega
  have n2 : -524288 ≤ n := by
    rcases Int.lt_or_le n 0 with z | z
    · have : n * c ≤ n * 1 := Int.mul_le_mul_of_nonpos_left (by omega) (by omega)
      omega
    · omega
  simp only [frP, Bool.and_eq_true, decide_eq_true_eq]
  exact ⟨⟨by omega, by omega⟩, ⟨by omega, by omega⟩, g3⟩
theorem okN_fr {i : Nat} {s : NS} (h : okN i s) (hi : i ≤ 20) : frP (mkF s.x 1048576).1 (mkF s.x 1048576).2 = true := by
  obtain ⟨m, t, h1, h2, h3⟩ := okN_parts h hi
  exact units_fr h1 h2 h3
theorem okN_size {i : Nat} {s : NS} (h : okN i s) (hi : i ≤ 20) : -20971520 ≤ s.x ∧ s.x ≤ 20971520 := by
  obtain ⟨x, lo, hi'⟩ := s
  cases lo with
  | none =>
    cases hi' with
    | none => obtain ⟨rfl, h2⟩ := h; simp only at h2 ⊢; omega
    | some g => obtain ⟨h1, h2, h3⟩ := h; simp only at h2 ⊢; omega
  | some l =>
    cases hi' with
    | none => obtain ⟨h1, h2, h3⟩ := h; simp only at h2 ⊢; omega
    | some g =>
      obtain ⟨m, d, k, h1, h2, h3, h4, h5, h6, h7, h8⟩ := h
      have hp := pw_pos (20 - m)
      simp only at h6 ⊢
      omega
/-! ### walks that are told where to go -/
def pathN (g : Int → Int) : Nat → NS → List Bool
  | 0, _ => []
  | n + 1, s => if g s.x = 0 then [] else decide (0 < g s.x) :: pathN g n (stN s (decide (0 < g s.x)))
theorem pathN_len (g : Int → Int) : ∀ n s, (pathN g n s).length ≤ n
  | 0, _ => Nat.le_refl 0
  | n + 1, s => by
    simp only [pathN]
    split
    · exact Nat.zero_le _
    · have := pathN_len g n (stN s (decide (0 < g s.x)))
      simp only [List.length_cons]; omega
/-- A walk that agrees with another one goes its way. -/
theorem path_follow {g f : Int → Int} (h : ∀ x, (0 < g x → 0 < f x) ∧ (g x < 0 → f x < 0)) : ∀ n s,
    pathN f n s = pathN g n s ++ pathN f (n - (pathN g n s).length) (runN s (pathN g n s))
  | 0, s => rfl
  | n + 1, s => by
    by_cases h0 : g s.x = 0
    · have : pathN g (n + 1) s = [] := by simp only [pathN]; rw [if_pos h0]
      rw [this]; rfl
    · have hb : decide (0 < f s.x) = decide (0 < g s.x) ∧ f s.x ≠ 0 := by
        have := h s.x
        by_cases hp : 0 < g s.x
        · rw [decide_eq_true hp, decide_eq_true (this.1 hp)]; exact ⟨rfl, by have := this.1 hp; omega⟩
        · have := this.2 (by omega)
          rw [decide_eq_false hp, decide_eq_false (by omega)]; exact ⟨rfl, by omega⟩
      have e : pathN g (n + 1) s = decide (0 < g s.x) :: pathN g n (stN s (decide (0 < g s.x))) := by simp only [pathN]; rw [if_neg h0]
      rw [e]
      have e2 : pathN f (n + 1) s = decide (0 < f s.x) :: pathN f n (stN s (decide (0 < f s.x))) := by simp only [pathN]; rw [if_neg hb.2]
      rw [e2, hb.1, path_follow h n]
      simp only [List.length_cons, List.cons_append, runN, Nat.succ_sub_succ_eq_sub]
/-- A walk that each letter of a word agrees with goes that word. -/
theorem path_word {f : Int → Int} : ∀ (w : List Bool) (n i : Nat) (s : NS), okN i s → i + w.length ≤ 20 → w.length ≤ n → (∀ x, f x = cmpI (runN s w).x x) → pathN f n s = w
  | [], n, i, s, h, hl, hn, hf => by
    cases n with
    | zero => rfl
    | succ n =>
      simp only [pathN]
      rw [if_pos]
      rw [hf]; exact cmpI_eq.2 rfl
  | b :: w, n, i, s, h, hl, hn, hf => by
    simp only [List.length_cons] at hl hn
    cases n with
    | zero => omega
    | succ n =>
      have ih := path_word w n (i + 1) (stN s b) (okN_step h (by omega) b) (by omega) (by omega) hf
      simp only [pathN]
      cases b with
      | true =>
        have := run_up (w := w) h (by omega)
        have e : f s.x = 1 := by rw [hf]; unfold cmpI; rw [if_neg (by omega), if_pos (by omega)]
        rw [e, if_neg (by decide), show decide ((0 : Int) < 1) = true from rfl, ih]
      | false =>
        have := run_dn (w := w) h (by omega)
        have e : f s.x = -1 := by rw [hf]; unfold cmpI; rw [if_pos (by omega)]
        rw [e, if_neg (by decide), show decide ((0 : Int) < -1) = false from rfl, ih]
end Go.Proofs.Try

namespace Go.Proofs.Try
open Go Go.AX
abbrev L8 := List UInt8
def bA (l : L8) : ByteArray := ⟨l.toArray⟩
theorem bA_data (l : L8) : (bA l).data.toList = l := by simp [bA]
theorem bA_size (l : L8) : (bA l).size = l.length := by rw [Lib.size_eq, bA_data]
theorem bA_toList (l : L8) : (bA l).toList = l := by rw [ByteArray.toList_eq, bA_data]
theorem bA_inj {a b : ByteArray} (h : a.data.toList = b.data.toList) : a = b := by
  cases a; cases b; simp only [ByteArray.mk.injEq]; exact Array.toList_inj.1 h
theorem bA_app (a b : L8) : bA a ++ bA b = bA (a ++ b) := by
  apply bA_inj
  rw [ByteArray.data_append, Array.toList_append, bA_data, bA_data, bA_data]
theorem bA_nil : ByteArray.mk #[] = bA [] := rfl
theorem bA_43 : ByteArray.mk #[43] = bA [43] := rfl
theorem bA_42 : ByteArray.mk #[42] = bA [42] := rfl
theorem bA_41 : ByteArray.mk #[41] = bA [41] := rfl
theorem bA_45 : ByteArray.mk #[45] = bA [45] := rfl
theorem bA_47 : ByteArray.mk #[47] = bA [47] := rfl
theorem bA_48 : ByteArray.mk #[48] = bA [48] := rfl
theorem bA_94 : ByteArray.mk #[94, 40] = bA [94, 40] := rfl
theorem bA_119 : ByteArray.mk #[119] = bA [119] := rfl
theorem u8_lt {n : Int} (h0 : 0 ≤ n) (h1 : n ≤ 255) : IntKind.u8.wrap n = n := by
  simp only [IntKind.wrap, IntKind.bits, IntKind.signed]
  simp
  omega
theorem strD_one {n : Int} (h0 : 0 ≤ n) (h1 : n ≤ 9) : strD [[.int .u8 (IntKind.u8.wrap (IntKind.i64.wrap (48 + n)))]] = some (bA [UInt8.ofNat (48 + n.toNat)]) := by
  rw [wrap_in (by omega) (by omega), u8_lt (by omega) (by omega)]
  have : (48 + n).toNat = 48 + n.toNat := by omega
  simp only [strD, strN, Option.map_some, List.foldl_cons, List.foldl_nil, this]
  rfl
theorem dec_len {u : Nat} (hu : u ≤ 1000000000000000) : (Lib.decDigits u).length ≤ 21 := by
  have := Lib.itoa_length_le (u : Int) (by omega) (by omega)
  unfold Lib.itoa at this
  rwa [if_neg (by omega), show ((u : Int)).toNat = u by omega] at this
theorem dec_ne (u : Nat) : Lib.decDigits u ≠ [] := by
  rw [Lib.decDigits]
  split <;> simp
end Go.Proofs.Try

namespace Go.Proofs.Try
open Go Go.AX
theorem row_i_last {α : Type} {pre : Rw} {l : Int} {K : Int → Option α} (h : pre.length < 1000000) : row_i (pre ++ [[.int .i64 l]]) (IntKind.i64.wrap (((pre ++ [[D.int .i64 l]]).length : Int) - 1)) K = K l := by
  have e : IntKind.i64.wrap (((pre ++ [[D.int .i64 l]]).length : Int) - 1) = (pre.length : Int) := by
    rw [List.length_append, List.length_singleton, wrap_in (by omega) (by omega)]; omega
  rw [e]
  unfold row_i
  rw [if_pos (by omega), Int.toNat_natCast, List.getElem?_append_right (Nat.le_refl _), Nat.sub_self]
  rfl
def lastN (v : Rw) (o : Option Int) : Prop := (v = [] ∧ o = none) ∨ ∃ pre l, v = pre ++ [[.int .i64 l]] ∧ o = some l
theorem lastN_put (v : Rw) (x : Int) : lastN (v ++ [[.int .i64 x]]) (some x) := .inr ⟨v, x, rfl, rfl⟩
theorem okN_even_up {i : Nat} {s : NS} (h : okN i s) (hi : i ≤ 20) {g : Int} (hg : s.hi = some g) : ∃ q, s.x + g = 2 * q ∧ (-30000000 ≤ g ∧ g ≤ 30000000) := by
  obtain ⟨x, lo, hi'⟩ := s
  simp only at hg; subst hg
  cases lo with
  | none => obtain ⟨h1, h2, h3⟩ := h; simp only at h2 h3 ⊢; exact ⟨x + 524288, by omega, by omega⟩
  | some l =>
    obtain ⟨m, d, k, h1, h2, h3, h4, h5, h6, h7, h8⟩ := h
    have hd := pw_half (m := m) (by omega)
    have hp := pw_pos (20 - m)
    rw [← h3] at hd hp
    simp only at h6 ⊢
    exact ⟨l + 3 * 2 ^ (20 - (m + 1)), by omega, by omega⟩
theorem okN_even_dn {i : Nat} {s : NS} (h : okN i s) (hi : i ≤ 20) {g : Int} (hg : s.lo = some g) : ∃ q, s.x + g = 2 * q ∧ (-30000000 ≤ g ∧ g ≤ 30000000) := by
  obtain ⟨x, lo, hi'⟩ := s
  simp only at hg; subst hg
  cases hi' with
  | none => obtain ⟨h1, h2, h3⟩ := h; simp only at h2 h3 ⊢; exact ⟨x - 524288, by omega, by omega⟩
  | some l =>
    obtain ⟨m, d, k, h1, h2, h3, h4, h5, h6, h7, h8⟩ := h
    have hd := pw_half (m := m) (by omega)
    have hp := pw_pos (20 - m)
    rw [← h3] at hd hp
    simp only at h6 ⊢
    exact ⟨g + 2 ^ (20 - (m + 1)), by omega, by omega⟩
theorem between_up {i : Nat} {s : NS} {L H : Rw} (h : okN i s) (hi : i ≤ 20) (hl : lastN H s.hi) (hn : H.length ≤ 100) : impl_between s.x 1 L H = some (upN s.x s.hi) := by
  have hb := okN_size h hi
  unfold impl_between
  rw [if_pos (by decide)]
  rcases hl with ⟨rfl, e⟩ | ⟨pre, l, rfl, e⟩
  · rw [if_pos (show (([] : Rw).length : Int) = 0 from rfl), e, wrap_in (n := 1 * 1048576) (by decide) (by decide), wrap_in (by omega) (by omega)]
    rfl
  · rw [List.length_append, List.length_singleton] at hn
    obtain ⟨q, hq, hg⟩ := okN_even_up h hi e
    rw [if_neg (by rw [List.length_append, List.length_singleton]; omega), row_i_last (by omega), e]
    rw [wrap_in (n := s.x + l) (by omega) (by omega)]
    simp only [upN]
    rw [hq, Int.mul_tdiv_cancel_left _ (by decide), Int.mul_ediv_cancel_left _ (by decide), wrap_in (by omega) (by omega)]
theorem between_dn {i : Nat} {s : NS} {L H : Rw} (h : okN i s) (hi : i ≤ 20) (hl : lastN L s.lo) (hn : L.length ≤ 100) : impl_between s.x (-1) L H = some (dnN s.x s.lo) := by
  have hb := okN_size h hi
  unfold impl_between
  rw [if_neg (by decide)]
  rcases hl with ⟨rfl, e⟩ | ⟨pre, l, rfl, e⟩
  · rw [if_pos (show (([] : Rw).length : Int) = 0 from rfl), e, wrap_in (n := -1 * 1048576) (by decide) (by decide), wrap_in (by omega) (by omega)]
    rfl
  · rw [List.length_append, List.length_singleton] at hn
    obtain ⟨q, hq, hg⟩ := okN_even_dn h hi e
    rw [if_neg (by rw [List.length_append, List.length_singleton]; omega), row_i_last (by omega), e]
    rw [wrap_in (n := s.x + l) (by omega) (by omega)]
    simp only [dnN]
    rw [hq, Int.mul_tdiv_cancel_left _ (by decide), Int.mul_ediv_cancel_left _ (by decide), wrap_in (by omega) (by omega)]
/-- The program's walk, over whatever tells it where to go. -/
def walkA {σ : Type} (W : Int → σ → Option (Int × σ)) : Nat → Rw → ByteArray → Rw → Int → σ → Rw → Option (Rw × ByteArray × Rw × Rw × σ)
  | 0, _, _, _, _, _, _ => none
  | n + 1, v11, v12, v13, v14, t, v20 => (if v11.length + 1 ≤ cap then ((W v14 t).bind fun y36 => (if y36.1 = (0 : Int) then some (v11 ++ ([[D.int .i64 v14]]), v12, v13, v20, y36.2) else (if (v12.size : Int) = (20 : Int) then some (v11 ++ ([[D.int .i64 v14]]), v12, v13, v20, y36.2) else (if (0 : Int) < y36.1 then (if v12.size + (ByteArray.mk #[43]).size ≤ 9223372036854775807 then (if v13.length + 1 ≤ cap then ((impl_between v14 y36.1 (v13 ++ ([[D.int .i64 v14]])) v20).bind fun y43 => (walkA W n (v11 ++ ([[D.int .i64 v14]])) (v12 ++ (ByteArray.mk #[43])) (v13 ++ ([[D.int .i64 v14]])) y43 y36.2 v20)) else none) else none) else (if v12.size + (ByteArray.mk #[45]).size ≤ 9223372036854775807 then (if v20.length + 1 ≤ cap then ((impl_between v14 y36.1 v13 (v20 ++ ([[D.int .i64 v14]]))).bind fun y47 => (walkA W n (v11 ++ ([[D.int .i64 v14]])) (v12 ++ (ByteArray.mk #[45])) v13 y47 y36.2 (v20 ++ ([[D.int .i64 v14]])))) else none) else none))))) else none)
theorem walk_ofWord : ∀ (n : Nat) v11 v12 v13 v14 v15 v16 v20, impl_walk__ofWord_1_l0 n v11 v12 v13 v14 v15 v16 v20 = walkA (fun x t => impl_ofWord_1 x t.1 t.2) n v11 v12 v13 v14 (v15, v16) v20
  | 0, _, _, _, _, _, _, _ => rfl
  | n + 1, v11, v12, v13, v14, v15, v16, v20 => by simp only [impl_walk__ofWord_1_l0, walkA, walk_ofWord n]
/-- What is told at each letter of a word. -/
def Goes {σ : Type} (W : Int → σ → Option (Int × σ)) (t : Nat → σ) : Nat → NS → List Bool → Prop
  | i, s, [] => ∃ e, W s.x (t i) = some (e, t (i + 1)) ∧ (e = 0 ∨ i = 20)
  | i, s, b :: w => i < 20 ∧ (∃ e, W s.x (t i) = some (e, t (i + 1)) ∧ (b = true → e = 1) ∧ (b = false → e = -1)) ∧ Goes W t (i + 1) (stN s b) w
def txt (w : List Bool) : L8 := w.map fun b => if b then 43 else 45
theorem txt_len (w : List Bool) : (txt w).length = w.length := List.length_map ..
theorem walkA_run {σ : Type} {W : Int → σ → Option (Int × σ)} {t : Nat → σ} : ∀ (w : List Bool) (n i : Nat) (s : NS) (v11 : Rw) (l : L8) (v13 v20 : Rw), Goes W t i s w → okN i s → w.length < n → l.length = i → i + w.length ≤ 20 → lastN v13 s.lo → lastN v20 s.hi → v11.length ≤ i → v13.length ≤ i → v20.length ≤ i →
    ∃ pre v13' v20', walkA W n v11 (bA l) v13 s.x (t i) v20 = some (pre ++ [[.int .i64 (runN s w).x]], bA (l ++ txt w), v13', v20', t (i + w.length + 1)) ∧ pre.length ≤ 20
  | [], n, i, s, v11, l, v13, v20, hg, h, hn, hl, hi, h13, h20, n1, n2, n3 => by
    simp only [List.length_nil] at hn hi
    obtain ⟨m, rfl⟩ : ∃ m, n = m + 1 := ⟨n - 1, by omega⟩
    obtain ⟨e, e1, e2⟩ := hg
    simp only [walkA]
    rw [if_pos (by unfold cap; omega), e1, Option.bind_some]
    simp only [runN, txt, List.map_nil, List.append_nil, List.length_nil, Nat.add_zero]
    by_cases e0 : e = 0
    · rw [if_pos e0]
      exact ⟨v11, v13, v20, rfl, by omega⟩
    · rw [if_neg e0, if_pos (by rw [bA_size]; omega)]
      exact ⟨v11, v13, v20, rfl, by omega⟩
  | b :: w, n, i, s, v11, l, v13, v20, hg, h, hn, hl, hi, h13, h20, n1, n2, n3 => by
    simp only [List.length_cons] at hn hi
    obtain ⟨m, rfl⟩ : ∃ m, n = m + 1 := ⟨n - 1, by omega⟩
    obtain ⟨h20', ⟨e, e1, e2, e3⟩, hg⟩ := hg
    simp only [walkA]
    rw [if_pos (by unfold cap; omega), e1, Option.bind_some]
    have ho := okN_step h (by omega) b
    cases b with
    | true =>
      have := e2 rfl
      subst this
      simp only
      rw [if_neg (by decide), if_neg (by rw [bA_size]; omega), if_pos (by decide), if_pos (by rw [bA_size]; show _ + 1 ≤ _; omega), if_pos (by unfold cap; omega), between_up h (by omega) h20 (by omega), Option.bind_some, bA_43, bA_app]
      obtain ⟨pre, a, c, q, hp⟩ := walkA_run w m (i + 1) (stN s true) (v11 ++ [[.int .i64 s.x]]) (l ++ [43]) (v13 ++ [[.int .i64 s.x]]) v20 hg ho (by omega) (by rw [List.length_append, List.length_singleton]; omega) (by omega) (lastN_put _ _) h20 (by rw [List.length_append, List.length_singleton]; omega) (by rw [List.length_append, List.length_singleton]; omega) (by omega)
      refine ⟨pre, a, c, ?_, hp⟩
      rw [List.append_assoc, show i + 1 + w.length + 1 = i + (w.length + 1) + 1 by omega] at q
      exact q
    | false =>
      have := e3 rfl
      subst this
      simp only
      rw [if_neg (by decide), if_neg (by rw [bA_size]; omega), if_neg (by decide), if_pos (by rw [bA_size]; show _ + 1 ≤ _; omega), if_pos (by unfold cap; omega), between_dn h (by omega) h13 (by omega), Option.bind_some, bA_45, bA_app]
      obtain ⟨pre, a, c, q, hp⟩ := walkA_run w m (i + 1) (stN s false) (v11 ++ [[.int .i64 s.x]]) (l ++ [45]) v13 (v20 ++ [[.int .i64 s.x]]) hg ho (by omega) (by rw [List.length_append, List.length_singleton]; omega) (by omega) h13 (lastN_put _ _) (by rw [List.length_append, List.length_singleton]; omega) (by omega) (by rw [List.length_append, List.length_singleton]; omega)
      refine ⟨pre, a, c, ?_, hp⟩
      rw [List.append_assoc, show i + 1 + w.length + 1 = i + (w.length + 1) + 1 by omega] at q
      exact q
theorem walkA_all {σ : Type} {W : Int → σ → Option (Int × σ)} {t : Nat → σ} {w : List Bool} {k : Nat} (hk : 200 < k) (hw : w.length ≤ 20) (hg : Goes W t 0 oN w) :
    ∃ pre v13' v20', walkA W k [] (ByteArray.mk #[]) [] 0 (t 0) [] = some (pre ++ [[.int .i64 (runN oN w).x]], bA (txt w), v13', v20', t (w.length + 1)) ∧ pre.length ≤ 20 := by
  obtain ⟨pre, a, c, q, hp⟩ := walkA_run w k 0 oN [] [] [] [] hg okN_zero (by omega) rfl (by omega) (.inl ⟨rfl, rfl⟩) (.inl ⟨rfl, rfl⟩) (by simp) (by simp) (by simp)
  rw [Nat.zero_add] at q
  exact ⟨pre, a, c, q, hp⟩
/-- A walk that is told the same wherever it comes by. -/
theorem goes_path {σ : Type} {W : Int → σ → Option (Int × σ)} {a : σ} {g : Int → Int} : ∀ (n i : Nat) (s : NS), i + n = 20 → okN i s → (∀ x, -30000000 ≤ x ∧ x ≤ 30000000 → W x a = some (g x, a) ∧ (g x = 0 ∨ g x = 1 ∨ g x = -1)) → Goes W (fun _ => a) i s (pathN g n s)
  | 0, i, s, hi, h, hw => by
    have := okN_size h (by omega)
    exact ⟨_, (hw s.x (by omega)).1, .inr (by omega)⟩
  | n + 1, i, s, hi, h, hw => by
    have := okN_size h (by omega)
    obtain ⟨h1, h2⟩ := hw s.x (by omega)
    simp only [pathN]
    by_cases h0 : g s.x = 0
    · rw [if_pos h0]
      exact ⟨_, h1, .inl h0⟩
    · rw [if_neg h0]
      refine ⟨by omega, ⟨_, h1, fun e => ?_, fun e => ?_⟩, goes_path n (i + 1) _ (by omega) (okN_step h (by omega) _) hw⟩
      · have := of_decide_eq_true e; omega
      · have := of_decide_eq_false e; omega
/-! ### from a word -/
def letsB (s : ByteArray) : List Bool := s.data.toList.map fun b => decide ((b.toNat : Int) = 43)
theorem lets_len (s : ByteArray) : (letsB s).length = s.size := by unfold letsB; rw [List.length_map]; rfl
theorem lets_txt (w : List Bool) : letsB (bA (txt w)) = w := by
  unfold letsB txt
  rw [bA_data, List.map_map]
  have : ((fun b : UInt8 => decide ((b.toNat : Int) = 43)) ∘ fun b : Bool => if b = true then (43 : UInt8) else 45) = id := by
    funext b; cases b <;> rfl
  rw [this, List.map_id]
theorem lets_drop {s : ByteArray} {i : Nat} (h : i < s.size) : (letsB s).drop i = decide (((s[i]'h).toNat : Int) = 43) :: (letsB s).drop (i + 1) := by
  have hl : i < (letsB s).length := by rw [lets_len]; exact h
  rw [List.drop_eq_getElem_cons hl]
  congr 1
  simp only [letsB, List.getElem_map]
  rfl
theorem byteD_at {α : Type} {s : ByteArray} {i : Nat} (h : i < s.size) {K : UInt8 → Option α} : byteD s (i : Int) K = K (s[i]'h) := by
  unfold byteD
  have hb : s[((i : Nat) : Int).toNat]? = some (s[i]'h) := by rw [Int.toNat_natCast]; exact getElem?_pos s i h
  rw [if_pos (by omega), hb]
theorem goes_word {s : ByteArray} (hs : s.size ≤ 20) : ∀ (n i : Nat) (z : NS), i + n = s.size → Goes (fun x t => impl_ofWord_1 x t.1 t.2) (fun i => ((min i s.size : Nat), s)) i z ((letsB s).drop i)
  | 0, i, z, hi => by
    have e : (letsB s).drop i = [] := List.drop_eq_nil_of_le (by rw [lets_len]; omega)
    rw [e]
    have e1 : min i s.size = s.size := by omega
    have e2 : min (i + 1) s.size = s.size := by omega
    refine ⟨0, ?_, .inl rfl⟩
    simp only [e1, e2, impl_ofWord_1]
    rw [if_pos trivial]
  | n + 1, i, z, hi => by
    have hlt : i < s.size := by omega
    rw [lets_drop hlt]
    have e1 : min i s.size = i := by omega
    have e2 : min (i + 1) s.size = i + 1 := by omega
    have ew : IntKind.i64.wrap ((i : Int) + 1) = ((i + 1 : Nat) : Int) := by rw [wrap_in (by omega) (by omega)]; omega
    have ew2 : IntKind.i64.wrap (((i + 1 : Nat) : Int) - 1) = (i : Int) := by rw [wrap_in (by omega) (by omega)]; omega
    refine ⟨by omega, ⟨if ((s[i]'hlt).toNat : Int) = 43 then 1 else -1, ?_, fun e => ?_, fun e => ?_⟩, goes_word hs n (i + 1) _ (by omega)⟩
    · simp only [e1, e2, impl_ofWord_1]
      rw [if_neg (by omega), ew, ew2, byteD_at hlt]
      split <;> rfl
    · rw [if_pos (of_decide_eq_true e)]
    · rw [if_neg (of_decide_eq_false e)]
theorem fromUnits_eq {k : Nat} {i : Nat} {s : NS} (hk : 200 < k) (h : okN i s) (hi : i ≤ 20) : impl_fromUnits k s.x = some (mkF s.x 1048576) := by
  have hb := okN_size h hi
  unfold impl_fromUnits
  rw [made_eq hk (by decide) (by omega) (by decide), if_pos (okN_fr h hi), Option.bind_some]
  simp only [if_true]
theorem ofWord_eq {k : Nat} {s : ByteArray} (hk : 200 < k) (hs : s.size ≤ 20) : ∃ pre, impl_ofWord k s = some (pre ++ [[.int .i64 (runN oN (letsB s)).x]]) ∧ pre.length ≤ 20 := by
  unfold impl_ofWord impl_walk__ofWord_1
  rw [walk_ofWord]
  have hg := goes_word hs s.size 0 oN (by omega)
  rw [List.drop_zero] at hg
  obtain ⟨pre, a, c, q, hp⟩ := walkA_all (k := k) hk (by rw [lets_len]; omega) hg
  have e0 : min 0 s.size = 0 := by omega
  simp only [e0] at q
  have q' : walkA (fun x t => impl_ofWord_1 x t.fst t.snd) k [] { data := #[] } [] 0 (0, s) [] = _ := q
  rw [q']
  exact ⟨pre, rfl, hp⟩
theorem fromWord_eq {k : Nat} {s : ByteArray} (hk : 200 < k) (hs : s.size ≤ 20) : impl_fromWord k s = some (mkF (runN oN (letsB s)).x 1048576) := by
  obtain ⟨pre, e, hp⟩ := ofWord_eq hk hs
  unfold impl_fromWord
  have ho := okN_run (letsB s) okN_zero (by rw [lets_len]; omega)
  rw [e, Option.bind_some]
  rw [if_pos (by rw [List.length_append, List.length_singleton, wrap_in (by omega) (by omega)]; omega), row_i_last (by omega)]
  rw [fromUnits_eq hk ho (by rw [lets_len]; omega)]
  rfl
/-! ### to a fraction -/
def toF (n d x : Int) : Int := cmpI (n * 1048576) (x * d)
theorem cmpI_cases (a b : Int) : cmpI a b = 0 ∨ cmpI a b = 1 ∨ cmpI a b = -1 := by unfold cmpI; split <;> (try split) <;> simp
def wayF (n d : Int) : List Bool := pathN (toF n d) 20 oN
theorem way_len (n d : Int) : (wayF n d).length ≤ 20 := pathN_len ..
/-- A fraction is short: its walk comes to it. -/
def shortF (n d : Int) : Bool := frP n d && decide (n * 1048576 = (runN oN (wayF n d)).x * d)
/-! ### where two words part -/
def cplB : L8 → L8 → Nat
  | a :: l, b :: r => if a = b then cplB l r + 1 else 0
  | _, _ => 0
theorem cpl_app : ∀ (a b : L8), cplB a (a ++ b) = a.length
  | [], b => by cases b <;> rfl
  | x :: a, b => by simp only [List.cons_append, cplB, List.length_cons]; rw [if_pos trivial, cpl_app a b]
theorem cpl_le : ∀ (a b : L8), cplB a b ≤ a.length ∧ cplB a b ≤ b.length
  | [], b => by cases b <;> simp [cplB]
  | a :: l, [] => by simp [cplB]
  | a :: l, b :: r => by
    have := cpl_le l r
    simp only [cplB, List.length_cons]
    split <;> omega
theorem bA_at {l : L8} {i : Nat} (h : i < l.length) {α : Type} {K : UInt8 → Option α} : byteD (bA l) (i : Int) K = K l[i] := by
  have h' : i < (bA l).size := by rw [bA_size]; exact h
  rw [byteD_at h']
  congr 1
theorem bA_extract {l : L8} {n : Nat} (h : n ≤ l.length) : (bA l).extract 0 n = bA (l.take n) := by
  apply bA_inj
  rw [bA_data, ByteArray.data_extract, Array.toList_extract, bA_data]
  simp
end Go.Proofs.Try

namespace Go.Proofs.Try
open Go Go.AX
theorem mkF_bnd {x : Int} (hx : -25000000 ≤ x ∧ x ≤ 25000000) : (-25000000 ≤ (mkF x 1048576).1 ∧ (mkF x 1048576).1 ≤ 25000000) ∧ 1 ≤ (mkF x 1048576).2 ∧ (mkF x 1048576).2 ≤ 1048576 := by
  have h := mkF_in (B := 25000000) hx (show (0 : Int) < 1048576 by decide) (by decide)
  obtain ⟨g, g0, g1, g2, g3, g4⟩ := mk_ok (n := x) (d := 1048576) (by decide)
  have : (mkF x 1048576).2 * 1 ≤ (mkF x 1048576).2 * g := Int.mul_le_mul_of_nonneg_left (by omega) (by omega)
  exact ⟨h.1, h.2.1, by omega⟩
theorem addF_units (x h : Int) : addF (mkF x 1048576).1 (mkF x 1048576).2 (mkF h 1048576).1 (mkF h 1048576).2 = mkF (x + h) 1048576 := by
  obtain ⟨g, g0, g1, g2, g3, g4⟩ := mk_ok (n := x) (d := 1048576) (by decide)
  obtain ⟨e, e0, e1, e2, e3, e4⟩ := mk_ok (n := h) (d := 1048576) (by decide)
  unfold addF
  apply mkF_ext (Int.mul_pos g4 e4) (by decide)
  generalize mkF x 1048576 = p at g1 g2 g3 g4 ⊢
  generalize mkF h 1048576 = q at e1 e2 e3 e4 ⊢
  rw [Int.add_mul, Int.add_mul]
  have a1 : p.1 * q.2 * 1048576 = x * (p.2 * q.2) := by rw [g2, g1]; simp only [Int.mul_comm, Int.mul_left_comm]
  have a2 : q.1 * p.2 * 1048576 = h * (p.2 * q.2) := by rw [e2, e1]; simp only [Int.mul_comm, Int.mul_left_comm]
  rw [a1, a2]
theorem half_units {x q : Int} (hx : x = 2 * q) : mkF (mkF x 1048576).1 ((mkF x 1048576).2 * 2) = mkF q 1048576 := by
  obtain ⟨g, g0, g1, g2, g3, g4⟩ := mk_ok (n := x) (d := 1048576) (by decide)
  apply mkF_ext (by omega) (by decide)
  generalize mkF x 1048576 = p at g1 g2 g3 g4 ⊢
  have a1 : p.1 * 1048576 = x * p.2 := by rw [g2, g1]; simp only [Int.mul_comm, Int.mul_left_comm]
  rw [a1, hx]
  simp only [Int.mul_comm, Int.mul_left_comm]
theorem one_units (x c : Int) : addF (mkF x 1048576).1 (mkF x 1048576).2 c 1 = mkF (x + c * 1048576) 1048576 := by
  obtain ⟨g, g0, g1, g2, g3, g4⟩ := mk_ok (n := x) (d := 1048576) (by decide)
  unfold addF
  apply mkF_ext (by omega) (by decide)
  generalize mkF x 1048576 = p at g1 g2 g3 g4 ⊢
  rw [Int.mul_one, Int.mul_one, Int.add_mul, Int.add_mul]
  have a1 : p.1 * 1048576 = x * p.2 := by rw [g2, g1]; simp only [Int.mul_comm, Int.mul_left_comm]
  rw [a1, Int.mul_right_comm c]
abbrev Rs8 := Option (Int × Int × Int × Int × Int × Int × Bool × Bool)
theorem mid_eq {k : Nat} {x h q : Int} {F : Int × Int → Rs8} (hk : 200 < k) (hx : -25000000 ≤ x ∧ x ≤ 25000000) (hh : -25000000 ≤ h ∧ h ≤ 25000000) (hq : x + h = 2 * q) :
    ((spec_shAdd k (mkF x 1048576).1 (mkF x 1048576).2 (mkF h 1048576).1 (mkF h 1048576).2).bind fun y => (spec_shMul k y.1 y.2 1 2).bind F) = F (mkF q 1048576) := by
  have a := mkF_bnd hx
  have b := mkF_bnd hh
  have c := mkF_in (B := 100000000) (n := x + h) (d := 1048576) (by omega) (by decide) (by decide)
  rw [addV hk (by omega) (by omega) (by omega) (by omega), addF_units, Option.bind_some, halfV hk (by omega) (by omega), Option.bind_some, half_units hq]
theorem side_eq {k : Nat} {x c : Int} {F : Int × Int → Rs8} (hk : 200 < k) (hx : -25000000 ≤ x ∧ x ≤ 25000000) (hc : c = 1 ∨ c = -1) :
    ((spec_shInt c).bind fun z => (spec_shAdd k (mkF x 1048576).1 (mkF x 1048576).2 z.1 z.2).bind F) = F (mkF (x + c * 1048576) 1048576) := by
  have a := mkF_bnd hx
  unfold spec_shInt
  rw [Option.bind_some, addV hk (by omega) (by omega) (by omega) (by omega), one_units, Option.bind_some]
/-- Where the reference's walk is. -/
def relS (s : NS) (a1 a2 l1 l2 h1 h2 : Int) (p q : Bool) : Prop :=
  (a1 = (mkF s.x 1048576).1 ∧ a2 = (mkF s.x 1048576).2) ∧ p = s.lo.isSome ∧ q = s.hi.isSome ∧ (∀ l, s.lo = some l → l1 = (mkF l 1048576).1 ∧ l2 = (mkF l 1048576).2) ∧ (∀ h, s.hi = some h → h1 = (mkF h 1048576).1 ∧ h2 = (mkF h 1048576).2)
theorem okN_lo_in {i : Nat} {s : NS} (h : okN i s) (hi : i ≤ 20) {l : Int} (hl : s.lo = some l) : -25000000 ≤ l ∧ l ≤ 25000000 := by
  have hx := okN_size h hi
  obtain ⟨x, lo, hi'⟩ := s
  simp only at hl hx; subst hl
  cases hi' with
  | none => obtain ⟨h1, h2, h3⟩ := h; simp only at h2 h3; omega
  | some g =>
    obtain ⟨m, d, k, h1, h2, h3, h4, h5, h6, h7, h8⟩ := h
    have hp := pw_pos (20 - m)
    simp only at h6; omega
theorem okN_hi_in {i : Nat} {s : NS} (h : okN i s) (hi : i ≤ 20) {l : Int} (hl : s.hi = some l) : -25000000 ≤ l ∧ l ≤ 25000000 := by
  have hx := okN_size h hi
  obtain ⟨x, lo, hi'⟩ := s
  simp only at hl hx; subst hl
  cases lo with
  | none => obtain ⟨h1, h2, h3⟩ := h; simp only at h2 h3; omega
  | some g =>
    obtain ⟨m, d, k, h1, h2, h3, h4, h5, h6, h7, h8⟩ := h
    have hp := pw_pos (20 - m)
    simp only at h6; omega
theorem upN_some {x h q : Int} (e : x + h = 2 * q) : upN x (some h) = q := by simp only [upN]; omega
theorem dnN_some {x h q : Int} (e : x + h = 2 * q) : dnN x (some h) = q := by simp only [dnN]; omega
theorem sstep_eq {k i : Nat} {s : NS} {a1 a2 l1 l2 h1 h2 : Int} {p q : Bool} (hk : 200 < k) (h : okN i s) (hi : i ≤ 20) (hr : relS s a1 a2 l1 l2 h1 h2 p q) (b : Bool) :
    ∃ b1 b2 c1 c2 d1 d2 p' q', spec_shWalk_step k a1 a2 l1 l2 h1 h2 p q b = some (b1, b2, c1, c2, d1, d2, p', q') ∧ relS (stN s b) b1 b2 c1 c2 d1 d2 p' q' := by
  have hx := okN_size h hi
  obtain ⟨⟨rfl, rfl⟩, hp, hq, hlo, hhi⟩ := hr
  unfold spec_shWalk_step
  cases b with
  | true =>
    cases eh : s.hi with
    | none =>
      rw [eh] at hq
      have hq : q = false := hq
      subst hq
      have e1 : stN s true = ⟨s.x + 1 * 1048576, some s.x, none⟩ := by simp only [stN, eh, upN]; rw [Int.one_mul]
      rw [e1]
      cases p with
      | true => exact ⟨_, _, _, _, _, _, _, _, side_eq hk (by omega) (.inl rfl), ⟨rfl, rfl⟩, rfl, rfl, fun l e => (Option.some.inj e) ▸ ⟨rfl, rfl⟩, fun l e => (by cases e)⟩
      | false => exact ⟨_, _, _, _, _, _, _, _, side_eq hk (by omega) (.inl rfl), ⟨rfl, rfl⟩, rfl, rfl, fun l e => (Option.some.inj e) ▸ ⟨rfl, rfl⟩, fun l e => (by cases e)⟩
    | some g =>
      rw [eh] at hq
      have hq : q = true := hq
      subst hq
      obtain ⟨rfl, rfl⟩ := hhi g eh
      obtain ⟨u, hu, _⟩ := okN_even_up h hi eh
      have hg := okN_hi_in h hi eh
      have e1 : stN s true = ⟨u, some s.x, some g⟩ := by simp only [stN, eh, upN_some hu]
      rw [e1]
      cases p with
      | true => exact ⟨_, _, _, _, _, _, _, _, mid_eq hk (by omega) (by omega) hu, ⟨rfl, rfl⟩, rfl, rfl, fun l e => (Option.some.inj e) ▸ ⟨rfl, rfl⟩, fun l e => (Option.some.inj e) ▸ ⟨rfl, rfl⟩⟩
      | false => exact ⟨_, _, _, _, _, _, _, _, mid_eq hk (by omega) (by omega) hu, ⟨rfl, rfl⟩, rfl, rfl, fun l e => (Option.some.inj e) ▸ ⟨rfl, rfl⟩, fun l e => (Option.some.inj e) ▸ ⟨rfl, rfl⟩⟩
  | false =>
    cases eh : s.lo with
    | none =>
      rw [eh] at hp
      have hp : p = false := hp
      subst hp
      have e1 : stN s false = ⟨s.x + (-1) * 1048576, none, some s.x⟩ := by
        simp only [stN, eh, dnN]
        rw [show s.x - 1048576 = s.x + (-1) * 1048576 by omega]
      rw [e1]
      cases q with
      | true => exact ⟨_, _, _, _, _, _, _, _, side_eq hk (by omega) (.inr rfl), ⟨rfl, rfl⟩, rfl, rfl, fun l e => (by cases e), fun l e => (Option.some.inj e) ▸ ⟨rfl, rfl⟩⟩
      | false => exact ⟨_, _, _, _, _, _, _, _, side_eq hk (by omega) (.inr rfl), ⟨rfl, rfl⟩, rfl, rfl, fun l e => (by cases e), fun l e => (Option.some.inj e) ▸ ⟨rfl, rfl⟩⟩
    | some g =>
      rw [eh] at hp
      have hp : p = true := hp
      subst hp
      obtain ⟨rfl, rfl⟩ := hlo g eh
      obtain ⟨u, hu, _⟩ := okN_even_dn h hi eh
      have hg := okN_lo_in h hi eh
      have e1 : stN s false = ⟨u, some g, some s.x⟩ := by simp only [stN, eh, dnN_some hu]
      rw [e1]
      cases q with
      | true => exact ⟨_, _, _, _, _, _, _, _, mid_eq hk (by omega) (by omega) (show g + s.x = 2 * u by omega), ⟨rfl, rfl⟩, rfl, rfl, fun l e => (Option.some.inj e) ▸ ⟨rfl, rfl⟩, fun l e => (Option.some.inj e) ▸ ⟨rfl, rfl⟩⟩
      | false => exact ⟨_, _, _, _, _, _, _, _, mid_eq hk (by omega) (by omega) (show g + s.x = 2 * u by omega), ⟨rfl, rfl⟩, rfl, rfl, fun l e => (Option.some.inj e) ▸ ⟨rfl, rfl⟩, fun l e => (Option.some.inj e) ▸ ⟨rfl, rfl⟩⟩
theorem svalue_loop {k : Nat} {s : ByteArray} {K : Int → Int → Int → Int → Int → Int → Bool → Bool → Option (Int × Int)} (hk : 200 < k) (hs : s.size ≤ 20) (hK : ∀ a b c d e f p q, K a b c d e f p q = some (a, b)) :
    ∀ (n i : Nat) (z : NS) (a1 a2 l1 l2 h1 h2 : Int) (p q : Bool), i ≤ s.size → s.size - i < n → okN i z → relS z a1 a2 l1 l2 h1 h2 p q → spec_shValue_l0_4 k s K n (i : Int) a1 a2 l1 l2 h1 h2 p q = some (mkF (runN z ((letsB s).drop i)).x 1048576)
  | 0, i, _, _, _, _, _, _, _, _, _, h1, h2, _, _ => by omega
  | n + 1, i, z, a1, a2, l1, l2, h1, h2, p, q, g1, g2, ho, hr => by
    rw [value_step]
    by_cases hi : i < s.size
    · rw [if_pos (by omega), byteD_at hi]
      obtain ⟨b1, b2, c1, c2, d1, d2, p', q', e, hr'⟩ := sstep_eq hk ho (by omega) hr (decide (((s[i]'hi).toNat : Int) = 43))
      rw [e, Option.bind_some, wrap_in (by omega) (by omega), lets_drop hi]
      exact svalue_loop hk hs hK n (i + 1) _ _ _ _ _ _ _ _ _ (by omega) (by omega) (okN_step ho (by omega) _) hr'
    · rw [if_neg (by omega), hK, List.drop_eq_nil_of_le (by rw [lets_len]; omega)]
      obtain ⟨⟨rfl, rfl⟩, _⟩ := hr
      rfl
theorem relS_zero {l1 l2 h1 h2 : Int} : relS oN 0 1 l1 l2 h1 h2 false false := ⟨⟨by decide, by decide⟩, rfl, rfl, fun l e => (by cases e), fun l e => (by cases e)⟩
theorem svalue_eq {k : Nat} {s : ByteArray} (hk : 200 < k) (hs : s.size ≤ 20) : spec_shValue k s = some (mkF (runN oN (letsB s)).x 1048576) := by
  unfold spec_shValue
  rw [← List.drop_zero (l := letsB s)]
  refine (show ∀ {x : Option (Int × Int)}, (x = some (mkF (runN oN ((letsB s).drop 0)).x 1048576)) → _ from fun h => h) ?_
  exact svalue_loop (k := k) (s := s) hk hs (fun a b c d e f p q => by cases p <;> cases q <;> rfl) k 0 oN 0 1 0 0 0 0 false false (by omega) (by omega) okN_zero relS_zero
end Go.Proofs.Try

namespace Go.Proofs.Try
open Go Go.AX
def wordN : Nat → Nat → List Bool
  | 0, _ => []
  | d + 1, n => decide (n % 2 = 0) :: wordN d (n / 2)
def bornW : Nat → List (List Bool)
  | 0 => [[]]
  | d + 1 => (bornW d).map (List.cons false) ++ (bornW d).map (List.cons true)
theorem wordN_len : ∀ d n, (wordN d n).length = d
  | 0, _ => rfl
  | d + 1, n => by simp only [wordN, List.length_cons]; rw [wordN_len d]
theorem bornW_len : ∀ d, ∀ w ∈ bornW d, w.length = d
  | 0, w, h => by
    simp only [bornW, List.mem_singleton] at h
    subst h; rfl
  | d + 1, w, h => by
    simp only [bornW, List.mem_append, List.mem_map] at h
    rcases h with ⟨u, hu, rfl⟩ | ⟨u, hu, rfl⟩ <;> simp only [List.length_cons] <;> rw [bornW_len d u hu]
theorem bornW_count : ∀ d, (bornW d).length = 2 ^ d
  | 0 => rfl
  | d + 1 => by simp only [bornW, List.length_append, List.length_map]; rw [bornW_count d, Nat.pow_succ]; omega
theorem range_two : ∀ n, List.range (2 * n) = (List.range n).flatMap fun m => [2 * m, 2 * m + 1]
  | 0 => rfl
  | n + 1 => by
    rw [show 2 * (n + 1) = (2 * n + 1) + 1 by omega, List.range_succ, List.range_succ, range_two n, List.range_succ, List.flatMap_append]
    simp
theorem flat_perm {α β : Type} (f g : α → β) : ∀ l : List α, (l.flatMap fun a => [f a, g a]).Perm (l.map f ++ l.map g)
  | [] => .nil
  | a :: l => by
    simp only [List.flatMap_cons, List.cons_append, List.nil_append, List.map_cons]
    refine .cons _ ?_
    exact ((flat_perm f g l).cons _).trans List.perm_middle.symm
theorem words_perm : ∀ d, ((List.range (2 ^ d)).map (wordN d)).Perm (bornW d)
  | 0 => .refl _
  | d + 1 => by
    have ih := words_perm d
    rw [Nat.pow_succ, Nat.mul_comm, range_two, List.map_flatMap]
    have e : (fun m => List.map (wordN (d + 1)) [2 * m, 2 * m + 1]) = fun m => [true :: wordN d m, false :: wordN d m] := by
      funext m
      simp only [List.map_cons, List.map_nil, wordN]
      have a1 : 2 * m % 2 = 0 := by omega
      have a2 : (2 * m + 1) % 2 ≠ 0 := by omega
      have a3 : 2 * m / 2 = m := by omega
      have a4 : (2 * m + 1) / 2 = m := by omega
      rw [decide_eq_true a1, decide_eq_false a2, a3, a4]
    rw [e]
    refine (flat_perm (fun m => true :: wordN d m) (fun m => false :: wordN d m) _).trans ?_
    have h1 : (List.map (fun m => true :: wordN d m) (List.range (2 ^ d))).Perm ((bornW d).map (List.cons true)) := by
      have := ih.map (List.cons true)
      rw [List.map_map] at this
      exact this
    have h2 : (List.map (fun m => false :: wordN d m) (List.range (2 ^ d))).Perm ((bornW d).map (List.cons false)) := by
      have := ih.map (List.cons false)
      rw [List.map_map] at this
      exact this
    exact (h1.append h2).trans List.perm_append_comm
theorem born_rises : ∀ (d i : Nat) (z : NS), okN i z → i + d ≤ 20 → (bornW d).Pairwise fun u v => (runN z u).x < (runN z v).x
  | 0, i, z, _, _ => by simp [bornW]
  | d + 1, i, z, h, hd => by
    simp only [bornW]
    rw [List.pairwise_append, List.pairwise_map, List.pairwise_map]
    refine ⟨born_rises d (i + 1) (stN z false) (okN_step h (by omega) _) (by omega), born_rises d (i + 1) (stN z true) (okN_step h (by omega) _) (by omega), ?_⟩
    intro a ha b hb
    obtain ⟨u, hu, rfl⟩ := List.mem_map.1 ha
    obtain ⟨v, hv, rfl⟩ := List.mem_map.1 hb
    have l1 := bornW_len d u hu
    have l2 := bornW_len d v hv
    have := run_dn (w := u) h (by omega)
    have := run_up (w := v) h (by omega)
    omega
/-- The number of a word. -/
def valW (w : List Bool) : Int × Int := mkF (runN oN w).x 1048576
theorem valW_fr {w : List Bool} (h : w.length ≤ 20) : frP (valW w).1 (valW w).2 = true := okN_fr (okN_run w okN_zero (by omega)) (by omega)
def frW (w : List Bool) : Fr := if h : frOk (valW w).1 (valW w).2 = true then (⟨valW w, h⟩ : Fr) else default
theorem frW_val {w : List Bool} (h : w.length ≤ 20) : (frW w).1 = valW w := by
  have e : frW w = (⟨valW w, valW_fr h⟩ : Fr) := dif_pos (valW_fr h)
  rw [e]
def rowsW (l : List (List Bool)) : Rw := l.map fun w => [.int .i64 (valW w).1, .int .i64 (valW w).2]
theorem rowsW_len (l : List (List Bool)) : (rowsW l).length = l.length := List.length_map ..
theorem rowsW_fr {l : List (List Bool)} (h : ∀ w ∈ l, w.length ≤ 20) : rowsW l = (l.map frW).map Fr.row := by
  unfold rowsW
  rw [List.map_map]
  apply List.map_congr_left
  intro w hw
  show _ = Fr.row (frW w)
  unfold Fr.row
  rw [frW_val (h w hw)]
theorem fr_lt {u v : List Bool} (hu : u.length ≤ 20) (hv : v.length ≤ 20) : Fr.lt (frW u) (frW v) = decide ((runN oN u).x < (runN oN v).x) := by
  unfold Fr.lt
  rw [frW_val hu, frW_val hv]
  obtain ⟨g, g0, g1, g2, g3, g4⟩ := mk_ok (n := (runN oN u).x) (d := 1048576) (by decide)
  obtain ⟨e, e0, e1, e2, e3, e4⟩ := mk_ok (n := (runN oN v).x) (d := 1048576) (by decide)
  unfold valW
  generalize (runN oN u).x = x at *
  generalize (runN oN v).x = y at *
  generalize mkF x 1048576 = p at *
  generalize mkF y 1048576 = q at *
  have key : p.1 * q.2 < q.1 * p.2 ↔ x < y := by
    have a1 : p.1 * q.2 * (g * e) = x * 1048576 := by rw [g1, e2]; simp only [Int.mul_comm, Int.mul_left_comm]
    have a2 : q.1 * p.2 * (g * e) = y * 1048576 := by rw [e1, g2]; simp only [Int.mul_comm, Int.mul_left_comm]
    have gp : 0 < g * e := Int.mul_pos g0 e0
    constructor
    · intro h
      have := Int.mul_lt_mul_of_pos_right h gp
      omega
    · intro h
      refine Int.lt_of_mul_lt_mul_right (a := g * e) ?_ (by omega)
      omega
  by_cases h : x < y
  · rw [decide_eq_true h, decide_eq_true (key.2 h)]
  · rw [decide_eq_false h, decide_eq_false (fun c => h (key.1 c))]
/-- In order, they are those of the day. -/
theorem sort_born {d : Nat} (hd : d ≤ 20) {ws : List (List Bool)} (hp : ws.Perm (bornW d)) : Fr.sort (ws.map frW) = (bornW d).map frW := by
  unfold Fr.sort
  have s1 := List.pairwise_mergeSort (le := fun x y : Fr => !Fr.lt y x) (fun a b c h1 h2 => by
    simp only [Bool.not_eq_true'] at h1 h2 ⊢
    unfold Fr.lt at *
    have h1 := of_decide_eq_false h1
    have h2 := of_decide_eq_false h2
    exact decide_eq_false (by have := Fr.trans (x := a) (y := b) (z := c) (by omega) (by omega); omega)) (fun a b => by
    simp only [Bool.or_eq_true, Bool.not_eq_true']
    unfold Fr.lt
    by_cases h : b.1.1 * a.1.2 < a.1.1 * b.1.2
    · exact .inr (decide_eq_false (by omega))
    · exact .inl (decide_eq_false h)) (ws.map frW)
  have s2 : ((bornW d).map frW).Pairwise fun a b => (!Fr.lt b a) = true := by
    rw [List.pairwise_map]
    refine List.Pairwise.imp_of_mem ?_ (born_rises d 0 oN okN_zero (by omega))
    intro a b ha hb h
    have l1 := bornW_len d a ha
    have l2 := bornW_len d b hb
    rw [fr_lt (by omega) (by omega), decide_eq_false (by omega)]
    rfl
  refine List.Perm.eq_of_pairwise (fun a b _ _ h1 h2 => ?_) s1 s2 ((List.mergeSort_perm _ _).trans (hp.map frW))
  simp only [Bool.not_eq_true'] at h1 h2
  exact Fr.tot a b (by rw [Fr.lt_eq]; exact h2) (by rw [Fr.lt_eq]; exact h1)
/-! ### the program's list -/
theorem bit_eq {n k : Nat} (hn : n ≤ 1000) (hk : k ≤ 20) : IntKind.i64.wrap (BitVec.ofInt (IntKind.i64).bits (((n : Int)).fdiv (2 ^ (min (k : Int).toNat (IntKind.i64).bits))) &&& BitVec.ofInt (IntKind.i64).bits 1).toNat = ((n / 2 ^ k % 2 : Nat) : Int) := by
  have e0 : min (k : Int).toNat (IntKind.i64).bits = k := by rw [Int.toNat_natCast]; show min k 64 = k; omega
  rw [e0]
  have e1 : ((n : Int)).fdiv (2 ^ k) = ((n / 2 ^ k : Nat) : Int) := by
    rw [Int.fdiv_eq_ediv_of_nonneg _ (by exact Int.le_of_lt (Int.pow_pos (by decide)))]
    rw [Int.natCast_ediv, Int.natCast_pow]
    rfl
  rw [e1]
  have e2 : n / 2 ^ k ≤ n := Nat.div_le_self ..
  generalize n / 2 ^ k = m at e2 ⊢
  have e3 : (BitVec.ofInt (IntKind.i64).bits (m : Int) &&& BitVec.ofInt (IntKind.i64).bits 1).toNat = m % 2 := by
    show (BitVec.ofInt 64 (m : Int) &&& BitVec.ofInt 64 1).toNat = m % 2
    rw [BitVec.toNat_and]
    have a1 : (BitVec.ofInt 64 (m : Int)).toNat = m := by
      rw [BitVec.toNat_ofInt]
      omega
    have a2 : (BitVec.ofInt 64 1).toNat = 1 := rfl
    rw [a1, a2, Nat.and_one_is_mod]
  rw [e3, wrap_in (by omega) (by omega)]
def bytesR (w : List Bool) : Rw := w.map fun b => [.int .u8 (if b then 43 else 45)]
theorem strN_bytes : ∀ w : List Bool, strN (bytesR w) = some (w.map fun b => if b then 43 else 45)
  | [] => rfl
  | b :: w => by
    show strN ([.int .u8 (if b then 43 else 45)] :: bytesR w) = _
    simp only [strN, strN_bytes w, List.map_cons]
theorem push_bA (l : L8) (x : UInt8) : (bA l).push x = bA (l ++ [x]) := by
  apply bA_inj
  rw [bA_data]
  show ((bA l).data.push x).toList = _
  rw [Array.toList_push, bA_data]
theorem fold_bytes : ∀ (w : List Bool) (l : L8), (w.map fun b => if b then (43 : Int) else 45).foldl (fun r n => r.push (UInt8.ofNat n.toNat)) (bA l) = bA (l ++ txt w)
  | [], l => by simp [txt]
  | b :: w, l => by
    simp only [List.map_cons, List.foldl_cons]
    rw [push_bA, fold_bytes w]
    have : UInt8.ofNat (if b = true then (43 : Int) else 45).toNat = if b = true then 43 else 45 := by cases b <;> rfl
    rw [this, List.append_assoc]
    rfl
theorem strD_bytes (w : List Bool) : strD (bytesR w) = some (bA (txt w)) := by
  unfold strD
  rw [strN_bytes, Option.map_some]
  have := fold_bytes w []
  rw [List.nil_append] at this
  exact congrArg some this
theorem born_l1 {d n : Nat} {acc : Rw} {K2 : Rw → Option (Rw × Bool)} (hd : d ≤ 20) (hn : n ≤ 1000) : ∀ (m f k : Nat) (v : List Bool), k + m = d → m < f → v.length ≤ k → impl_BornOn_l1 (d : Int) acc (n : Int) K2 f (bytesR v) (k : Int) = K2 (bytesR (v ++ wordN m (n / 2 ^ k)))
  | _, 0, _, _, _, h, _ => by omega
  | 0, f + 1, k, v, hk, _, hv => by
    simp only [impl_BornOn_l1, wordN]
    rw [if_neg (by omega), List.append_nil]
  | m + 1, f + 1, k, v, hk, hf, hv => by
    simp only [impl_BornOn_l1, wordN]
    rw [if_pos (by omega), if_pos (by omega), bit_eq hn (by omega)]
    have hl : (bytesR v).length = v.length := List.length_map ..
    have e : n / 2 ^ k / 2 = n / 2 ^ (k + 1) := by rw [Nat.div_div_eq_div_mul, Nat.pow_succ]
    have ew : IntKind.i64.wrap ((k : Int) + 1) = ((k + 1 : Nat) : Int) := by rw [wrap_in (by omega) (by omega)]; omega
    have hb : ∀ {α : Type} (K : UInt8 → Option α), byteD (ByteArray.mk #[43, 45]) ((n / 2 ^ k % 2 : Nat) : Int) K = K (if decide (n / 2 ^ k % 2 = 0) = true then 43 else 45) := by
      intro α K
      have : n / 2 ^ k % 2 = 0 ∨ n / 2 ^ k % 2 = 1 := by omega
      rcases this with q | q <;> rw [q] <;> rfl
    rw [hb, if_pos (by rw [hl]; unfold cap; omega), ew]
    have e2 : bytesR v ++ [[D.int .u8 (((if decide (n / 2 ^ k % 2 = 0) = true then (43 : UInt8) else 45).toNat : Nat) : Int)]] = bytesR (v ++ [decide (n / 2 ^ k % 2 = 0)]) := by
      unfold bytesR
      rw [List.map_append]
      cases decide (n / 2 ^ k % 2 = 0) <;> rfl
    rw [e2, born_l1 hd hn m f (k + 1) (v ++ [decide (n / 2 ^ k % 2 = 0)]) (by omega) (by omega) (by rw [List.length_append, List.length_singleton]; omega), List.append_assoc, e]
    rfl
theorem born_l0 {k d : Nat} {K0 : Rw → Option (Rw × Bool)} (hk : 200 < k) (hd : d ≤ 8) : ∀ (m f n : Nat) (ws : List (List Bool)), n + m = 2 ^ d → m < f → ws.length ≤ n → impl_BornOn_l0 k (d : Int) K0 f (rowsW ws) (n : Int) = K0 (rowsW (ws ++ (List.range' n m).map (wordN d)))
  | _, 0, _, _, _, h, _ => by omega
  | m, f + 1, n, ws, hn, hf, hl => by
    have p8 : 2 ^ d ≤ 2 ^ 8 := Nat.pow_le_pow_right (by decide) hd
    have q8 : (2 : Nat) ^ 8 = 256 := by decide
    have e0 : IntKind.i64.wrap (1 * 2 ^ (min (d : Int).toNat (IntKind.i64).bits)) = ((2 ^ d : Nat) : Int) := by
      have : min (d : Int).toNat (IntKind.i64).bits = d := by rw [Int.toNat_natCast]; show min d 64 = d; omega
      rw [this, Int.one_mul]
      have e : (2 : Int) ^ d = ((2 ^ d : Nat) : Int) := by rw [Int.natCast_pow]; rfl
      rw [e, wrap_in (by omega) (by omega)]
    simp only [impl_BornOn_l0]
    rw [e0]
    cases m with
    | zero => rw [if_neg (by omega)]; simp
    | succ m =>
      rw [if_pos (by omega)]
      have hb := born_l1 (d := d) (n := n) (acc := rowsW ws) (K2 := fun (v96 : Rw) => ((strD v96).bind fun y109 => ((impl_fromWord k y109).bind fun y111 => (if (rowsW ws).length + 1 ≤ cap then (impl_BornOn_l0 k (d : Int) K0 f (rowsW ws ++ ([[D.int .i64 y111.1, D.int .i64 y111.2]])) (IntKind.i64.wrap ((n : Int) + 1))) else none)))) (by omega) (by omega) d k 0 [] (by omega) (by omega) (by simp)
      have hb2 : impl_BornOn_l1 (d : Int) (rowsW ws) (n : Int) (fun (v96 : Rw) => ((strD v96).bind fun y109 => ((impl_fromWord k y109).bind fun y111 => (if (rowsW ws).length + 1 ≤ cap then (impl_BornOn_l0 k (d : Int) K0 f (rowsW ws ++ ([[D.int .i64 y111.1, D.int .i64 y111.2]])) (IntKind.i64.wrap ((n : Int) + 1))) else none)))) k ([] : Rw) 0 = _ := hb
      rw [hb2]
      simp only [List.nil_append, Nat.pow_zero, Nat.div_one]
      have hw := wordN_len d n
      rw [strD_bytes, Option.bind_some, fromWord_eq hk (by rw [bA_size, txt_len]; omega), Option.bind_some, if_pos (by rw [rowsW_len]; unfold cap; omega), lets_txt]
      have e2 : rowsW ws ++ [[D.int .i64 (mkF (runN oN (wordN d n)).x 1048576).1, D.int .i64 (mkF (runN oN (wordN d n)).x 1048576).2]] = rowsW (ws ++ [wordN d n]) := by unfold rowsW; rw [List.map_append]; rfl
      have ew : IntKind.i64.wrap ((n : Int) + 1) = ((n + 1 : Nat) : Int) := by rw [wrap_in (by omega) (by omega)]; omega
      rw [e2, ew, born_l0 hk hd m f (n + 1) _ (by omega) (by omega) (by rw [List.length_append, List.length_singleton]; omega), List.range'_succ, List.map_cons, List.append_assoc]
      rfl
theorem iBornOn_eq {k : Nat} {d : Int} (hk : 300 < k) : impl_BornOn k d = some (if 0 ≤ d ∧ d ≤ 8 then (rowsW (bornW d.toNat), true) else ([], false)) := by
  unfold impl_BornOn
  rw [iIn_eq, Option.bind_some]
  by_cases h : 0 ≤ d ∧ d ≤ 8
  · rw [decide_eq_true h.1, decide_eq_true h.2, if_pos (by rfl), if_pos h.1, if_pos h]
    obtain ⟨m, rfl⟩ : ∃ m : Nat, d = m := ⟨d.toNat, by omega⟩
    have hm : m ≤ 8 := by omega
    have p8 : 2 ^ m ≤ 2 ^ 8 := Nat.pow_le_pow_right (by decide) hm
    have q8 : (2 : Nat) ^ 8 = 256 := by decide
    have hl := born_l0 (k := k) (d := m) (K0 := fun (v57 : Rw) => ((lib_SortF v57).bind fun y114 => (if y114.length = v57.length then some (y114, true) else none))) (by omega) hm (2 ^ m) k 0 [] (by omega) (by omega) (by simp)
    have hl2 : impl_BornOn_l0 k (m : Int) (fun (v57 : Rw) => ((lib_SortF v57).bind fun y114 => (if y114.length = v57.length then some (y114, true) else none))) k ([] : Rw) 0 = _ := hl
    rw [hl2, List.nil_append, ← List.range_eq_range', Int.toNat_natCast]
    have hw : ∀ w ∈ (List.range (2 ^ m)).map (wordN m), w.length ≤ 20 := by
      intro w hw
      obtain ⟨n, _, rfl⟩ := List.mem_map.1 hw
      rw [wordN_len]; omega
    have hw2 : ∀ w ∈ bornW m, w.length ≤ 20 := fun w hw => by rw [bornW_len m w hw]; omega
    have hlib : lib_SortF (rowsW ((List.range (2 ^ m)).map (wordN m))) = some (rowsW (bornW m)) := by
      unfold lib_SortF
      rw [if_pos (by rw [rowsW_len, List.length_map, List.length_range]; omega), rowsW_fr hw, fracsD_of, Option.map_some, sort_born (by omega) (words_perm m), rowsW_fr hw2]
    show (lib_SortF (rowsW ((List.range (2 ^ m)).map (wordN m)))).bind _ = _
    rw [hlib, Option.bind_some, if_pos (by rw [rowsW_len, rowsW_len, bornW_count, List.length_map, List.length_range])]
  · rw [if_neg h]
    by_cases h1 : 0 ≤ d
    · rw [decide_eq_true h1, decide_eq_false (by omega)]; rfl
    · rw [decide_eq_false h1]; rfl
/-! ### the reference's list -/
theorem shBorn_eq : ∀ (d k : Nat) (v : List Bool), 201 + d < k → v.length + d ≤ 20 → d ≤ 8 → spec_shBorn k (bA (txt v)) (d : Int) = some (rowsW ((bornW d).map (v ++ ·)))
  | _, 0, _, h, _, _ => by omega
  | 0, k + 1, v, hk, hl, _ => by
    simp only [spec_shBorn, spec_shBorn_b]
    rw [if_pos (by rfl), svalue_eq (by omega) (by rw [bA_size, txt_len]; omega), Option.bind_some, lets_txt]
    simp only [bornW, List.map_cons, List.map_nil, List.append_nil]
    rfl
  | d + 1, k + 1, v, hk, hl, hd => by
    have p8 : 2 ^ d ≤ 2 ^ 8 := Nat.pow_le_pow_right (by decide) (by omega)
    have q8 : (2 : Nat) ^ 8 = 256 := by decide
    have ew : IntKind.i64.wrap (((d + 1 : Nat) : Int) - 1) = (d : Int) := by rw [wrap_in (by omega) (by omega)]; omega
    have e45 : bA (txt v) ++ ByteArray.mk #[45] = bA (txt (v ++ [false])) := by rw [bA_45, bA_app]; unfold txt; rw [List.map_append]; rfl
    have e43 : bA (txt v) ++ ByteArray.mk #[43] = bA (txt (v ++ [true])) := by rw [bA_43, bA_app]; unfold txt; rw [List.map_append]; rfl
    simp only [spec_shBorn, spec_shBorn_b]
    rw [if_neg (by omega), if_pos (by rw [bA_size, txt_len]; show _ + 1 ≤ _; omega), ew, e45, shBorn_eq d k (v ++ [false]) (by omega) (by rw [List.length_append, List.length_singleton]; omega) (by omega), Option.bind_some]
    rw [if_pos (by rw [bA_size, txt_len]; show _ + 1 ≤ _; omega), e43, shBorn_eq d k (v ++ [true]) (by omega) (by rw [List.length_append, List.length_singleton]; omega) (by omega), Option.bind_some]
    rw [if_pos (by
      refine ⟨by rw [rowsW_len, rowsW_len, List.length_map, List.length_map, bornW_count]; unfold cap; omega, fun cs hc => ?_⟩
      unfold rowsW at hc
      obtain ⟨w, _, rfl⟩ := List.mem_map.1 hc
      rfl)]
    congr 1
    unfold rowsW
    rw [← List.map_append]
    congr 1
    simp only [bornW, List.map_append, List.map_map]
    congr 1 <;> (apply List.map_congr_left; intro w _; simp)
theorem sBornOn_eq {k : Nat} {d : Int} (hk : 300 < k) : spec_BornOn k d = some (if 0 ≤ d ∧ d ≤ 8 then (rowsW (bornW d.toNat), true) else ([], false)) := by
  unfold spec_BornOn
  rw [sIn_eq, Option.bind_some]
  by_cases h : 0 ≤ d ∧ d ≤ 8
  · rw [decide_eq_true h.1, decide_eq_true h.2, if_pos (by rfl), if_pos h]
    obtain ⟨m, rfl⟩ : ∃ m : Nat, d = m := ⟨d.toNat, by omega⟩
    have := shBorn_eq m k [] (by omega) (by simp; omega) (by omega)
    have e : (bornW m).map (([] : List Bool) ++ ·) = bornW m := by simp
    rw [e] at this
    have h2 : spec_shBorn k (ByteArray.mk #[]) (m : Int) = some (rowsW (bornW m)) := this
    rw [h2, Option.bind_some, Int.toNat_natCast]
  · rw [if_neg h]
    by_cases h1 : 0 ≤ d
    · rw [decide_eq_true h1, decide_eq_false (by omega)]; rfl
    · rw [decide_eq_false h1]; rfl
end Go.Proofs.Try

namespace Go.Proofs.Try
open Go Go.AX
/-- A list of pairs of integers. -/
inductive Fl where
  | nil
  | cons (n d : Int) (l : Fl)
namespace Fl
def rowsL : Fl → Rw
  | nil => []
  | cons n d l => [.int .i64 n, .int .i64 d] :: rowsL l
def lenL : Fl → Nat
  | nil => 0
  | cons _ _ l => lenL l + 1
def sizeL (t : Fl) : Nat := lenL t
def appL : Fl → Fl → Fl
  | nil, b => b
  | cons n d l, b => cons n d (appL l b)
def dropL : Fl → Nat → Fl
  | t, 0 => t
  | nil, _ + 1 => nil
  | cons _ _ l, n + 1 => dropL l n
theorem rowsL_len (t : Fl) : t.rowsL.length = t.lenL := by
  induction t with
  | nil => rfl
  | cons n d l ih => simp [rowsL, lenL, ih]
theorem rows_appL (a b : Fl) : (appL a b).rowsL = a.rowsL ++ b.rowsL := by
  induction a with
  | nil => rfl
  | cons n d l ih => simp [appL, rowsL, ih]
theorem app_assocL (a b c : Fl) : appL (appL a b) c = appL a (appL b c) := by
  induction a with
  | nil => rfl
  | cons n d l ih => simp [appL, ih]
theorem app_nilL (a : Fl) : appL a nil = a := by
  induction a with
  | nil => rfl
  | cons n d l ih => simp [appL, ih]
theorem len_appL (a b : Fl) : (appL a b).lenL = a.lenL + b.lenL := by
  induction a with
  | nil => simp [appL, lenL]
  | cons n d l ih => simp [appL, lenL, ih]; omega
theorem drop_zeroL (t : Fl) : dropL t 0 = t := by cases t <;> rfl
theorem drop_appL (l r : Fl) : dropL (appL l r) l.lenL = r := by
  induction l with
  | nil => exact drop_zeroL r
  | cons n d l ih => exact ih
theorem rows_dropL (t : Fl) (i : Nat) : (dropL t i).rowsL = t.rowsL.drop i := by
  induction t generalizing i with
  | nil => cases i <;> simp [dropL, rowsL]
  | cons n d l ih => cases i with
    | zero => rfl
    | succ i => exact ih i
theorem drop_succL {t : Fl} {i : Nat} {n d : Int} {l : Fl} (h : dropL t i = cons n d l) : dropL t (i + 1) = l := by
  induction t generalizing i with
  | nil => cases i <;> cases h
  | cons n' d' l' ih =>
    cases i with
    | zero => simp only [dropL, cons.injEq] at h ⊢; first | exact h.2.2 | (rw [drop_zeroL]; exact h.2.2)
    | succ i => exact ih h
theorem drop_lenL (t : Fl) (i : Nat) : (dropL t i).lenL = t.lenL - i := by rw [← rowsL_len, rows_dropL, List.length_drop, rowsL_len]
theorem rows_getL {t : Fl} {i : Nat} {n d : Int} {l : Fl} (h : dropL t i = cons n d l) : t.rowsL[i]? = some [.int .i64 n, .int .i64 d] := by
  have := rows_dropL t i
  rw [h] at this
  have h2 : (t.rowsL.drop i)[0]? = some [.int .i64 n, .int .i64 d] := by rw [← this]; rfl
  rwa [List.getElem?_drop, Nat.add_zero] at h2
end Fl
open Fl
theorem row_L {α : Type} {t : Fl} {i : Int} {j : Nat} (hi : i = j) {n d : Int} {l : Fl} (h : dropL t j = .cons n d l) (K : Int → Int → Option α) : row_ii t.rowsL i K = K n d := by
  subst hi
  unfold row_ii
  rw [if_pos (by omega), Int.toNat_natCast, rows_getL h]; rfl
theorem cell_L {α : Type} (n d : Int) (K : Int → Int → Option α) : cell_ii [D.int .i64 n, D.int .i64 d] K = K n d := rfl
theorem lenLI (t : Fl) : ((t.rowsL.length : Nat) : Int) = (t.lenL : Int) := by rw [rowsL_len]
def fitL (_ : Fl) : Prop := True
theorem eqFrL_loop {a : Fl} : ∀ (t : Fl) (i : Nat), dropL a i = t → laws_eqFractionS_l0 a.rowsL a.rowsL (some true) t.rowsL i = some true
  | .nil, i, _ => rfl
  | .cons n d l, i, h => by
    simp only [rowsL, laws_eqFractionS_l0, cell_L]
    have he : laws_eqFraction n d n d = some true := by unfold laws_eqFraction; rw [if_pos rfl, if_pos rfl]
    rw [row_L rfl h, he, Option.bind_some, if_pos rfl]
    exact eqFrL_loop l (i + 1) (drop_succL h)
theorem eqFrL_refl (k : Nat) (a : Fl) (_ : a.sizeL < k) (hc : a.sizeL ≤ cap) : laws_eqFractionS a.rowsL a.rowsL = some true := by
  unfold sizeL at hc
  unfold laws_eqFractionS
  rw [if_pos rfl, if_pos (by rw [rowsL_len]; omega)]
  exact eqFrL_loop a 0 (drop_zeroL a)
def mkL : Fl → Int → Fl
  | .nil, _ => .nil
  | .cons _ _ l, k => .cons k (k + 1) (mkL l (k + 2))
theorem mkL_len (t : Fl) (k : Int) : (mkL t k).lenL = t.lenL := by
  induction t generalizing k with
  | nil => rfl
  | cons n d l ih => simp [mkL, lenL, ih]
theorem set_rowsL (l r : Fl) (n d n' d' : Int) : (appL l (.cons n d r)).rowsL.set l.lenL [D.int .i64 n', D.int .i64 d'] = (appL l (.cons n' d' r)).rowsL := by
  rw [rows_appL, rows_appL, ← rowsL_len l, List.set_append_right (h := Nat.le_refl _), Nat.sub_self]; rfl
theorem markFrL_loop {K0 : Int → Rw → Option (Int × Rw)} : ∀ (t done : Fl) (n : Nat) (k : Int), t.lenL < n → 0 ≤ k → k + 2 * t.lenL ≤ 4000000000000000000 → done.lenL + t.lenL ≤ 4000000000000000000 → laws_markFractionS_2_l0 K0 n (appL done t).rowsL k done.lenL = K0 (k + 2 * t.lenL) (appL done (mkL t k)).rowsL
  | _, _, 0, _, h, _, _, _ => absurd h (Nat.not_lt_zero _)
  | .nil, done, n + 1, k, _, _, _, _ => by
    simp only [laws_markFractionS_2_l0]
    rw [if_neg (by rw [app_nilL, lenLI]; omega)]
    simp [lenL, mkL]
  | .cons c d l, done, n + 1, k, hn, h0, hk, hl => by
    simp only [lenL] at hn hl hk
    have hlen : ((appL done (.cons c d l)).rowsL.length : Int) = done.lenL + l.lenL + 1 := by rw [lenLI, len_appL]; simp only [lenL]; omega
    have hd : ∀ c' d' : Int, dropL (appL done (.cons c' d' l)) done.lenL = .cons c' d' l := fun c' d' => drop_appL done _
    simp only [laws_markFractionS_2_l0]
    rw [if_pos (by omega), if_pos (by omega), row_L rfl (hd c d), Int.toNat_natCast, set_rowsL, row_L rfl (hd k d), set_rowsL, wid (n := k + 1) (by omega) (by omega), wid (n := k + 1 + 1) (by omega) (by omega), wid (n := (done.lenL : Int) + 1) (by omega) (by omega)]
    have e1 : appL done (.cons k (k + 1) l) = appL (appL done (.cons k (k + 1) .nil)) l := by rw [app_assocL]; rfl
    have e2 : ((done.lenL : Int) + 1) = ((appL done (.cons k (k + 1) .nil)).lenL : Int) := by rw [len_appL]; rfl
    rw [e1, e2, show k + 1 + 1 = k + 2 by omega, markFrL_loop l _ n (k + 2) (by omega) (by omega) (by omega) (by rw [len_appL]; simp only [lenL]; omega), app_assocL]
    have e3 : k + 2 + 2 * (l.lenL : Int) = k + 2 * (((Fl.cons c d l).lenL : Nat) : Int) := by simp only [lenL]; omega
    rw [e3]; rfl
theorem markFrL_eq (K : Nat) (t : Fl) (k : Int) (h : t.sizeL + 1 < K) (h0 : 0 ≤ k) (hk : k + 2 * t.sizeL ≤ 4000000000000000000) : laws_markFractionS_2 K t.rowsL k = some (k + 2 * t.sizeL, (mkL t k).rowsL) := by
  unfold sizeL at *
  cases t with
  | nil =>
    obtain ⟨m, rfl⟩ : ∃ m, K = m + 1 := ⟨K - 1, by omega⟩
    simp only [laws_markFractionS_2, laws_markFractionS_3, laws_markFractionS_3_l0]
    simp [rowsL, mkL, lenL]
  | cons c d l =>
    unfold laws_markFractionS_2
    rw [if_neg (by simp [rowsL])]
    have := markFrL_loop (K0 := fun v26 v27 => (if v27.length = (Fl.cons c d l).rowsL.length then some (v26, v27) else none)) (.cons c d l) .nil K k (by omega) h0 hk (by have e9 : (Fl.cons c d l).lenL = l.lenL + 1 := rfl; simp only [lenL]; omega)
    refine this.trans ?_
    show (if (mkL (Fl.cons c d l) k).rowsL.length = (Fl.cons c d l).rowsL.length then _ else _) = _
    rw [if_pos (by rw [rowsL_len, rowsL_len, mkL_len])]
    rfl
end Go.Proofs.Try

namespace Go.Proofs.Try
open Go Go.AX
def rowsF (l : List (Int × Int)) : Rw := l.map fun p => [.int .i64 p.1, .int .i64 p.2]
theorem rowsF_len (l : List (Int × Int)) : (rowsF l).length = l.length := List.length_map ..
def goodL (l : List (Int × Int)) : Prop := ∀ p ∈ l, frP p.1 p.2 = true
def leF (a b : Int × Int) : Prop := a.1 * b.2 ≤ b.1 * a.2
theorem leF_trans {a b c : Int × Int} (ha : 0 < a.2) (hb : 0 < b.2) (hc : 0 < c.2) (h1 : leF a b) (h2 : leF b c) : leF a c := by
  unfold leF at *
  have e1 : a.1 * b.2 * c.2 ≤ b.1 * a.2 * c.2 := Int.mul_le_mul_of_nonneg_right h1 (by omega)
  have e2 : b.1 * c.2 * a.2 ≤ c.1 * b.2 * a.2 := Int.mul_le_mul_of_nonneg_right h2 (by omega)
  have e3 : a.1 * c.2 * b.2 ≤ c.1 * a.2 * b.2 := by
    have q1 : a.1 * c.2 * b.2 = a.1 * b.2 * c.2 := Int.mul_right_comm ..
    have q2 : b.1 * a.2 * c.2 = b.1 * c.2 * a.2 := Int.mul_right_comm ..
    have q3 : c.1 * a.2 * b.2 = c.1 * b.2 * a.2 := Int.mul_right_comm ..
    omega
  exact Int.le_of_mul_le_mul_right e3 hb
theorem leF_refl (a : Int × Int) : leF a a := Int.le_refl _
theorem fr_pos {p : Int × Int} (h : frP p.1 p.2 = true) : 0 < p.2 := by have := (frP_in h).1; omega
/-- Comparing with a number of units. -/
theorem units_le {x n d : Int} : (mkF x 1048576).1 * d ≤ n * (mkF x 1048576).2 ↔ x * d ≤ n * 1048576 := by
  obtain ⟨g, g0, g1, g2, g3, g4⟩ := mk_ok (n := x) (d := 1048576) (by decide)
  generalize mkF x 1048576 = p at g1 g2 g3 g4 ⊢
  have a1 : x * d = p.1 * d * g := by rw [g1]; exact Int.mul_right_comm ..
  have a2 : n * 1048576 = n * p.2 * g := by rw [g2, Int.mul_assoc]
  rw [a1, a2]
  exact ⟨fun h => Int.mul_le_mul_of_nonneg_right h (by omega), fun h => Int.le_of_mul_le_mul_right h g0⟩
theorem units_ge {x n d : Int} : n * (mkF x 1048576).2 ≤ (mkF x 1048576).1 * d ↔ n * 1048576 ≤ x * d := by
  obtain ⟨g, g0, g1, g2, g3, g4⟩ := mk_ok (n := x) (d := 1048576) (by decide)
  generalize mkF x 1048576 = p at g1 g2 g3 g4 ⊢
  have a1 : x * d = p.1 * d * g := by rw [g1]; exact Int.mul_right_comm ..
  have a2 : n * 1048576 = n * p.2 * g := by rw [g2, Int.mul_assoc]
  rw [a1, a2]
  exact ⟨fun h => Int.mul_le_mul_of_nonneg_right h (by omega), fun h => Int.le_of_mul_le_mul_right h g0⟩
theorem cmpI_ge {a b : Int} : 0 ≤ cmpI a b ↔ b ≤ a := by unfold cmpI; split <;> (try split) <;> omega
theorem cmpI_le {a b : Int} : cmpI a b ≤ 0 ↔ a ≤ b := by unfold cmpI; split <;> (try split) <;> omega
theorem cmpI_lt {a b : Int} : cmpI a b < 0 ↔ a < b := by unfold cmpI; split <;> (try split) <;> omega
theorem cmpI_gt {a b : Int} : 0 < cmpI a b ↔ b < a := by unfold cmpI; split <;> (try split) <;> omega
/-! ### the greatest one -/
def mostF : Int × Int → List (Int × Int) → Int × Int
  | m, [] => m
  | m, p :: l => mostF (if 0 < cmpF p.1 p.2 m.1 m.2 then p else m) l
theorem most_ok : ∀ (l : List (Int × Int)) (m : Int × Int), frP m.1 m.2 = true → goodL l → (mostF m l ∈ m :: l) ∧ leF m (mostF m l) ∧ ∀ p ∈ l, leF p (mostF m l)
  | [], m, hm, hl => ⟨by simp [mostF], leF_refl m, by simp⟩
  | p :: l, m, hm, hl => by
    have hp : frP p.1 p.2 = true := hl p (List.mem_cons_self ..)
    have hl' : goodL l := fun q hq => hl q (List.mem_cons_of_mem _ hq)
    simp only [mostF]
    by_cases h : 0 < cmpF p.1 p.2 m.1 m.2
    · rw [if_pos h]
      obtain ⟨i1, i2, i3⟩ := most_ok l p hp hl'
      have hmp : leF m p := by
        have := cmpI_gt.1 h
        unfold leF; omega
      have hg : frP (mostF p l).1 (mostF p l).2 = true := by
        rcases List.mem_cons.1 i1 with e | e
        · rw [e]; exact hp
        · exact hl' _ e
      refine ⟨List.mem_cons_of_mem _ i1, leF_trans (fr_pos hm) (fr_pos hp) (fr_pos hg) hmp i2, fun q hq => ?_⟩
      rcases List.mem_cons.1 hq with rfl | hq
      · exact i2
      · exact i3 q hq
    · rw [if_neg h]
      obtain ⟨i1, i2, i3⟩ := most_ok l m hm hl'
      have hpm : leF p m := by
        have := (not_congr cmpI_gt).1 h
        unfold leF; omega
      have hg : frP (mostF m l).1 (mostF m l).2 = true := by
        rcases List.mem_cons.1 i1 with e | e
        · rw [e]; exact hm
        · exact hl' _ e
      refine ⟨?_, i2, fun q hq => ?_⟩
      · rcases List.mem_cons.1 i1 with e | e
        · rw [e]; exact List.mem_cons_self ..
        · exact List.mem_cons_of_mem _ (List.mem_cons_of_mem _ e)
      · rcases List.mem_cons.1 hq with rfl | hq
        · exact leF_trans (fr_pos hp) (fr_pos hm) (fr_pos hg) hpm i2
        · exact i3 q hq
/-! ### the sides of a number -/
def upB (l : List (Int × Int)) (x : Int) : Bool := l.any fun p => decide (x * p.2 ≤ p.1 * 1048576)
def dnB (l : List (Int × Int)) (x : Int) : Bool := l.any fun p => decide (p.1 * 1048576 ≤ x * p.2)
def negP (p : Int × Int) : Int × Int := (-p.1, p.2)
theorem negP_fr {p : Int × Int} (h : frP p.1 p.2 = true) : frP (negP p).1 (negP p).2 = true := by
  obtain ⟨a, b, c⟩ := frP_in h
  have c' : Int.gcd (-p.1) p.2 = 1 := by rw [Int.neg_gcd]; exact c
  show frP (-p.1) p.2 = true
  simp only [frP, Bool.and_eq_true, decide_eq_true_eq]
  exact ⟨⟨by omega, by omega⟩, ⟨by omega, by omega⟩, c'⟩
/-- Where the walk to the simplest number goes. -/
def gS (L R : List (Int × Int)) (x : Int) : Int := if upB L x = true then 1 else if dnB R x = true then -1 else 0
theorem cross {L R : List (Int × Int)} {x : Int} (hL : goodL L) (hR : goodL R) (h1 : upB L x = true) (h2 : dnB R x = true) (y : Int) : gS L R y ≠ 0 := by
  obtain ⟨a, a1, a2⟩ := List.any_eq_true.1 h1
  obtain ⟨b, b1, b2⟩ := List.any_eq_true.1 h2
  have a2 := of_decide_eq_true a2
  have b2 := of_decide_eq_true b2
  have ha := fr_pos (hL a a1)
  have hb := fr_pos (hR b b1)
  have hba : leF b a := leF_trans (b := (x, 1048576)) hb (show (0 : Int) < 1048576 by decide) ha b2 a2
  unfold gS
  by_cases h : upB L y = true
  · rw [if_pos h]; decide
  · rw [if_neg h]
    have h3 : ¬ (y * a.2 ≤ a.1 * 1048576) := fun c => h (List.any_eq_true.2 ⟨a, a1, decide_eq_true c⟩)
    have h4 : leF a (y, 1048576) := by unfold leF; simp only; omega
    have h5 : b.1 * 1048576 ≤ y * b.2 := leF_trans (c := (y, 1048576)) hb ha (show (0 : Int) < 1048576 by decide) hba h4
    have h6 : dnB R y = true := List.any_eq_true.2 ⟨b, b1, decide_eq_true h5⟩
    rw [if_pos h6]
    decide
/-- The simplest number, if there is one. -/
def simpP (L R : List (Int × Int)) : List Bool := pathN (gS L R) 20 oN
def simpX (L R : List (Int × Int)) : Int := (runN oN (simpP L R)).x
def simpR (L R : List (Int × Int)) : Int × Int × Bool := if gS L R (simpX L R) = 0 then ((mkF (simpX L R) 1048576).1, (mkF (simpX L R) 1048576).2, true) else (0, 0, false)
end Go.Proofs.Try

namespace Go.Proofs.Try
open Go Go.AX T
/-! ### rows of terms -/
theorem lenI (t : T) : ((t.rows.length : Nat) : Int) = (t.len : Int) := by rw [rows_len]
/-! ### impl's order -/
/-! ### spec's order -/
/-- Coefficients whose differences do not run over. -/
def calm : T → Prop
  | nil => True
  | cons e c l => calm e ∧ (-1000000000000000 ≤ c ∧ c ≤ 1000000000000000) ∧ calm l
theorem calm_drop {t : T} (h : calm t) : ∀ {i : Nat}, calm (drop t i) := by
  induction t with
  | nil => intro i; simpa using h
  | cons e c l _ ih => intro i; cases i with
    | zero => simpa using h
    | succ i => exact ih h.2.2
end Go.Proofs.Try

namespace Go.Proofs.Try
open Go Go.AX T
theorem impl_in_eq (n a b : Int) : impl_in n a b = some (decide (a ≤ n) && decide (n ≤ b)) := by
  unfold impl_in
  by_cases h1 : a ≤ n <;> by_cases h2 : n ≤ b <;> simp [h1, h2]
theorem l1In_eq (n a b : Int) : spec_l1In n a b = some (decide (a ≤ n) && decide (n ≤ b)) := by
  unfold spec_l1In
  by_cases h1 : a ≤ n <;> by_cases h2 : n ≤ b <;> simp [h1, h2]
/-- The exponent of the term ahead of the i-th. -/
def ahead (t : T) : Nat → Option T
  | 0 => none
  | i + 1 => match drop t i with
    | cons e _ _ => some e
    | nil => none
theorem ahead_succ {t : T} {i : Nat} {e : T} {c : Int} {l : T} (h : drop t i = cons e c l) : ahead t (i + 1) = some e := by simp [ahead, h]
theorem ahead_some {t : T} {i : Nat} (h0 : 0 < i) (h : i ≤ t.len) : ∃ q c l, drop t (i - 1) = cons q c l ∧ ahead t i = some q := by
  obtain ⟨j, rfl⟩ : ∃ j, i = j + 1 := ⟨i - 1, by omega⟩
  cases hq : drop t j with
  | nil => have := drop_ge hq; omega
  | cons q c l => exact ⟨q, c, l, hq, ahead_succ hq⟩
theorem dp_drop {t : T} : ∀ {i : Nat}, dp (drop t i) ≤ dp t := by
  induction t with
  | nil => intro i; simp
  | cons e c l _ ih => intro i; cases i with
    | zero => simp
    | succ i => have := ih (i := i); simp only [drop, dp]; omega
/-- What a check of a tree tells. -/
def Tells (r : Bool × Int) (n : Int) (ok : Prop) (m : Int) : Prop := (r.1 = true ↔ ok) ∧ (r.1 = true → r.2 = m) ∧ 0 ≤ r.2 ∧ r.2 ≤ 61 ∧ n ≤ r.2
def toldT (t : T) : T × Bool := if ordP t then (t, true) else (nil, false)
/-! ### spec's check -/
end Go.Proofs.Try

namespace Go.Proofs.Try
open Go Go.AX T
abbrev w (n : Int) : Int := IntKind.i64.wrap n
theorem drop_app (l r : T) : drop (app l r) l.len = r := by
  induction l with
  | nil => simp [app, len]
  | cons e c l _ ih => exact ih
theorem T.snoc (t : T) : t = nil ∨ ∃ l x c, t = app l (cons x c nil) := by
  induction t with
  | nil => exact .inl rfl
  | cons e c l _ ih =>
    rcases ih with rfl | ⟨l', x, d, rfl⟩
    · exact .inr ⟨nil, e, c, rfl⟩
    · exact .inr ⟨cons e c l', x, d, rfl⟩
theorem calm_app {a b : T} : calm (app a b) ↔ calm a ∧ calm b := by
  induction a with
  | nil => simp [app, calm]
  | cons e c l _ ih => simp only [app, calm, ih, and_assoc]
/-! ### impl's sum -/
def goP : T → T → Int → T → T
  | nil, f, d, m => cons f d m
  | cons e c l, f, d, m => if cmpT e f = 1 then cons e c (goP l f d m) else if cmpT e f = 0 then cons e (w (c + d)) m else goP l f d m
def plusT : T → T → T
  | a, nil => a
  | a, cons f d m => goP a f d m
theorem goP_size (a f : T) (d : Int) (m : T) : (goP a f d m).size ≤ a.size + f.size + m.size + 1 := by
  induction a with
  | nil => simp [goP, size]
  | cons e c l _ ih =>
    simp only [goP]
    split
    · simp only [size]; omega
    · split
      · simp only [size]; omega
      · simp only [size]; omega
theorem plusT_size (a b : T) : (plusT a b).size ≤ a.size + b.size := by
  cases b with
  | nil => simp [plusT]
  | cons f d m => simp only [plusT, size]; have := goP_size a f d m; omega
theorem calm_less {a b : T} (h : ordP a = true) : True := trivial
theorem form_calm {p : Option T} {t : T} (h : formA p t = true) : calm t := by
  induction t generalizing p with
  | nil => trivial
  | cons e c l ihe ihl =>
    simp only [formA, Bool.and_eq_true, decide_eq_true_eq] at h
    obtain ⟨⟨⟨⟨h1, h2⟩, h3⟩, _⟩, h5⟩ := h
    exact ⟨ihe h3, by omega, ihl h5⟩
theorem ordP_form {t : T} (h : ordP t = true) : formA none t = true := by
  simp only [ordP, Bool.and_eq_true] at h; exact h.2
theorem form_any {p : Option T} {t : T} (h : formA p t = true) : formA none t = true := by
  cases t with
  | nil => rfl
  | cons e c l =>
    simp only [formA, Bool.and_eq_true] at h ⊢
    exact ⟨⟨⟨h.1.1.1, h.1.1.2⟩, trivial⟩, h.2⟩
end Go.Proofs.Try

namespace Go.Proofs.Try
open Go Go.AX T
/-- Without the terms at the end that are less than w^e. -/
def popT : T → T → T
  | nil, _ => nil
  | cons x c l, e => match popT l e with
    | nil => if cmpT x e < 0 then nil else cons x c nil
    | cons y d m => cons x c (cons y d m)
/-- A term added at the end. -/
def addL : T → T → Int → T
  | nil, e, d => cons e d nil
  | cons x c l, e, d => match l with
    | nil => if cmpT x e = 0 then cons x (w (c + d)) nil else cons x c (cons e d nil)
    | cons _ _ _ => cons x c (addL l e d)
def splus : T → T → T
  | a, nil => a
  | a, cons f d m => splus (addL (popT a f) f d) m
theorem popT_snoc (l x : T) (c : Int) (e : T) : popT (app l (cons x c nil)) e = if cmpT x e < 0 then popT l e else app l (cons x c nil) := by
  induction l with
  | nil => simp [app, popT]
  | cons y d l _ ih =>
    by_cases h : cmpT x e < 0
    · rw [if_pos h] at ih ⊢
      simp only [app, popT]
      rw [ih]
    · rw [if_neg h] at ih ⊢
      simp only [app, popT]
      rw [ih]
      cases l <;> simp [app]
theorem addL_snoc (l x : T) (c : Int) (e : T) (d : Int) : addL (app l (cons x c nil)) e d = if cmpT x e = 0 then app l (cons x (w (c + d)) nil) else app (app l (cons x c nil)) (cons e d nil) := by
  induction l with
  | nil => simp only [app, addL]
  | cons y k l _ ih =>
    have : app l (cons x c nil) ≠ nil := by cases l <;> simp [app]
    simp only [app, addL]
    split
    · rename_i h; exact absurd h this
    · rename_i h
      rw [ih]
      split <;> rfl
theorem popT_size (a e : T) : (popT a e).size ≤ a.size := by
  induction a with
  | nil => simp [popT, size]
  | cons x c l _ ih =>
    simp only [popT]
    split
    · split <;> simp [size]
    · rename_i h; rw [h] at ih; simp only [size] at ih ⊢; omega
theorem addL_size (a e : T) (d : Int) : (addL a e d).size ≤ a.size + e.size + 1 := by
  induction a with
  | nil => simp [addL, size]
  | cons x c l _ ih =>
    simp only [addL]
    split
    · split <;> simp [size] <;> omega
    · simp only [size] at ih ⊢; omega
theorem splus_size (a b : T) : (splus a b).size ≤ a.size + b.size := by
  induction b generalizing a with
  | nil => simp [splus, size]
  | cons f d m _ ih =>
    have h1 := ih (addL (popT a f) f d)
    have h2 := addL_size (popT a f) f d
    have h3 := popT_size a f
    simp only [splus, size] at *; omega
/-- Coefficients within a bound. -/
def sm (B : Int) : T → Prop
  | nil => True
  | cons e c l => sm B e ∧ (-B ≤ c ∧ c ≤ B) ∧ sm B l
theorem sm_calm {B : Int} {t : T} (h : sm B t) (hB : B ≤ 1000000000000000) : calm t := by
  induction t with
  | nil => trivial
  | cons e c l ihe ihl => exact ⟨ihe h.1, by have := h.2.1; omega, ihl h.2.2⟩
theorem sm_mono {B C : Int} {t : T} (h : sm B t) (hB : B ≤ C) : sm C t := by
  induction t with
  | nil => trivial
  | cons e c l ihe ihl => exact ⟨ihe h.1, by have := h.2.1; omega, ihl h.2.2⟩
theorem sm_app {B : Int} {a b : T} : sm B (app a b) ↔ sm B a ∧ sm B b := by
  induction a with
  | nil => simp [app, sm]
  | cons e c l _ ih => simp only [app, sm, ih, and_assoc]
theorem sm_pop {B : Int} {a e : T} (h : sm B a) : sm B (popT a e) := by
  induction a with
  | nil => trivial
  | cons x c l _ ih =>
    have ih := ih h.2.2
    simp only [popT]
    split
    · split
      · trivial
      · exact ⟨h.1, h.2.1, trivial⟩
    · rename_i hq; rw [hq] at ih; exact ⟨h.1, h.2.1, ih⟩
theorem sm_addL {B C : Int} {a e : T} {d : Int} (h : sm B a) (he : sm C e) (hd : -C ≤ d ∧ d ≤ C) (hB : 0 ≤ B ∧ 0 ≤ C ∧ B + C ≤ 1000000000000000) : sm (B + C) (addL a e d) := by
  induction a with
  | nil => exact ⟨sm_mono he (by omega), by omega, trivial⟩
  | cons x c l _ ih =>
    obtain ⟨h1, h2, h3⟩ := h
    simp only [addL]
    split
    · split
      · refine ⟨sm_mono h1 (by omega), ?_, trivial⟩
        show _ ≤ w (c + d) ∧ w (c + d) ≤ _
        rw [show w (c + d) = c + d from wid (by omega) (by omega)]; omega
      · exact ⟨sm_mono h1 (by omega), by omega, sm_mono he (by omega), by omega, trivial⟩
    · exact ⟨sm_mono h1 (by omega), by omega, ih h3⟩
theorem snoc_last (l x : T) (c : Int) : drop (app l (cons x c nil)) l.len = cons x c nil := drop_app l _
/-! ### right ones -/
theorem form_sm {p : Option T} {t : T} (h : formA p t = true) : sm 1000000 t := by
  induction t generalizing p with
  | nil => trivial
  | cons e c l ihe ihl =>
    simp only [formA, Bool.and_eq_true, decide_eq_true_eq] at h
    obtain ⟨⟨⟨⟨h1, h2⟩, h3⟩, _⟩, h5⟩ := h
    exact ⟨ihe h3, by omega, ihl h5⟩
/-- Exponents that fall, from below p on. -/
def falls : Option T → T → Prop
  | _, nil => True
  | p, cons e _ l => (∀ q, p = some q → 0 < cmpT q e) ∧ falls (some e) l
theorem form_falls {p : Option T} {t : T} (h : formA p t = true) : falls p t := by
  induction t generalizing p with
  | nil => trivial
  | cons e c l _ ihl =>
    simp only [formA, Bool.and_eq_true, decide_eq_true_eq] at h
    refine ⟨fun q hq => ?_, ihl h.2⟩
    subst hq
    simpa using h.1.2
theorem cmp_lt_of {a b c : T} (h1 : 0 < cmpT a b) (h2 : cmpT b c = 1 ∨ cmpT b c = 0) : 0 < cmpT a c := by
  rcases h2 with h2 | h2
  · have q1 : cmpT b a < 0 := by rw [cmpT_neg a b]; omega
    have q2 : cmpT c b < 0 := by rw [cmpT_neg b c]; omega
    have := cmpT_trans q2 q1
    rw [cmpT_neg c a]; omega
  · obtain rfl := cmpT_eq.1 h2; exact h1
/-- In falling terms, those ahead of a greater one are greater. -/
theorem goP_pop {a f : T} {d : Int} : ∀ {p : Option T}, falls p a → addL (popT a f) f d = goP a f d nil
  | p, h => by
    induction a generalizing p with
    | nil => rfl
    | cons e c l _ ih =>
      have h2 := h.2
      have key : ∀ {x : T}, falls (some x) l → cmpT x f ≤ 0 → popT l f = nil := by
        intro x hx hxf
        clear ih h h2
        induction l generalizing x with
        | nil => rfl
        | cons y k m _ ihm =>
          have hy := hx.1 x rfl
          have hyf : cmpT y f < 0 := by
            rcases cmpT_range x f with q | q | q
            · have q2 : cmpT y x < 0 := by rw [cmpT_neg x y]; omega
              exact cmpT_trans q2 (by omega)
            · obtain rfl := cmpT_eq.1 q
              rw [cmpT_neg x y]; omega
            · omega
          simp only [popT, ihm hx.2 (by omega), if_pos hyf]
      have ih := ih _ h2
      simp only [popT, goP]
      rcases cmpT_range e f with q | q | q
      · rw [key h2 (by omega)]
        have e1 : ¬ cmpT e f = 1 := by omega
        have e2 : ¬ cmpT e f = 0 := by omega
        simp only [if_neg e1, if_neg e2, if_pos (by omega : cmpT e f < 0)]
        rw [← ih, key h2 (by omega)]
      · rw [key h2 (by omega)]
        have e1 : ¬ cmpT e f = 1 := by omega
        simp only [if_neg e1, if_pos q, if_neg (by omega : ¬ cmpT e f < 0), addL]
      · simp only [if_pos q]
        rw [← ih]
        cases hq : popT l f with
        | nil =>
          simp only [if_neg (by omega : ¬ cmpT e f < 0), addL, if_neg (by omega : ¬ cmpT e f = 0)]
        | cons y k m => simp only [addL]
theorem goP_app {a f : T} {d : Int} {m : T} : goP a f d m = app (goP a f d nil) m := by
  induction a with
  | nil => rfl
  | cons e c l _ ih =>
    simp only [goP]
    split
    · simp only [app, ih]
    · split
      · rfl
      · exact ih
/-- What is less than all ahead of it is only added at the end. -/
theorem splus_end {a x : T} {c : Int} : ∀ {m : T}, falls (some x) m → splus (app a (cons x c nil)) m = app (app a (cons x c nil)) m
  | nil, _ => by simp [splus]
  | cons g k m, h => by
    have h1 := h.1 x rfl
    simp only [splus]
    rw [popT_snoc, if_neg (by omega), addL_snoc, if_neg (by omega)]
    rw [splus_end (a := app a (cons x c nil)) h.2, app_assoc (app a (cons x c nil))]
    rfl
theorem goP_snoc {a f : T} {d : Int} : ∃ l c, goP a f d nil = app l (cons f c nil) := by
  induction a with
  | nil => exact ⟨nil, d, rfl⟩
  | cons e c l _ ih =>
    obtain ⟨l', c', h⟩ := ih
    simp only [goP]
    split
    · exact ⟨cons e c l', c', by rw [h]; rfl⟩
    · split
      · rename_i q; obtain rfl := cmpT_eq.1 q; exact ⟨nil, _, rfl⟩
      · exact ⟨l', c', h⟩
theorem splus_plus {a b : T} (ha : falls none a) (hb : falls none b) : splus a b = plusT a b := by
  cases b with
  | nil => cases a <;> rfl
  | cons f d m =>
    simp only [splus, plusT]
    rw [goP_pop ha, goP_app (m := m)]
    obtain ⟨l, c, h⟩ := goP_snoc (a := a) (f := f) (d := d)
    rw [h]
    exact splus_end hb.2
theorem plusT_sm {B C : Int} {a b : T} (ha : sm B a) (hb : sm C b) (hB : 0 ≤ B ∧ 0 ≤ C ∧ B + C ≤ 1000000000000000) : sm (B + C) (plusT a b) := by
  cases b with
  | nil => exact sm_mono ha (by omega)
  | cons f d m =>
    simp only [plusT]
    have hm : sm (B + C) m := sm_mono hb.2.2 (by omega)
    induction a with
    | nil => exact ⟨sm_mono hb.1 (by omega), by have := hb.2.1; omega, hm⟩
    | cons e c l _ ih =>
      have h1 := ha.2.1
      have h2 := hb.2.1
      simp only [goP]
      split
      · exact ⟨sm_mono ha.1 (by omega), by omega, ih ha.2.2⟩
      · split
        · refine ⟨sm_mono ha.1 (by omega), ?_, hm⟩
          show _ ≤ w (c + d) ∧ w (c + d) ≤ _
          rw [show w (c + d) = c + d from wid (by omega) (by omega)]; omega
        · exact ih ha.2.2
def intT (n : Int) : T := if n = 0 then nil else cons nil n nil
theorem intT_size (n : Int) : (intT n).size ≤ 1 := by unfold intT; split <;> simp [size]
theorem intT_sm {n B : Int} (h : -B ≤ n ∧ n ≤ B) : sm B (intT n) := by
  unfold intT; split
  · trivial
  · exact ⟨trivial, h, trivial⟩
theorem snocRows (l e : T) (c : Int) : l.rows ++ [[D.sl e.rows, D.int .i64 c]] = (app l (cons e c nil)).rows := by rw [rows_app]; rfl
end Go.Proofs.Try

namespace Go.Proofs.Try
open Go Go.AX T
def bytes (x : Rw) : Prop := ∀ r ∈ x, ∃ b : Int, r = [.int .u8 b] ∧ 0 ≤ b ∧ b < 256
/-- A drawn value: its place moves on by at most n. -/
def Drew {α : Type} (x : Rw) (a n : Int) (r : Option (α × Rw × Int × Int)) (Q : α → Prop) : Prop :=
  ∃ v a' c', r = some (v, x, a', c') ∧ 0 ≤ a' ∧ a' ≤ a + n ∧ Q v
theorem Drew.mono {α : Type} {x : Rw} {a n m : Int} {r : Option (α × Rw × Int × Int)} {Q : α → Prop} (h : Drew x a n r Q) (hn : n ≤ m) : Drew x a m r Q := by
  obtain ⟨v, a', c', e, h1, h2, h3⟩ := h
  exact ⟨v, a', c', e, h1, by omega, h3⟩
theorem Drew.bind {α β : Type} {x : Rw} {a n m : Int} {r : Option (α × Rw × Int × Int)} {Q : α → Prop} {S : β → Prop} {F : α × Rw × Int × Int → Option (β × Rw × Int × Int)} (h : Drew x a n r Q)
    (hF : ∀ v a' c', 0 ≤ a' → a' ≤ a + n → Q v → Drew x a' m (F (v, x, a', c')) S) : Drew x a (n + m) (r.bind F) S := by
  obtain ⟨v, a', c', e, h1, h2, h3⟩ := h
  obtain ⟨u, a2, c2, e2, q1, q2, q3⟩ := hF v a' c' h1 h2 h3
  exact ⟨u, a2, c2, by rw [e, Option.bind_some, e2], q1, by omega, q3⟩
theorem and255 (n : Nat) (b : BitVec n) : (b &&& BitVec.ofInt n 255).toNat ≤ 255 := by
  rw [BitVec.toNat_and]
  refine Nat.le_trans Nat.and_le_right ?_
  rw [BitVec.toNat_ofInt]
  show (((255 : Nat) : Int) % ((2 ^ n : Nat) : Int)).toNat ≤ 255
  rw [← Int.natCast_emod, Int.toNat_natCast]
  exact Nat.mod_le _ _
/-- What meet has yet to add. -/
def due (f : Bool) (e : T) : Nat := cond f 0 (e.size + 1)
end Go.Proofs.Try

namespace Go.Proofs.Try
open Go Go.AX T
def IsT (S : Nat) (B : Int) (r : Rw) : Prop := ∃ t : T, r = t.rows ∧ t.size ≤ S ∧ sm B t
def zS : Nat → Nat
  | 0 => 1
  | d + 1 => 3 * (zS d + 2)
def zB : Nat → Int
  | 0 => 3
  | d + 1 => 3 * (zB d + 1000)
def zN : Nat → Int
  | 0 => 2
  | d + 1 => 2 + 3 * (8 + zN d)
theorem splus_sm {B : Int} : ∀ (b a : T) (C : Int), sm C a → sm B b → 0 ≤ B → 0 ≤ C → C + B * b.len ≤ 1000000000000 → sm (C + B * b.len) (splus a b)
  | nil, a, C, sa, _, _, _, _ => sm_mono sa (by simp [len])
  | cons f d m, a, C, sa, sb, hB, hC, hs => by
    have e : B * ((m.len + 1 : Nat) : Int) = B * m.len + B := by rw [Int.natCast_add, Int.mul_add]; omega
    simp only [len] at hs ⊢
    have hnn : 0 ≤ B * (m.len : Int) := Int.mul_nonneg hB (by omega)
    rw [e] at hs ⊢
    have := splus_sm m (addL (popT a f) f d) (C + B) (sm_addL (sm_pop sa) sb.1 sb.2.1 ⟨hC, hB, by omega⟩) sb.2.2 hB (by omega) (by omega)
    exact sm_mono this (by omega)
end Go.Proofs.Try

namespace Go.Proofs.Try
open Go Go.AX S
def sg (n : Int) : Int := cmpI n 0
def cmpS : S → S → Int
  | nil, nil => 0
  | nil, cons _ m _ _ => - sg m
  | cons _ n _ _, nil => sg n
  | cons e n d l, cons f m g r => if cmpS e f = 1 then sg n else if cmpS e f = -1 then - sg m else if cmpF n d m g = 0 then cmpS l r else cmpF n d m g
/-- Fractions that are right, and not 0. -/
def gdS : S → Prop
  | nil => True
  | cons e n d l => gdS e ∧ (frP n d = true ∧ n ≠ 0) ∧ gdS l
theorem gd_drop {t : S} (h : gdS t) : ∀ {i : Nat}, gdS (dropS t i) := by
  induction t with
  | nil => intro i; simp [gdS]
  | cons e n d l _ ih => intro i; cases i with
    | zero => simpa using h
    | succ i => exact ih h.2.2
theorem cmpI_range (a b : Int) : cmpI a b = -1 ∨ cmpI a b = 0 ∨ cmpI a b = 1 := by unfold cmpI; split <;> (try split) <;> simp
theorem sg_range (n : Int) : sg n = -1 ∨ sg n = 0 ∨ sg n = 1 := cmpI_range n 0
theorem cmpS_range (a b : S) : cmpS a b = -1 ∨ cmpS a b = 0 ∨ cmpS a b = 1 := by
  induction a generalizing b with
  | nil =>
    cases b with
    | nil => simp [cmpS]
    | cons f m g r => have := sg_range m; simp only [cmpS]; omega
  | cons e n d l ihe ihl =>
    cases b with
    | nil => exact sg_range n
    | cons f m g r =>
      have h1 := sg_range n
      have h2 := sg_range m
      simp only [cmpS]
      split
      · exact h1
      · split
        · omega
        · split
          · exact ihl r
          · exact cmpI_range _ _
theorem cmpS_neg (a b : S) : cmpS b a = - cmpS a b := by
  induction a generalizing b with
  | nil => cases b <;> simp [cmpS]
  | cons e n d l ihe ihl =>
    cases b with
    | nil => simp [cmpS]
    | cons f m g r =>
      simp only [cmpS, ihe f, ihl r, cmpF_neg n d m g]
      have := cmpS_range e f
      split <;> split <;> (try split) <;> (try split) <;> (try split) <;> omega
theorem cmpS_refl (a : S) : cmpS a a = 0 := by have := cmpS_neg a a; omega
theorem sg_nz {n : Int} (h : n ≠ 0) : sg n ≠ 0 := by unfold sg cmpI; split <;> (try split) <;> omega
theorem cmpS_eq : ∀ {a b : S}, gdS a → gdS b → (cmpS a b = 0 ↔ a = b)
  | nil, nil, _, _ => by simp [cmpS]
  | nil, cons f m g r, _, gb => by
    have := sg_nz gb.2.1.2
    simp only [cmpS, reduceCtorEq, iff_false]; omega
  | cons e n d l, nil, ga, _ => by
    have := sg_nz ga.2.1.2
    simp only [cmpS, reduceCtorEq, iff_false]; omega
  | cons e n d l, cons f m g r, ga, gb => by
    have i1 := cmpS_eq ga.1 gb.1
    have i2 := cmpS_eq ga.2.2 gb.2.2
    have i3 := cmpF_eq ga.2.1.1 gb.2.1.1
    have h1 := sg_nz ga.2.1.2
    have h2 := sg_nz gb.2.1.2
    have hr := cmpS_range e f
    simp only [cmpS, S.cons.injEq]
    constructor
    · intro h
      split at h
      · omega
      · split at h
        · omega
        · split at h
          · rename_i q1 q2 q3
            obtain ⟨z1, z2⟩ := i3.1 q3
            exact ⟨i1.1 (by omega), z1, z2, i2.1 h⟩
          · rename_i q; exact absurd h q
    · rintro ⟨z1, z2, z3, z4⟩
      have y1 := i1.2 z1
      rw [if_neg (by omega), if_neg (by omega), if_pos (i3.2 ⟨z2, z3⟩)]
      exact i2.2 z4
theorem cmpF_lt {n d m g : Int} : cmpF n d m g = 1 ↔ m * d < n * g := by
  unfold cmpF cmpI
  split
  · omega
  · split <;> simp <;> omega
theorem cmpF_trans {n d m g u v : Int} (hd : 0 < d) (hg : 0 < g) (hv : 0 < v) (h1 : cmpF n d m g = 1) (h2 : cmpF m g u v = 1) : cmpF n d u v = 1 := by
  rw [cmpF_lt] at *
  have q1 : m * d * v < n * g * v := Int.mul_lt_mul_of_pos_right h1 hv
  have q2 : u * g * d < m * v * d := Int.mul_lt_mul_of_pos_right h2 hd
  have e1 : m * d * v = m * v * d := by rw [Int.mul_assoc, Int.mul_comm d v, ← Int.mul_assoc]
  have e2 : u * g * d = u * d * g := by rw [Int.mul_assoc, Int.mul_comm g d, ← Int.mul_assoc]
  have e3 : n * g * v = n * v * g := by rw [Int.mul_assoc, Int.mul_comm g v, ← Int.mul_assoc]
  have q3 : u * d * g < n * v * g := by omega
  exact Int.lt_of_mul_lt_mul_right q3 (by omega)
theorem sg_one {n : Int} : sg n = 1 ↔ 0 < n := by unfold sg cmpI; split <;> (try split) <;> omega
theorem sg_neg {n : Int} : sg n = -1 ↔ n < 0 := by unfold sg cmpI; split <;> (try split) <;> omega
/-- Signs and fractions. -/
theorem cmpF_sign {n d m g : Int} (hd : 0 < d) (hg : 0 < g) (hn : 0 < n) (hm : m < 0) : cmpF n d m g = 1 := by
  rw [cmpF_lt]
  have := Int.mul_pos hn hg
  have := Int.mul_neg_of_neg_of_pos hm hd
  omega
theorem cmpF_pos {n d m g : Int} (hd : 0 < d) (hg : 0 < g) (h : cmpF n d m g = 1) (hm : 0 < m) : 0 < n := by
  rw [cmpF_lt] at h
  have h1 := Int.mul_pos hm hd
  rcases Int.lt_or_le 0 n with x | x
  · exact x
  · have := Int.mul_nonpos_of_nonpos_of_nonneg x (show 0 ≤ g by omega); omega
theorem cmpF_ng {n d m g : Int} (hd : 0 < d) (hg : 0 < g) (h : cmpF n d m g = 1) (hn : n < 0) : m < 0 := by
  rw [cmpF_lt] at h
  have h1 := Int.mul_neg_of_neg_of_pos hn hg
  rcases Int.lt_or_le m 0 with x | x
  · exact x
  · have := Int.mul_nonneg x (show 0 ≤ d by omega); omega
end Go.Proofs.Try

namespace Go.Proofs.Try
open Go Go.AX S
theorem two_if {α : Type} {p : Bool} {c : Int} {X F : α} : (if p = true then (if c = 0 then F else X) else F) = if (p && decide (c ≠ 0)) = true then X else F := by
  cases p <;> by_cases h : c = 0 <;> simp [h]
/-! ### what is right -/
def nodesS : S → Nat
  | nil => 0
  | cons e _ _ l => 2 + nodesS e + nodesS l
def dpS : S → Nat
  | nil => 0
  | cons e _ _ l => max (1 + dpS e) (dpS l)
/-- Coefficients in their range, exponents that fall; p: the exponent aheadS. -/
def formS : Option S → S → Bool
  | _, nil => true
  | p, cons e c c₂ l => frP c c₂ && decide (c ≠ 0) && formS none e && (match p with | none => true | some q => decide (0 < cmpS q e)) && formS (some e) l
def surP (t : S) : Bool := decide (1 + nodesS t ≤ 60) && decide (dpS t ≤ 6) && formS none t
theorem nodesS_size (t : S) : nodesS t = 2 * sizeS t := by
  induction t with
  | nil => rfl
  | cons e c c₂ l ihe ihl => simp only [nodesS, sizeS, ihe, ihl]; omega
theorem surP_size {t : S} (h : surP t = true) : sizeS t ≤ 30 := by
  simp only [surP, Bool.and_eq_true, decide_eq_true_eq] at h
  have := nodesS_size t
  omega
theorem sform_gd {p : Option S} {t : S} (h : formS p t = true) : gdS t := by
  induction t generalizing p with
  | nil => trivial
  | cons e c c₂ l ihe ihl =>
    simp only [formS, Bool.and_eq_true] at h
    exact ⟨ihe h.1.1.2, ⟨h.1.1.1.1, by have := h.1.1.1.2; simpa using this⟩, ihl h.2⟩
/-- The exponent of the term aheadS of the i-th. -/
def aheadS (t : S) : Nat → Option S
  | 0 => none
  | i + 1 => match dropS t i with
    | cons e _ _ _ => some e
    | nil => none
theorem aheadS_succ {t : S} {i : Nat} {e : S} {c c₂ : Int} {l : S} (h : dropS t i = cons e c c₂ l) : aheadS t (i + 1) = some e := by simp [aheadS, h]
theorem aheadS_some {t : S} {i : Nat} (h0 : 0 < i) (h : i ≤ t.lenS) : ∃ q c c₂ l, dropS t (i - 1) = cons q c c₂ l ∧ aheadS t i = some q := by
  obtain ⟨j, rfl⟩ : ∃ j, i = j + 1 := ⟨i - 1, by omega⟩
  cases hq : dropS t j with
  | nil => have := drop_geS hq; omega
  | cons q c c₂ l => exact ⟨q, c, c₂, l, hq, aheadS_succ hq⟩
theorem dpS_drop {t : S} : ∀ {i : Nat}, dpS (dropS t i) ≤ dpS t := by
  induction t with
  | nil => intro i; simp
  | cons e c c₂ l _ ih => intro i; cases i with
    | zero => simp
    | succ i => have := ih (i := i); simp only [dropS, dpS]; omega
/-- What a check of a tree tells. -/
def TellsS (r : Bool × Int) (n : Int) (ok : Prop) (m : Int) : Prop := (r.1 = true ↔ ok) ∧ (r.1 = true → r.2 = m) ∧ 0 ≤ r.2 ∧ r.2 ≤ 61 ∧ n ≤ r.2
def toldST (t : S) : S × Bool := if surP t then (t, true) else (nil, false)
/-! ### spec's check -/
end Go.Proofs.Try

namespace Go.Proofs.Try
open Go Go.AX S
theorem cmpS_trans {a : S} : ∀ {b c : S}, gdS a → gdS b → gdS c → cmpS a b = 1 → cmpS b c = 1 → cmpS a c = 1 := by
  induction a with
  | nil =>
    intro b c ga gb gc h1 h2
    cases b with
    | nil => simp [cmpS] at h1
    | cons f m g r =>
      simp only [cmpS] at h1
      have hm : m < 0 := sg_neg.1 (by omega)
      have hg := frP_in gb.2.1.1
      cases c with
      | nil => simp only [cmpS] at h2; omega
      | cons k u v s =>
        have hv := frP_in gc.2.1.1
        have hr := cmpS_range f k
        simp only [cmpS] at h2 ⊢
        by_cases q1 : cmpS f k = 1
        · rw [if_pos q1] at h2; omega
        · rw [if_neg q1] at h2
          by_cases q2 : cmpS f k = -1
          · rw [if_pos q2] at h2; exact h2
          · rw [if_neg q2] at h2
            have hu : u < 0 := by
              by_cases q3 : cmpF m g u v = 0
              · have := (cmpF_eq gb.2.1.1 gc.2.1.1).1 q3; omega
              · rw [if_neg q3] at h2
                exact cmpF_ng (by omega) (by omega) h2 hm
            have := sg_neg.2 hu; omega
  | cons e n d l ihe ihl =>
    intro b c ga gb gc h1 h2
    have hd := frP_in ga.2.1.1
    cases b with
    | nil =>
      simp only [cmpS] at h1
      have hn : 0 < n := sg_one.1 h1
      cases c with
      | nil => simp [cmpS] at h2
      | cons k u v s =>
        simp only [cmpS] at h2
        have hu : u < 0 := sg_neg.1 (by omega)
        have hv := frP_in gc.2.1.1
        have hF := cmpF_sign (show 0 < d by omega) (show 0 < v by omega) hn hu
        simp only [cmpS]
        by_cases q1 : cmpS e k = 1
        · rw [if_pos q1]; exact h1
        · rw [if_neg q1]
          by_cases q2 : cmpS e k = -1
          · rw [if_pos q2]; exact h2
          · rw [if_neg q2, if_neg (by omega)]; exact hF
    | cons f m g r =>
      have hg := frP_in gb.2.1.1
      cases c with
      | nil =>
        simp only [cmpS] at h1 h2 ⊢
        have hm : 0 < m := sg_one.1 h2
        have hr := cmpS_range e f
        by_cases q1 : cmpS e f = 1
        · rw [if_pos q1] at h1; exact h1
        · rw [if_neg q1] at h1
          by_cases q2 : cmpS e f = -1
          · rw [if_pos q2] at h1; omega
          · rw [if_neg q2] at h1
            refine sg_one.2 ?_
            by_cases q3 : cmpF n d m g = 0
            · have := (cmpF_eq ga.2.1.1 gb.2.1.1).1 q3; omega
            · rw [if_neg q3] at h1
              exact cmpF_pos (by omega) (by omega) h1 hm
      | cons k u v s =>
        have hv := frP_in gc.2.1.1
        have t1 := @ihe f k ga.1 gb.1 gc.1
        have t2 := @ihe k f ga.1 gc.1 gb.1
        have x0 := cmpS_eq ga.1 gb.1
        have y0 := cmpS_eq gb.1 gc.1
        have z0 := cmpS_eq ga.1 gc.1
        have hx := cmpS_range e f
        have hy := cmpS_range f k
        have hz := cmpS_range e k
        have ny := cmpS_neg f k
        have F1 := cmpF_eq ga.2.1.1 gb.2.1.1
        have F2 := cmpF_eq gb.2.1.1 gc.2.1.1
        have F3 := cmpF_eq ga.2.1.1 gc.2.1.1
        have tl := @ihl r s ga.2.2 gb.2.2 gc.2.2
        simp only [cmpS] at h1 h2 ⊢
        rcases hx with hx | hx | hx
        · -- e < f
          rw [if_neg (by omega), if_pos hx] at h1
          have hm : m < 0 := sg_neg.1 (by omega)
          rcases hy with hy | hy | hy
          · rw [if_neg (by omega), if_pos hy] at h2
            have hz' : cmpS e k = -1 := by
              rcases hz with hz | hz | hz
              · exact hz
              · have := z0.1 hz; subst this; rw [cmpS_neg e f] at hy; omega
              · have := t2 hz (by omega); omega
            rw [if_neg (by omega), if_pos hz']; exact h2
          · rw [if_neg (by omega), if_neg (by omega)] at h2
            have := y0.1 hy; subst this
            rw [if_neg (by omega), if_pos hx]
            have hu : u < 0 := by
              by_cases q3 : cmpF m g u v = 0
              · have := F2.1 q3; omega
              · rw [if_neg q3] at h2; exact cmpF_ng (by omega) (by omega) h2 hm
            have := sg_neg.2 hu; omega
          · rw [if_pos hy] at h2; omega
        · -- e = f
          rw [if_neg (by omega), if_neg (by omega)] at h1
          have := x0.1 hx; subst this
          rcases hy with hy | hy | hy
          · rw [if_neg (by omega), if_pos hy] at h2
            rw [if_neg (by omega), if_pos hy]; exact h2
          · rw [if_neg (by omega), if_neg (by omega)] at h2
            rw [if_neg (by omega), if_neg (by omega)]
            by_cases q1 : cmpF n d m g = 0
            · rw [if_pos q1] at h1
              obtain ⟨rfl, rfl⟩ := F1.1 q1
              by_cases q2 : cmpF n d u v = 0
              · rw [if_pos q2] at h2 ⊢; exact tl h1 h2
              · rw [if_neg q2] at h2 ⊢; exact h2
            · rw [if_neg q1] at h1
              have h3 : cmpF n d u v = 1 := by
                by_cases q2 : cmpF m g u v = 0
                · obtain ⟨rfl, rfl⟩ := F2.1 q2; exact h1
                · rw [if_neg q2] at h2; exact cmpF_trans (by omega) (by omega) (by omega) h1 h2
              rw [if_neg (by omega)]; exact h3
          · rw [if_pos hy] at h2 ⊢
            have hm := sg_one.1 h2
            refine sg_one.2 ?_
            by_cases q1 : cmpF n d m g = 0
            · have := F1.1 q1; omega
            · rw [if_neg q1] at h1; exact cmpF_pos (by omega) (by omega) h1 hm
        · -- e > f
          rw [if_pos hx] at h1
          have hn := sg_one.1 h1
          rcases hy with hy | hy | hy
          · rw [if_neg (by omega), if_pos hy] at h2
            have hu : u < 0 := sg_neg.1 (by omega)
            have hF := cmpF_sign (show 0 < d by omega) (show 0 < v by omega) hn hu
            rcases hz with hz | hz | hz
            · rw [if_neg (by omega), if_pos hz]; exact h2
            · rw [if_neg (by omega), if_neg (by omega), if_neg (by omega)]; exact hF
            · rw [if_pos hz]; exact h1
          · have := y0.1 hy; subst this
            rw [if_pos hx]; exact h1
          · rw [if_pos (t1 hx hy)]; exact h1
end Go.Proofs.Try

namespace Go.Proofs.Try
open Go Go.AX S
theorem snocLenS (l e : S) (n d : Int) : (appS l (cons e n d nil)).lenS = l.lenS + 1 := by rw [len_appS]; rfl
/-- A term put into its place. -/
def putS : S → S → Int → Int → Option S
  | nil, f, m, g => some (cons f m g nil)
  | cons e n d l, f, m, g => if cmpS e f ≤ 0 then (if cmpS e f = 0 then (if frP (addF n d m g).1 (addF n d m g).2 = true then some (if (addF n d m g).1 = 0 then l else cons f (addF n d m g).1 (addF n d m g).2 l) else none) else some (cons f m g (cons e n d l))) else (putS l f m g).map (cons e n d)
def foldS : S → S → Option S
  | a, nil => some a
  | a, cons f m g r => (putS a f m g).bind fun x => foldS x r
def resS : Option S → Rw × Bool
  | some r => (r.rowsS, true)
  | none => ([], false)
theorem putS_gd {a f x : S} {m g : Int} (ga : gdS a) (gf : gdS f) (hm : frP m g = true ∧ m ≠ 0) (h : putS a f m g = some x) : gdS x := by
  induction a generalizing x with
  | nil => simp only [putS, Option.some.injEq] at h; subst h; exact ⟨gf, hm, trivial⟩
  | cons e n d l _ ih =>
    simp only [putS] at h
    split at h
    · split at h
      · split at h
        · rename_i hf
          simp only [Option.some.injEq] at h
          subst h
          split
          · exact ga.2.2
          · rename_i hz; exact ⟨gf, ⟨hf, hz⟩, ga.2.2⟩
        · cases h
      · simp only [Option.some.injEq] at h; subst h; exact ⟨gf, hm, ga⟩
    · cases hp : putS l f m g with
      | none => rw [hp] at h; cases h
      | some y =>
        rw [hp] at h
        simp only [Option.map_some, Option.some.injEq] at h
        subst h
        exact ⟨ga.1, ga.2.1, ih ga.2.2 hp⟩
theorem putS_size {a f x : S} {m g : Int} (h : putS a f m g = some x) : x.sizeS ≤ a.sizeS + f.sizeS + 1 := by
  induction a generalizing x with
  | nil => simp only [putS, Option.some.injEq] at h; subst h; simp [sizeS]
  | cons e n d l _ ih =>
    simp only [putS] at h
    split at h
    · split at h
      · split at h
        · simp only [Option.some.injEq] at h
          subst h
          split
          · simp only [sizeS]; omega
          · simp only [sizeS]; omega
        · cases h
      · simp only [Option.some.injEq] at h; subst h; simp only [sizeS]; omega
    · cases hp : putS l f m g with
      | none => rw [hp] at h; cases h
      | some y =>
        rw [hp] at h
        simp only [Option.map_some, Option.some.injEq] at h
        subst h
        have := ih hp
        simp only [sizeS]; omega
/-! ### the reference's put -/
theorem rowsS_snoc (l e : S) (n d : Int) : l.rowsS ++ [[D.sl e.rowsS, D.int .i64 n, D.int .i64 d]] = (appS l (cons e n d nil)).rowsS := by rw [rows_appS]; rfl
/-! ### impl's sum -/
def aboveS (e : S) : S → Prop
  | nil => True
  | cons x _ _ l => cmpS e x = 1 ∧ aboveS e l
def fallsS : S → Prop
  | nil => True
  | cons e _ _ l => aboveS e l ∧ fallsS l
theorem above_trans {e f : S} (ge : gdS e) (gf : gdS f) (h : cmpS e f = 1) : ∀ {r : S}, gdS r → aboveS f r → aboveS e r
  | nil, _, _ => trivial
  | cons _ _ _ _, gr, hr => ⟨cmpS_trans ge gf gr.1 h hr.1, above_trans ge gf h gr.2.2 hr.2⟩
theorem fold_above {e : S} {n d : Int} : ∀ (r l : S), aboveS e r → foldS (cons e n d l) r = (foldS l r).map (cons e n d)
  | nil, l, _ => rfl
  | cons f m g r, l, h => by
    simp only [foldS, putS]
    rw [if_neg (by have := h.1; omega)]
    cases putS l f m g with
    | none => rfl
    | some x => simp only [Option.map_some, Option.bind_some]; exact fold_above r x h.2
theorem fold_nil : ∀ (b : S), fallsS b → foldS nil b = some b
  | nil, _ => rfl
  | cons f m g r, h => by
    simp only [foldS, putS, Option.bind_some]
    rw [fold_above r nil h.1, fold_nil r h.2]; rfl
theorem form_above {p : Option S} {t : S} (h : formS p t = true) : (∀ q, p = some q → gdS q → aboveS q t) ∧ fallsS t := by
  induction t generalizing p with
  | nil => exact ⟨fun _ _ _ => trivial, trivial⟩
  | cons e n d l _ ih =>
    have hg := sform_gd h
    simp only [formS, Bool.and_eq_true] at h
    obtain ⟨i1, i2⟩ := ih h.2
    have ge := hg.1
    refine ⟨fun q hq gq => ?_, i1 e rfl ge, i2⟩
    subst hq
    have h2 := h.1.2
    simp only [decide_eq_true_eq] at h2
    have := cmpS_range q e
    have h3 : cmpS q e = 1 := by omega
    exact ⟨h3, above_trans gq ge h3 hg.2.2 (i1 e rfl ge)⟩
theorem falls_dropS {t : S} (h : fallsS t) : ∀ {i : Nat}, fallsS (dropS t i) := by
  induction t with
  | nil => intro i; simp [fallsS]
  | cons e n d l _ ih => intro i; cases i with
    | zero => simpa using h
    | succ i => exact ih h.2
end Go.Proofs.Try

namespace Go.Proofs.Try
open Go Go.AX S
def Drew2 (x : Rw) (a n : Int) (r : Option (Int × Int × Rw × Int × Int)) (Q : Int → Int → Prop) : Prop :=
  ∃ u v a' c', r = some (u, v, x, a', c') ∧ 0 ≤ a' ∧ a' ≤ a + n ∧ Q u v
/-- A coefficient of a drawn surreal. -/
abbrev coP (n d : Int) : Prop := frP n d = true ∧ n ≠ 0
theorem one_co {v : Int} (h : v = 1 ∨ v = -1) : coP v 1 := by rcases h with rfl | rfl <;> exact ⟨by decide, by decide⟩
end Go.Proofs.Try

namespace Go.Proofs.Try
open Go Go.AX
theorem mulIn {p : Int × Int} (hp : frP p.1 p.2 = true) {x : Int} (hx : -30000000 ≤ x ∧ x ≤ 30000000) : IntKind.i64.wrap (x * p.2) = x * p.2 ∧ IntKind.i64.wrap (p.1 * 1048576) = p.1 * 1048576 := by
  obtain ⟨a1, a2, _⟩ := frP_in hp
  have := prod_in (B := 30000000) (C := 1000000) hx (show 0 ≤ p.2 ∧ p.2 ≤ 1000000 by omega)
  exact ⟨wrap_in (by omega) (by omega), wrap_in (by omega) (by omega)⟩
theorem upB_cons (p : Int × Int) (l : List (Int × Int)) (x : Int) : upB (p :: l) x = (decide (x * p.2 ≤ p.1 * 1048576) || upB l x) := rfl
theorem dnB_cons (p : Int × Int) (l : List (Int × Int)) (x : Int) : dnB (p :: l) x = (decide (p.1 * 1048576 ≤ x * p.2) || dnB l x) := rfl
theorem gS_cases (L R : List (Int × Int)) (x : Int) : gS L R x = 0 ∨ gS L R x = 1 ∨ gS L R x = -1 := by
  unfold gS; split
  · simp
  · split <;> simp
theorem simp_len (L R : List (Int × Int)) : (simpP L R).length ≤ 20 := pathN_len ..
theorem simp_ok (L R : List (Int × Int)) : okN (0 + (simpP L R).length) (runN oN (simpP L R)) := okN_run _ okN_zero (by have := simp_len L R; omega)
/-! ### right lists -/
def goodB (l : List (Int × Int)) : Bool := l.all fun p => frP p.1 p.2
theorem goodB_cons (p : Int × Int) (l : List (Int × Int)) : goodB (p :: l) = (frP p.1 p.2 && goodB l) := rfl
theorem goodB_iff {l : List (Int × Int)} : goodB l = true ↔ goodL l := by unfold goodB goodL; rw [List.all_eq_true]
def okL (l : List (Int × Int)) : Bool := decide (l.length ≤ 20) && goodB l
theorem okL_good {l : List (Int × Int)} (h : okL l = true) : goodL l := by
  unfold okL at h
  rw [Bool.and_eq_true] at h
  exact goodB_iff.1 h.2
def simpO (L R : List (Int × Int)) : Int × Int × Bool := if okL L = true then (if okL R = true then simpR L R else (0, 0, false)) else (0, 0, false)
/-! ### draws -/
theorem rowsF_app (l : List (Int × Int)) (a b : Int) : rowsF l ++ [[D.int .i64 a, D.int .i64 b]] = rowsF (l ++ [(a, b)]) := by unfold rowsF; rw [List.map_append]; rfl
end Go.Proofs.Try

namespace Go.Proofs.Try
open Go Go.AX
/-- Between two lists. -/
def btwB (L R : List (Int × Int)) (y : Int × Int) : Bool := (L.all fun p => decide (p.1 * y.2 < y.1 * p.2)) && (R.all fun p => decide (y.1 * p.2 < p.1 * y.2))
theorem lt_tr {a b c : Int × Int} (ha : 0 < a.2) (hb : 0 < b.2) (hc : 0 < c.2) (h1 : a.1 * b.2 ≤ b.1 * a.2) (h2 : b.1 * c.2 < c.1 * b.2) : a.1 * c.2 < c.1 * a.2 := by
  have e1 : a.1 * b.2 * c.2 ≤ b.1 * a.2 * c.2 := Int.mul_le_mul_of_nonneg_right h1 (by omega)
  have e2 : b.1 * c.2 * a.2 < c.1 * b.2 * a.2 := Int.mul_lt_mul_of_pos_right h2 ha
  have e3 : a.1 * c.2 * b.2 < c.1 * a.2 * b.2 := by
    have q1 : a.1 * c.2 * b.2 = a.1 * b.2 * c.2 := Int.mul_right_comm ..
    have q2 : b.1 * a.2 * c.2 = b.1 * c.2 * a.2 := Int.mul_right_comm ..
    have q3 : c.1 * a.2 * b.2 = c.1 * b.2 * a.2 := Int.mul_right_comm ..
    omega
  exact Int.lt_of_mul_lt_mul_right e3 (by omega)
theorem lt_tr2 {a b c : Int × Int} (ha : 0 < a.2) (hb : 0 < b.2) (hc : 0 < c.2) (h1 : a.1 * b.2 < b.1 * a.2) (h2 : b.1 * c.2 ≤ c.1 * b.2) : a.1 * c.2 < c.1 * a.2 := by
  have e1 : a.1 * b.2 * c.2 < b.1 * a.2 * c.2 := Int.mul_lt_mul_of_pos_right h1 hc
  have e2 : b.1 * c.2 * a.2 ≤ c.1 * b.2 * a.2 := Int.mul_le_mul_of_nonneg_right h2 (by omega)
  have e3 : a.1 * c.2 * b.2 < c.1 * a.2 * b.2 := by
    have q1 : a.1 * c.2 * b.2 = a.1 * b.2 * c.2 := Int.mul_right_comm ..
    have q2 : b.1 * a.2 * c.2 = b.1 * c.2 * a.2 := Int.mul_right_comm ..
    have q3 : c.1 * a.2 * b.2 = c.1 * b.2 * a.2 := Int.mul_right_comm ..
    omega
  exact Int.lt_of_mul_lt_mul_right e3 (by omega)
/-- The way to a number between the lists begins with that to the simplest one. -/
theorem way_between {L R : List (Int × Int)} {y : Int × Int} (hL : goodL L) (hR : goodL R) (hy : 0 < y.2) (hb : btwB L R y = true) : ∃ rest, wayF y.1 y.2 = simpP L R ++ rest := by
  unfold btwB at hb
  rw [Bool.and_eq_true, List.all_eq_true, List.all_eq_true] at hb
  refine ⟨_, path_follow (g := gS L R) (f := toF y.1 y.2) (fun x => ⟨fun h => ?_, fun h => ?_⟩) 20 oN⟩
  · have hu : upB L x = true := by
      by_cases hu : upB L x = true
      · exact hu
      · unfold gS at h; rw [if_neg hu] at h; split at h <;> omega
    obtain ⟨a, a1, a2⟩ := List.any_eq_true.1 hu
    have a2 := of_decide_eq_true a2
    have a3 := of_decide_eq_true (hb.1 a a1)
    exact cmpI_gt.2 (lt_tr (a := (x, 1048576)) (b := a) (c := y) (show (0 : Int) < 1048576 by decide) (fr_pos (hL a a1)) hy a2 a3)
  · have hu : upB L x ≠ true := by
      intro hu; unfold gS at h; rw [if_pos hu] at h; omega
    have hd : dnB R x = true := by
      by_cases hd : dnB R x = true
      · exact hd
      · unfold gS at h; rw [if_neg hu, if_neg hd] at h; omega
    obtain ⟨a, a1, a2⟩ := List.any_eq_true.1 hd
    have a2 := of_decide_eq_true a2
    have a3 := of_decide_eq_true (hb.2 a a1)
    exact cmpI_lt.2 (lt_tr2 (a := y) (b := a) (c := (x, 1048576)) hy (fr_pos (hR a a1)) (show (0 : Int) < 1048576 by decide) a3 a2)
theorem toF_units (X z : Int) : toF (mkF X 1048576).1 (mkF X 1048576).2 z = cmpI X z := by
  obtain ⟨g, g0, g1, g2, g3, g4⟩ := mk_ok (n := X) (d := 1048576) (by decide)
  generalize mkF X 1048576 = p at g1 g2 g3 g4 ⊢
  have e : p.1 * 1048576 = X * p.2 := by rw [g2, g1]; simp only [Int.mul_comm, Int.mul_left_comm]
  unfold toF
  rw [e]
  unfold cmpI
  have key : ∀ a b : Int, a * p.2 < b * p.2 ↔ a < b := fun a b => ⟨fun h => Int.lt_of_mul_lt_mul_right h (by omega), fun h => Int.mul_lt_mul_of_pos_right h g4⟩
  by_cases h : X < z
  · rw [if_pos h, if_pos ((key _ _).2 h)]
  · rw [if_neg h, if_neg (fun c => h ((key _ _).1 c))]
    by_cases h : z < X
    · rw [if_pos h, if_pos ((key _ _).2 h)]
    · rw [if_neg h, if_neg (fun c => h ((key _ _).1 c))]
/-- The word of the number of a word. -/
theorem way_word {w : List Bool} (hw : w.length ≤ 20) : wayF (mkF (runN oN w).x 1048576).1 (mkF (runN oN w).x 1048576).2 = w :=
  path_word w 20 0 oN okN_zero (by omega) hw (fun x => toF_units _ x)
theorem short_word {w : List Bool} (hw : w.length ≤ 20) : shortF (mkF (runN oN w).x 1048576).1 (mkF (runN oN w).x 1048576).2 = true := by
  unfold shortF
  rw [way_word hw, okN_fr (okN_run w okN_zero (by omega)) (by omega), Bool.true_and]
  apply decide_eq_true
  obtain ⟨g, g0, g1, g2, g3, g4⟩ := mk_ok (n := (runN oN w).x) (d := 1048576) (by decide)
  generalize mkF (runN oN w).x 1048576 = p at g1 g2 g3 g4 ⊢
  generalize (runN oN w).x = X at g1 ⊢
  rw [g2, g1]; simp only [Int.mul_comm, Int.mul_left_comm]
theorem simp_between {L R : List (Int × Int)} (hL : goodL L) (hR : goodL R) (h : gS L R (simpX L R) = 0) : btwB L R (mkF (simpX L R) 1048576) = true := by
  have hu : upB L (simpX L R) ≠ true := by intro hu; unfold gS at h; rw [if_pos hu] at h; omega
  have hd : dnB R (simpX L R) ≠ true := by intro hd; unfold gS at h; rw [if_neg hu, if_pos hd] at h; omega
  unfold btwB
  rw [Bool.and_eq_true, List.all_eq_true, List.all_eq_true]
  refine ⟨fun p hp => decide_eq_true ?_, fun p hp => decide_eq_true ?_⟩
  · have : ¬ (simpX L R * p.2 ≤ p.1 * 1048576) := fun c => hu (List.any_eq_true.2 ⟨p, hp, decide_eq_true c⟩)
    have := (not_congr (units_le (x := simpX L R) (n := p.1) (d := p.2))).2 this
    omega
  · have : ¬ (p.1 * 1048576 ≤ simpX L R * p.2) := fun c => hd (List.any_eq_true.2 ⟨p, hp, decide_eq_true c⟩)
    have := (not_congr (units_ge (x := simpX L R) (n := p.1) (d := p.2))).2 this
    omega
end Go.Proofs.Try

namespace Go.Proofs.Try
open Go Go.AX Fl
def toFl : List (List Bool) → Fl
  | [] => .nil
  | w :: l => .cons (valW w).1 (valW w).2 (toFl l)
theorem toFl_rows : ∀ l, (toFl l).rowsL = rowsW l
  | [] => rfl
  | w :: l => by simp only [toFl, rowsL]; rw [toFl_rows l]; rfl
theorem toFl_len : ∀ l, (toFl l).lenL = l.length
  | [] => rfl
  | w :: l => by simp only [toFl, lenL, List.length_cons]; rw [toFl_len l]
theorem heldFr_loop {a : Rw} {K : Int → Option Int} : ∀ (t : Fl) (k : Int), 0 ≤ k → k + 2 * t.lenL ≤ 4000000000000000000 → laws_heldFractionS_l0 a K (mkL t k).rowsL k = K (k + 2 * t.lenL)
  | .nil, k, _, _ => by simp only [mkL, rowsL, laws_heldFractionS_l0, lenL]; simp
  | .cons n d l, k, h0, hk => by
    simp only [lenL] at hk
    simp only [mkL, rowsL, laws_heldFractionS_l0, cell_L]
    rw [if_pos trivial, wid (n := k + 1) (by omega) (by omega), if_pos rfl, wid (n := k + 1 + 1) (by omega) (by omega)]
    rw [show k + 1 + 1 = k + 2 by omega, heldFr_loop l (k + 2) (by omega) (by omega)]
    congr 1
    simp only [lenL]
    omega
theorem heldFr_eq {t : Fl} (ht : t.lenL ≤ 1000) : laws_heldFractionS (mkL t 1).rowsL 1 = some ((1 : Int) + 2 * (t.lenL : Int)) := by
  unfold laws_heldFractionS
  rw [if_pos (by rw [rowsL_len, mkL_len]; unfold cap; omega), heldFr_loop t 1 (by omega) (by omega)]
/-- A list like the reference's, whatever it is. -/
theorem bo_all {k : Nat} {d : Int} {l : Fl} {b : Bool} (hk : 5000 < k) (hl : l.lenL ≤ 1000) (hi : impl_BornOn k d = some (l.rowsL, b)) (hs : spec_BornOn k d = some (l.rowsL, b)) : laws_FnExactBornOn k d = some true := by
  have he := eqFrL_refl k l (by unfold sizeL; omega) (by unfold sizeL cap; omega)
  have hm := markFrL_eq k l 1 (by unfold sizeL; omega) (by omega) (by unfold sizeL; omega)
  have hh := heldFr_eq hl
  have hlen : (mkL l 1).rowsL.length = l.rowsL.length := by rw [rowsL_len, rowsL_len, mkL_len]
  have p12 : laws_FnExactBornOn_p12 (mkL l 1).rowsL (1 + 2 * l.lenL) = some true := by
    unfold laws_FnExactBornOn_p12
    rw [hh, Option.bind_some]
    unfold laws_FnExactBornOn_p14
    rw [if_neg (by omega), if_pos rfl]
  unfold laws_FnExactBornOn
  rw [hs, Option.bind_some]
  unfold sizeL at hm
  cases b with
  | true =>
    simp only [if_true]
    unfold laws_FnExactBornOn_p2
    rw [cond_true, hi, Option.bind_some]
    simp only [if_true]
    unfold laws_FnExactBornOn_p3
    rw [cond_true, cond_true, he, Option.bind_some, if_pos rfl]
    unfold laws_FnExactBornOn_p4
    rw [cond_true, hm, Option.bind_some, if_pos hlen]
    unfold laws_FnExactBornOn_p6
    rw [cond_true, hh, Option.bind_some]
    unfold laws_FnExactBornOn_p8
    rw [cond_true, if_neg (by omega), if_pos rfl, hi, Option.bind_some]
    simp only [if_true]
    unfold laws_FnExactBornOn_p11
    rw [cond_true, cond_true, he, Option.bind_some, if_pos rfl]
    exact p12
  | false =>
    simp only [Bool.false_eq_true, if_false]
    unfold laws_FnExactBornOn_p2
    rw [cond_false, hi, Option.bind_some]
    simp only [Bool.false_eq_true, if_false]
    unfold laws_FnExactBornOn_p3
    rw [cond_false, cond_false, he, Option.bind_some, if_pos rfl]
    unfold laws_FnExactBornOn_p4
    rw [cond_false, hm, Option.bind_some, if_pos hlen]
    unfold laws_FnExactBornOn_p6
    rw [cond_false, hh, Option.bind_some]
    unfold laws_FnExactBornOn_p8
    rw [cond_false, if_neg (by omega), if_pos rfl, hi, Option.bind_some]
    simp only [Bool.false_eq_true, if_false]
    unfold laws_FnExactBornOn_p11
    rw [cond_false, cond_false, he, Option.bind_some, if_pos rfl]
    exact p12
theorem day_len {m : Nat} (hm : m ≤ 8) : (bornW m).length ≤ 256 := by
  have p8 : 2 ^ m ≤ 2 ^ 8 := Nat.pow_le_pow_right (by decide) hm
  have q8 : (2 : Nat) ^ 8 = 256 := by decide
  rw [bornW_count]; omega
theorem FnExactBornOn_pure {d : Int} : laws_FnExactBornOn 5001 d = some true := by
  by_cases h : 0 ≤ d ∧ d ≤ 8
  · have h1 := iBornOn_eq (k := 5001) (d := d) (by omega)
    have h2 := sBornOn_eq (k := 5001) (d := d) (by omega)
    rw [if_pos h, ← toFl_rows] at h1 h2
    exact bo_all (by omega) (by rw [toFl_len]; have := day_len (m := d.toNat) (by omega); omega) h1 h2
  · have h1 := iBornOn_eq (k := 5001) (d := d) (by omega)
    have h2 := sBornOn_eq (k := 5001) (d := d) (by omega)
    rw [if_neg h] at h1 h2
    exact bo_all (l := .nil) (by omega) (by simp [lenL]) h1 h2
/-! ### the law of the days -/
theorem rowW_at {l : List (List Bool)} {i : Nat} (h : i < l.length) {α : Type} (K : Int → Int → Option α) : row_ii (rowsW l) (i : Int) K = K (valW l[i]).1 (valW l[i]).2 := by
  unfold row_ii rowsW
  rw [if_pos (by omega), Int.toNat_natCast, List.getElem?_map, List.getElem?_eq_getElem h]
  rfl
end Go.Proofs.Try

namespace Go.Proofs.Try
open Go Go.AX
def structTs (P : Program) (t : TypeId) : Option (List TypeId) := match P.underlying t with
  | some (.struct fs) => some (fs.toList.map fun f => f.type)
  | _ => none
def sliceT (P : Program) (t : TypeId) : Option TypeId := match P.underlying t with
  | some (.slice e) => some e
  | _ => none
def intT? (P : Program) (t : TypeId) : Option IntKind := match P.underlying t with
  | some (.int k) => some k
  | _ => none
def HasTs (H : TypeId → List D → Prop) : List TypeId → List D → Prop
  | [], ds => ds = []
  | t :: l, ds => ∃ a b, ds = a ++ b ∧ H t a ∧ HasTs H l b
theorem hasTs_of {H : TypeId → List D → Prop} : ∀ {l : List Field} {ds : List D}, HasFs H l ds → HasTs H (l.map fun f => f.type) ds
  | [], _, h => h
  | _ :: _, _, ⟨a, b, e, h1, h2⟩ => ⟨a, b, e, h1, hasTs_of h2⟩
theorem has_struct {P : Program} {n : Nat} {t : TypeId} {l : List TypeId} {ds : List D} (h : Has P (n + 1) t ds) (e : structTs P t = some l) : HasTs (Has P n) l ds := by
  unfold structTs at e
  simp only [Has] at h
  split at e
  · rename_i fs hu
    rw [hu] at h
    cases e
    exact hasTs_of h
  · cases e
theorem has_slice {P : Program} {n : Nat} {t u : TypeId} {ds : List D} (h : Has P (n + 1) t ds) (e : sliceT P t = some u) : ∃ es, ds = [.sl es] ∧ es.length ≤ maxLen ∧ ∀ r ∈ es, Has P n u r := by
  unfold sliceT at e
  simp only [Has] at h
  split at e
  · rename_i v hu
    rw [hu] at h
    cases e
    exact h
  · cases e
theorem has_int {P : Program} {n : Nat} {t : TypeId} {k : IntKind} {ds : List D} (h : Has P (n + 1) t ds) (e : intT? P t = some k) : ∃ i, ds = [.int k i] ∧ (Lit.int k i).wf = true := by
  unfold intT? at e
  simp only [Has] at h
  split at e
  · rename_i v hu
    rw [hu] at h
    cases e
    exact h
  · cases e
theorem has_bool {P : Program} {n : Nat} {t : TypeId} {ds : List D} (h : Has P (n + 1) t ds) (e : (match P.underlying t with | some .bool => true | _ => false) = true) : ∃ b, ds = [.bool b] := by
  simp only [Has] at h
  split at e
  · rename_i hu
    rw [hu] at h
    exact h
  · cases e
theorem has_str {P : Program} {n : Nat} {t : TypeId} {ds : List D} (h : Has P (n + 1) t ds) (e : (match P.underlying t with | some .string => true | _ => false) = true) : ∃ b, ds = [.str b] ∧ b.size ≤ maxLen := by
  simp only [Has] at h
  split at e
  · rename_i hu
    rw [hu] at h
    exact h
  · cases e
/-- Bytes. -/
def bytesOf (x : Rw) : Prop := ∀ r ∈ x, ∃ b : Int, r = [.int .u8 b] ∧ 0 ≤ b ∧ b < 256
theorem has_bytes {P : Program} {n : Nat} {t u : TypeId} {ds : List D} (h : Has P n t ds) (e : sliceT P t = some u) (e2 : intT? P u = some .u8) : ∃ es, ds = [.sl es] ∧ bytesOf es := by
  cases n with
  | zero => exact h.elim
  | succ n =>
    obtain ⟨es, rfl, _, hr⟩ := has_slice h e
    refine ⟨es, rfl, fun r hm => ?_⟩
    have hh := hr r hm
    cases n with
    | zero => exact hh.elim
    | succ n =>
      obtain ⟨i, rfl, hw⟩ := has_int hh e2
      have e1 : IntKind.u8.min = 0 := by decide
      have e2 : IntKind.u8.max = 255 := by decide
      simp only [Lit.wf, e1, e2, Bool.and_eq_true, decide_eq_true_eq] at hw
      exact ⟨i, rfl, by omega, by omega⟩
theorem argA_agg {P : Program} {t : TypeId} (e : aggT P t = true) (ds : List D) : argA P t ds = .agg (ds.map .d) := by unfold argA; rw [e]
theorem argA_one {P : Program} {t : TypeId} (e : aggT P t = false) (ds : List D) : argA P t ds = .d (ds.headD (.bool false)) := by unfold argA; rw [e]
theorem has_int1 {P : Program} {n : Nat} {t : TypeId} {k : IntKind} {ds : List D} (h : Has P n t ds) (e : intT? P t = some k) : ∃ i, ds = [.int k i] ∧ (Lit.int k i).wf = true := by
  cases n with
  | zero => exact h.elim
  | succ n => exact has_int h e
end Go.Proofs.Try

namespace Go.Proofs.Try
open Go Go.AX
set_option maxRecDepth 100000 in
theorem FnExactBornOn_true {n0 : Nat} {c0 : List D} (w0 : Has prog n0 3 c0) : Ct prog 3 [argA prog 3 c0] ⟨[], []⟩ (.d (.bool true)) ⟨[], []⟩ := by
  obtain ⟨d, rfl, zd⟩ := has_int1 w0 (k := .i64) (by kernel_rfl)
  rw [argA_one (t := 3) (by kernel_rfl)]
  exact laws_FnExactBornOn_ct (FnExactBornOn_pure )
end Go.Proofs.Try
