/- What the printed functions compute: plain data. -/
import Derived.Test.YtmihoieaiojbhaaPY2
import Derived.Lib.Strings
import Derived.Lib.Join
import Derived.Lib.ItoaLen
set_option linter.unusedVariables false
set_option linter.unusedSimpArgs false
namespace Go.Proofs.Try
open Go Go.AX

theorem wid {n : Int} (h1 : -9223372036854775808 ≤ n) (h2 : n < 9223372036854775808) : IntKind.i64.wrap n = n := wrap_in h1 h2
/-- An ordinal: its terms, exponents and coefficients. -/
inductive T where
  | nil
  | cons (e : T) (c : Int) (l : T)
namespace T
def rows : T → Rw
  | nil => []
  | cons e c l => [.sl (rows e), .int .i64 c] :: rows l
def size : T → Nat
  | nil => 0
  | cons e _ l => size e + size l + 1
def len : T → Nat
  | nil => 0
  | cons _ _ l => len l + 1
def drop : T → Nat → T
  | t, 0 => t
  | nil, _ + 1 => nil
  | cons _ _ l, n + 1 => drop l n
def app : T → T → T
  | nil, b => b
  | cons e c l, b => cons e c (app l b)
@[simp] theorem drop_zero (t : T) : drop t 0 = t := by cases t <;> rfl
@[simp] theorem drop_nil (n : Nat) : drop nil n = nil := by cases n <;> rfl
@[simp] theorem rows_len (t : T) : (rows t).length = len t := by
  induction t with
  | nil => rfl
  | cons e c l _ ih => simp [rows, len, ih]
theorem len_size (t : T) : len t ≤ size t := by
  induction t with
  | nil => simp [len]
  | cons e c l _ ih => simp [len, size]; omega
@[simp] theorem rows_app (a b : T) : rows (app a b) = rows a ++ rows b := by
  induction a with
  | nil => rfl
  | cons e c l _ ih => simp [app, rows, ih]
theorem rows_drop (t : T) (i : Nat) : rows (drop t i) = (rows t).drop i := by
  induction t generalizing i with
  | nil => cases i <;> simp [drop, rows]
  | cons e c l _ ih => cases i with
    | zero => simp [drop]
    | succ i => simp [drop, rows, ih]
theorem rowsWide (t : T) : ∀ cs ∈ rows t, cs.length = 2 := by
  induction t with
  | nil => intro cs h; cases h
  | cons e c l _ ih =>
    intro cs h
    simp only [rows, List.mem_cons] at h
    rcases h with rfl | h
    · rfl
    · exact ih cs h
theorem rowsWide_drop (t : T) (i : Nat) : ∀ cs ∈ (rows t).drop i, cs.length = 2 := fun cs h => rowsWide t cs (List.mem_of_mem_drop h)
theorem drop_len (t : T) (i : Nat) : len (drop t i) = len t - i := by rw [← rows_len, rows_drop, List.length_drop, rows_len]
theorem drop_succ {t : T} {i : Nat} {e : T} {c : Int} {l : T} (h : drop t i = cons e c l) : drop t (i + 1) = l := by
  induction t generalizing i with
  | nil => simp at h
  | cons e' c' l' _ ih =>
    cases i with
    | zero => simp only [drop, cons.injEq] at h ⊢; simp [h.2.2]
    | succ i => exact ih h
theorem drop_size {t : T} {i : Nat} : size (drop t i) ≤ size t := by
  induction t generalizing i with
  | nil => simp
  | cons e c l _ ih =>
    cases i with
    | zero => simp
    | succ i => simp only [drop, size]; have := ih (i := i); omega
theorem drop_cons_size {t : T} {i : Nat} {e : T} {c : Int} {l : T} (h : drop t i = cons e c l) : size e + size l + 1 ≤ size t := by
  have := drop_size (t := t) (i := i); rw [h] at this; exact this
theorem drop_lt {t : T} {i : Nat} {e : T} {c : Int} {l : T} (h : drop t i = cons e c l) : i < len t := by
  have := drop_len t i; rw [h] at this; simp only [len] at this; omega
theorem drop_ge {t : T} {i : Nat} (h : drop t i = nil) : len t ≤ i := by
  have := drop_len t i; rw [h] at this; simp only [len] at this; omega
theorem drop_of_ge {t : T} {i : Nat} (h : len t ≤ i) : drop t i = nil := by
  have := drop_len t i
  cases hd : drop t i with
  | nil => rfl
  | cons e c l => rw [hd] at this; simp only [len] at this; omega
theorem rows_get {t : T} {i : Nat} {e : T} {c : Int} {l : T} (h : drop t i = cons e c l) : (rows t)[i]? = some [.sl (rows e), .int .i64 c] := by
  have := rows_drop t i
  rw [h] at this
  have h2 : ((rows t).drop i)[0]? = some [.sl (rows e), .int .i64 c] := by rw [← this]; rfl
  rwa [List.getElem?_drop, Nat.add_zero] at h2
@[simp] theorem app_nil (t : T) : app t nil = t := by
  induction t with
  | nil => rfl
  | cons e c l _ ih => simp [app, ih]
theorem app_assoc (a b c : T) : app (app a b) c = app a (app b c) := by
  induction a with
  | nil => rfl
  | cons e k l _ ih => simp [app, ih]
theorem size_app (a b : T) : (app a b).size = a.size + b.size := by
  induction a with
  | nil => simp [app, size]
  | cons e c l _ ih => simp [app, size, ih]; omega
theorem len_app (a b : T) : (app a b).len = a.len + b.len := by
  induction a with
  | nil => simp [app, len]
  | cons e c l _ ih => simp [app, len, ih]; omega
theorem rows_inj : ∀ {a b : T}, rows a = rows b → a = b
  | nil, nil, _ => rfl
  | nil, cons _ _ _, h => by simp [rows] at h
  | cons _ _ _, nil, h => by simp [rows] at h
  | cons e c l, cons f d m, h => by
    simp only [rows, List.cons.injEq, D.sl.injEq, D.int.injEq, true_and, and_true] at h
    obtain ⟨⟨h1, h2⟩, h3⟩ := h
    rw [rows_inj h1, h2, rows_inj h3]
end T
open T
theorem row_rows {α : Type} {t : T} {i : Int} {n : Nat} (hi : i = n) {e : T} {c : Int} {l : T} (h : drop t n = cons e c l) (F : Rw → List D → Option α) : (if 0 ≤ i then (match (rows t)[i.toNat]? with | some cs => F (rows t) cs | none => none) else none) = F (rows t) [.sl (rows e), .int .i64 c] := by
  subst hi
  rw [if_pos (by omega), Int.toNat_natCast, rows_get h]

/-! ### the order -/
def cmpI (a b : Int) : Int := if a < b then -1 else if b < a then 1 else 0
def cmpT : T → T → Int
  | nil, nil => 0
  | nil, cons _ _ _ => -1
  | cons _ _ _, nil => 1
  | cons e c l, cons f d m => if cmpT e f = 0 then (if cmpI c d = 0 then cmpT l m else cmpI c d) else cmpT e f
theorem cmpI_refl (a : Int) : cmpI a a = 0 := by simp [cmpI]
theorem cmpI_eq {a b : Int} : cmpI a b = 0 ↔ a = b := by unfold cmpI; split <;> (try split) <;> simp <;> omega
theorem cmpI_neg (a b : Int) : cmpI b a = - cmpI a b := by unfold cmpI; split <;> split <;> (try split) <;> omega
theorem cmpT_range (a b : T) : cmpT a b = -1 ∨ cmpT a b = 0 ∨ cmpT a b = 1 := by
  induction a generalizing b with
  | nil => cases b <;> simp [cmpT]
  | cons e c l ihe ihl =>
    cases b with
    | nil => simp [cmpT]
    | cons f d m =>
      simp only [cmpT]
      split
      · split
        · exact ihl m
        · unfold cmpI; split <;> (try split) <;> simp
      · exact ihe f
theorem cmpT_refl (a : T) : cmpT a a = 0 := by
  induction a with
  | nil => rfl
  | cons e c l ihe ihl => simp [cmpT, ihe, ihl, cmpI_refl]
theorem cmpT_eq {a b : T} : cmpT a b = 0 ↔ a = b := by
  induction a generalizing b with
  | nil => cases b <;> simp [cmpT]
  | cons e c l ihe ihl =>
    cases b with
    | nil => simp [cmpT]
    | cons f d m =>
      simp only [cmpT, cons.injEq]
      constructor
      · intro h
        split at h
        · rename_i h1
          split at h
          · rename_i h2; exact ⟨ihe.1 h1, cmpI_eq.1 h2, ihl.1 h⟩
          · rename_i h2; exact absurd h h2
        · rename_i h1; exact absurd h h1
      · rintro ⟨rfl, rfl, rfl⟩
        rw [if_pos (cmpT_refl e), if_pos (cmpI_refl c)]; exact cmpT_refl l
theorem cmpT_neg (a b : T) : cmpT b a = - cmpT a b := by
  induction a generalizing b with
  | nil => cases b <;> simp [cmpT]
  | cons e c l ihe ihl =>
    cases b with
    | nil => simp [cmpT]
    | cons f d m =>
      simp only [cmpT, ihe f, ihl m, cmpI_neg c d]
      split <;> split <;> (try split) <;> (try split) <;> omega
theorem cmpI_trans {a b c : Int} (h1 : cmpI a b < 0) (h2 : cmpI b c < 0) : cmpI a c < 0 := by
  unfold cmpI at *
  split at h1 <;> (try split at h1) <;> split at h2 <;> (try split at h2) <;> split <;> (try split) <;> omega
theorem cmpT_trans {a b c : T} (h1 : cmpT a b < 0) (h2 : cmpT b c < 0) : cmpT a c < 0 := by
  induction a generalizing b c with
  | nil =>
    cases b with
    | nil => simp [cmpT] at h1
    | cons f d m => cases c with
      | nil => simp [cmpT] at h2
      | cons g k n => simp [cmpT]
  | cons e x l ihe ihl =>
    cases b with
    | nil => simp [cmpT] at h1
    | cons f y m =>
      cases c with
      | nil => simp [cmpT] at h2
      | cons g z n =>
        simp only [cmpT] at h1 h2 ⊢
        by_cases q1 : cmpT e f = 0
        · rw [if_pos q1] at h1
          obtain rfl := cmpT_eq.1 q1
          by_cases q2 : cmpT e g = 0
          · rw [if_pos q2] at h2 ⊢
            by_cases q3 : cmpI x y = 0
            · rw [if_pos q3] at h1
              obtain rfl := cmpI_eq.1 q3
              by_cases q4 : cmpI x z = 0
              · rw [if_pos q4] at h2 ⊢; exact ihl h1 h2
              · rw [if_neg q4] at h2 ⊢; exact h2
            · rw [if_neg q3] at h1
              by_cases q4 : cmpI y z = 0
              · rw [if_pos q4] at h2
                obtain rfl := cmpI_eq.1 q4
                rw [if_neg q3]; exact h1
              · rw [if_neg q4] at h2
                have := cmpI_trans h1 h2
                rw [if_neg (by omega)]; exact this
          · rw [if_neg q2] at h2 ⊢; exact h2
        · rw [if_neg q1] at h1
          by_cases q2 : cmpT f g = 0
          · obtain rfl := cmpT_eq.1 q2
            rw [if_neg q1]; exact h1
          · rw [if_neg q2] at h2
            have := ihe h1 h2
            rw [if_neg (by omega)]; exact this

/-! ### what is right -/
def nodesL : T → Nat
  | nil => 0
  | cons e _ l => 2 + nodesL e + nodesL l
def dp : T → Nat
  | nil => 0
  | cons e _ l => max (1 + dp e) (dp l)
/-- Coefficients in their range, exponents that fall; p: the exponent ahead. -/
def formA : Option T → T → Bool
  | _, nil => true
  | p, cons e c l => decide (1 ≤ c) && decide (c ≤ 1000000) && formA none e && (match p with | none => true | some q => decide (0 < cmpT q e)) && formA (some e) l
def ordP (t : T) : Bool := decide (1 + nodesL t ≤ 60) && decide (dp t ≤ 6) && formA none t
theorem nodes_size (t : T) : nodesL t = 2 * size t := by
  induction t with
  | nil => rfl
  | cons e c l ihe ihl => simp only [nodesL, size, ihe, ihl]; omega
theorem ordP_size {t : T} (h : ordP t = true) : size t ≤ 30 := by
  simp only [ordP, Bool.and_eq_true, decide_eq_true_eq] at h
  have := nodes_size t
  omega
end Go.Proofs.Try

namespace Go.Proofs.Try
open Go Go.AX
/-- A surreal number: its terms, exponents and coefficients (fractions). -/
inductive S where
  | nil
  | cons (e : S) (c c₂ : Int) (l : S)
namespace S
def rowsS : S → Rw
  | nil => []
  | cons e c c₂ l => [.sl (rowsS e), .int .i64 c, .int .i64 c₂] :: rowsS l
def sizeS : S → Nat
  | nil => 0
  | cons e _ _ l => sizeS e + sizeS l + 1
def lenS : S → Nat
  | nil => 0
  | cons _ _ _ l => lenS l + 1
def dropS : S → Nat → S
  | t, 0 => t
  | nil, _ + 1 => nil
  | cons _ _ _ l, n + 1 => dropS l n
def appS : S → S → S
  | nil, b => b
  | cons e c c₂ l, b => cons e c c₂ (appS l b)
@[simp] theorem drop_zeroS (t : S) : dropS t 0 = t := by cases t <;> rfl
@[simp] theorem drop_nilS (n : Nat) : dropS nil n = nil := by cases n <;> rfl
@[simp] theorem rowsS_len (t : S) : (rowsS t).length = lenS t := by
  induction t with
  | nil => rfl
  | cons e c c₂ l _ ih => simp [rowsS, lenS, ih]
theorem len_sizeS (t : S) : lenS t ≤ sizeS t := by
  induction t with
  | nil => simp [lenS]
  | cons e c c₂ l _ ih => simp [lenS, sizeS]; omega
@[simp] theorem rows_appS (a b : S) : rowsS (appS a b) = rowsS a ++ rowsS b := by
  induction a with
  | nil => rfl
  | cons e c c₂ l _ ih => simp [appS, rowsS, ih]
theorem rows_dropS (t : S) (i : Nat) : rowsS (dropS t i) = (rowsS t).drop i := by
  induction t generalizing i with
  | nil => cases i <;> simp [dropS, rowsS]
  | cons e c c₂ l _ ih => cases i with
    | zero => simp [dropS]
    | succ i => simp [dropS, rowsS, ih]
theorem rowsWideS (t : S) : ∀ cs ∈ rowsS t, cs.length = 3 := by
  induction t with
  | nil => intro cs h; cases h
  | cons e c c₂ l _ ih =>
    intro cs h
    simp only [rowsS, List.mem_cons] at h
    rcases h with rfl | h
    · rfl
    · exact ih cs h
theorem rowsWide_dropS (t : S) (i : Nat) : ∀ cs ∈ (rowsS t).drop i, cs.length = 3 := fun cs h => rowsWideS t cs (List.mem_of_mem_drop h)
theorem drop_lenS (t : S) (i : Nat) : lenS (dropS t i) = lenS t - i := by rw [← rowsS_len, rows_dropS, List.length_drop, rowsS_len]
theorem drop_succS {t : S} {i : Nat} {e : S} {c c₂ : Int} {l : S} (h : dropS t i = cons e c c₂ l) : dropS t (i + 1) = l := by
  induction t generalizing i with
  | nil => simp at h
  | cons e' c' c₂' l' _ ih =>
    cases i with
    | zero => simp only [dropS, cons.injEq] at h ⊢; simp [h.2.2]
    | succ i => exact ih h
theorem drop_sizeS {t : S} {i : Nat} : sizeS (dropS t i) ≤ sizeS t := by
  induction t generalizing i with
  | nil => simp
  | cons e c c₂ l _ ih =>
    cases i with
    | zero => simp
    | succ i => simp only [dropS, sizeS]; have := ih (i := i); omega
theorem drop_cons_sizeS {t : S} {i : Nat} {e : S} {c c₂ : Int} {l : S} (h : dropS t i = cons e c c₂ l) : sizeS e + sizeS l + 1 ≤ sizeS t := by
  have := drop_sizeS (t := t) (i := i); rw [h] at this; exact this
theorem drop_ltS {t : S} {i : Nat} {e : S} {c c₂ : Int} {l : S} (h : dropS t i = cons e c c₂ l) : i < lenS t := by
  have := drop_lenS t i; rw [h] at this; simp only [lenS] at this; omega
theorem drop_geS {t : S} {i : Nat} (h : dropS t i = nil) : lenS t ≤ i := by
  have := drop_lenS t i; rw [h] at this; simp only [lenS] at this; omega
theorem drop_of_geS {t : S} {i : Nat} (h : lenS t ≤ i) : dropS t i = nil := by
  have := drop_lenS t i
  cases hd : dropS t i with
  | nil => rfl
  | cons e c c₂ l => rw [hd] at this; simp only [lenS] at this; omega
theorem rows_getS {t : S} {i : Nat} {e : S} {c c₂ : Int} {l : S} (h : dropS t i = cons e c c₂ l) : (rowsS t)[i]? = some [.sl (rowsS e), .int .i64 c, .int .i64 c₂] := by
  have := rows_dropS t i
  rw [h] at this
  have h2 : ((rowsS t).drop i)[0]? = some [.sl (rowsS e), .int .i64 c, .int .i64 c₂] := by rw [← this]; rfl
  rwa [List.getElem?_drop, Nat.add_zero] at h2
@[simp] theorem app_nilS (t : S) : appS t nil = t := by
  induction t with
  | nil => rfl
  | cons e c c₂ l _ ih => simp [appS, ih]
theorem app_assocS (a b c : S) : appS (appS a b) c = appS a (appS b c) := by
  induction a with
  | nil => rfl
  | cons e k k₂ l _ ih => simp [appS, ih]
theorem size_appS (a b : S) : (appS a b).sizeS = a.sizeS + b.sizeS := by
  induction a with
  | nil => simp [appS, sizeS]
  | cons e c c₂ l _ ih => simp [appS, sizeS, ih]; omega
theorem len_appS (a b : S) : (appS a b).lenS = a.lenS + b.lenS := by
  induction a with
  | nil => simp [appS, lenS]
  | cons e c c₂ l _ ih => simp [appS, lenS, ih]; omega
theorem rows_injS : ∀ {a b : S}, rowsS a = rowsS b → a = b
  | nil, nil, _ => rfl
  | nil, cons _ _ _ _, h => by simp [rowsS] at h
  | cons _ _ _ _, nil, h => by simp [rowsS] at h
  | cons e c c₂ l, cons f d d₂ m, h => by
    simp only [rowsS, List.cons.injEq, D.sl.injEq, D.int.injEq, true_and, and_true] at h
    obtain ⟨⟨h1, h2⟩, h3⟩ := h
    rw [rows_injS h1, h2.1, h2.2, rows_injS h3]
end S
open S
@[simp] theorem cell_S {α : Type} (x : Rw) (c c₂ : Int) (K : Rw → Int → Int → Option α) : cell_sii [.sl x, .int .i64 c, .int .i64 c₂] K = K x c c₂ := rfl
theorem row_S {α : Type} {t : S} {i : Int} {n : Nat} (hi : i = n) {e : S} {c c₂ : Int} {l : S} (h : dropS t n = cons e c c₂ l) (K : Rw → Int → Int → Option α) : row_sii t.rowsS i K = K e.rowsS c c₂ := by
  subst hi
  unfold row_sii
  rw [if_pos (by omega), Int.toNat_natCast, rows_getS h]; rfl
@[simp] theorem row_S0 {α : Type} (e : S) (c c₂ : Int) (l : S) (K : Rw → Int → Int → Option α) : row_sii (cons e c c₂ l).rowsS 0 K = K e.rowsS c c₂ := row_S (n := 0) rfl rfl K
theorem lenSI (t : S) : ((t.rowsS.length : Nat) : Int) = (t.lenS : Int) := by rw [rowsS_len]
end Go.Proofs.Try

namespace Go.Proofs.Try
open Go Go.AX
theorem gcd_step (a b : Int) : Int.gcd b (a.tmod b) = Int.gcd a b := by
  show Nat.gcd b.natAbs (a.tmod b).natAbs = Nat.gcd a.natAbs b.natAbs
  rw [Int.natAbs_tmod, Nat.gcd_comm b.natAbs, ← Nat.gcd_rec, Nat.gcd_comm]
theorem halve (a b : Nat) (h : 0 < b) : b % (a % b) ≤ b / 2 ∨ a % b = 0 := by
  by_cases h0 : a % b = 0
  · exact .inr h0
  · left
    have h1 := Nat.mod_lt a h
    by_cases h2 : a % b ≤ b / 2
    · have := Nat.mod_lt b (show 0 < a % b by omega); omega
    · have h3 : b % (a % b) = b - a % b := by
        rw [Nat.mod_eq_sub_mod (by omega), Nat.mod_eq_of_lt (by omega)]
      omega
theorem igcd_loop {K : Int → Option Int} : ∀ (f n : Nat) (a b : Int), b.natAbs < 2 ^ f → 2 * f + 1 ≤ n → ∃ g : Int, impl_gcd_l0 K n a b = K g ∧ g.natAbs = Int.gcd a b
  | f, 0, _, _, _, h => absurd h (by omega)
  | 0, n + 1, a, b, hb, _ => by
    have : b = 0 := by omega
    subst this
    exact ⟨a, by simp only [impl_gcd_l0, if_true], by simp⟩
  | f + 1, n + 1, a, b, hb, hn => by
    obtain ⟨m, rfl⟩ : ∃ m, n = m + 1 := ⟨n - 1, by omega⟩
    simp only [impl_gcd_l0]
    by_cases h0 : b = 0
    · subst h0
      rw [if_pos rfl]
      exact ⟨a, rfl, by simp⟩
    · rw [if_neg h0, if_pos h0]
      by_cases h1 : a.tmod b = 0
      · rw [if_pos h1]
        exact ⟨b, rfl, by rw [← gcd_step, h1]; simp⟩
      · rw [if_neg h1, if_pos h1]
        have hh := halve a.natAbs b.natAbs (by omega)
        have hz : a.natAbs % b.natAbs ≠ 0 := by rw [← Int.natAbs_tmod]; omega
        have e1 : (b.tmod (a.tmod b)).natAbs = b.natAbs % (a.natAbs % b.natAbs) := by rw [Int.natAbs_tmod, Int.natAbs_tmod]
        have hp : 2 ^ (f + 1) = 2 * 2 ^ f := by rw [Nat.pow_succ, Nat.mul_comm]
        obtain ⟨g, e, hg⟩ := igcd_loop f m (a.tmod b) (b.tmod (a.tmod b)) (by rw [e1]; omega) (by omega)
        exact ⟨g, e, by rw [hg, gcd_step, gcd_step]⟩
theorem sgcd_loop {K : Int → Option Int} : ∀ (f n : Nat) (a b : Int), b.natAbs < 2 ^ f → 2 * f + 1 ≤ n → ∃ g : Int, spec_shGcd_l0 K n a b = K g ∧ g.natAbs = Int.gcd a b
  | f, 0, _, _, _, h => absurd h (by omega)
  | 0, n + 1, a, b, hb, _ => by
    have : b = 0 := by omega
    subst this
    exact ⟨a, by simp only [spec_shGcd_l0, if_true], by simp⟩
  | f + 1, n + 1, a, b, hb, hn => by
    obtain ⟨m, rfl⟩ : ∃ m, n = m + 1 := ⟨n - 1, by omega⟩
    simp only [spec_shGcd_l0]
    by_cases h0 : b = 0
    · subst h0
      rw [if_pos rfl]
      exact ⟨a, rfl, by simp⟩
    · rw [if_neg h0, if_pos h0]
      by_cases h1 : a.tmod b = 0
      · rw [if_pos h1]
        exact ⟨b, rfl, by rw [← gcd_step, h1]; simp⟩
      · rw [if_neg h1, if_pos h1]
        have hh := halve a.natAbs b.natAbs (by omega)
        have hz : a.natAbs % b.natAbs ≠ 0 := by rw [← Int.natAbs_tmod]; omega
        have e1 : (b.tmod (a.tmod b)).natAbs = b.natAbs % (a.natAbs % b.natAbs) := by rw [Int.natAbs_tmod, Int.natAbs_tmod]
        have hp : 2 ^ (f + 1) = 2 * 2 ^ f := by rw [Nat.pow_succ, Nat.mul_comm]
        obtain ⟨g, e, hg⟩ := sgcd_loop f m (a.tmod b) (b.tmod (a.tmod b)) (by rw [e1]; omega) (by omega)
        exact ⟨g, e, by rw [hg, gcd_step, gcd_step]⟩
theorem gcd_le (a b : Int) : Int.gcd a b ≤ max a.natAbs b.natAbs := by
  show Nat.gcd a.natAbs b.natAbs ≤ _
  by_cases h : a.natAbs = 0
  · rw [h, Nat.gcd_zero_left]; omega
  · have := Nat.gcd_le_left b.natAbs (show 0 < a.natAbs by omega); omega
theorem lt64 {b : Int} (hb : -4000000000000000000 ≤ b ∧ b ≤ 4000000000000000000) : b.natAbs < 2 ^ 64 := by
  have : (2 : Nat) ^ 64 = 18446744073709551616 := by decide
  omega
theorem dvd_cop {d n g : Int} (h : Int.gcd n d = 1) (hd : d ∣ n * g) : d ∣ g := by
  have h1 : d.natAbs ∣ n.natAbs * g.natAbs := by rw [← Int.natAbs_mul]; exact Int.natAbs_dvd_natAbs.2 hd
  have h2 : Nat.Coprime d.natAbs n.natAbs := by
    show Nat.gcd d.natAbs n.natAbs = 1
    rw [Nat.gcd_comm]; exact h
  exact Int.natAbs_dvd_natAbs.1 (h2.dvd_of_dvd_mul_left h1)
theorem igcd_eq {k : Nat} {a b : Int} (hk : 200 < k) (ha : -4000000000000000000 ≤ a ∧ a ≤ 4000000000000000000) (hb : -4000000000000000000 ≤ b ∧ b ≤ 4000000000000000000) : impl_gcd k a b = some (Int.gcd a b : Int) := by
  unfold impl_gcd
  obtain ⟨g, e, hg⟩ := igcd_loop (K := fun v9 => (impl_size v9).bind fun y14 => some y14) 64 k a b (lt64 hb) (by omega)
  have hl := gcd_le a b
  rw [e]
  unfold impl_size
  rw [Option.bind_some, wid (by omega) (by omega)]
  congr 1
  split <;> omega
theorem sgcd_eq {k : Nat} {a b : Int} (hk : 200 < k) (ha : -4000000000000000000 ≤ a ∧ a ≤ 4000000000000000000) (hb : -4000000000000000000 ≤ b ∧ b ≤ 4000000000000000000) : spec_shGcd k a b = some (Int.gcd a b : Int) := by
  unfold spec_shGcd
  obtain ⟨g, e, hg⟩ := sgcd_loop (K := fun v9 => (spec_l1Abs v9).bind fun y14 => some y14) 64 k a b (lt64 hb) (by omega)
  have hl := gcd_le a b
  rw [e]
  unfold spec_l1Abs spec_l1Most
  rw [wid (by omega) (by omega)]
  split
  · simp only [Option.bind_some]; congr 1; omega
  · simp only [Option.bind_some]; congr 1; omega
/-- A fraction that is right. -/
def frP (n d : Int) : Bool := (decide (1 ≤ d) && decide (d ≤ 1000000)) && ((decide (-1000000 ≤ n) && decide (n ≤ 1000000)) && decide (Int.gcd n d = 1))
theorem iIn_eq (n a b : Int) : impl_in n a b = some (decide (a ≤ n) && decide (n ≤ b)) := by
  unfold impl_in
  by_cases h1 : a ≤ n <;> by_cases h2 : n ≤ b <;> simp [h1, h2]
theorem sIn_eq (n a b : Int) : spec_l1In n a b = some (decide (a ≤ n) && decide (n ≤ b)) := by
  unfold spec_l1In
  by_cases h1 : a ≤ n <;> by_cases h2 : n ≤ b <;> simp [h1, h2]
theorem IsFraction_eq {k : Nat} (hk : 200 < k) (n d : Int) : impl_IsFraction k n d = some (frP n d) := by
  unfold impl_IsFraction frP
  rw [iIn_eq, iIn_eq]
  simp only [Option.bind_some]
  cases h1 : (decide (1 ≤ d) && decide (d ≤ 1000000)) with
  | false => simp
  | true =>
    cases h2 : (decide (-1000000 ≤ n) && decide (n ≤ 1000000)) with
    | false => simp
    | true =>
      simp only [Bool.and_eq_true, decide_eq_true_eq] at h1 h2
      rw [if_pos rfl, if_pos rfl, igcd_eq hk (by omega) (by omega), Option.bind_some]
      by_cases h3 : Int.gcd n d = 1
      · rw [if_pos (by omega), h3]; rfl
      · rw [if_neg (by omega)]; simp [h3]
theorem shGood_eq {k : Nat} (hk : 200 < k) (n d : Int) : spec_shGood k n d = some (frP n d) := by
  unfold spec_shGood frP
  rw [sIn_eq, sIn_eq]
  simp only [Option.bind_some]
  cases h1 : (decide (1 ≤ d) && decide (d ≤ 1000000)) with
  | false => simp
  | true =>
    cases h2 : (decide (-1000000 ≤ n) && decide (n ≤ 1000000)) with
    | false => simp
    | true =>
      simp only [Bool.and_eq_true, decide_eq_true_eq] at h1 h2
      rw [if_pos rfl, if_pos rfl, sgcd_eq hk (by omega) (by omega), Option.bind_some]
      by_cases h3 : Int.gcd n d = 1
      · rw [if_pos (by omega), h3]; rfl
      · rw [if_neg (by omega)]; simp [h3]
theorem frP_in {n d : Int} (h : frP n d = true) : (1 ≤ d ∧ d ≤ 1000000) ∧ (-1000000 ≤ n ∧ n ≤ 1000000) ∧ Int.gcd n d = 1 := by
  simp only [frP, Bool.and_eq_true, decide_eq_true_eq] at h
  exact h
/-! ### their order -/
def cmpF (n d m g : Int) : Int := cmpI (n * g) (m * d)
theorem prod_in {a b B C : Int} (ha : -B ≤ a ∧ a ≤ B) (hb : 0 ≤ b ∧ b ≤ C) : -(B * C) ≤ a * b ∧ a * b ≤ B * C := by
  have hB : 0 ≤ B := by omega
  have h1 : a * b ≤ B * b := Int.mul_le_mul_of_nonneg_right ha.2 hb.1
  have h2 : B * b ≤ B * C := Int.mul_le_mul_of_nonneg_left hb.2 hB
  have h3 : -B * b ≤ a * b := Int.mul_le_mul_of_nonneg_right ha.1 hb.1
  rw [Int.neg_mul] at h3
  omega
theorem cmp_inB {n d m g : Int} (h1 : frP n d = true) (h2 : frP m g = true) : (-1000000000000 ≤ n * g ∧ n * g ≤ 1000000000000) ∧ (-1000000000000 ≤ m * d ∧ m * d ≤ 1000000000000) := by
  obtain ⟨a1, a2, _⟩ := frP_in h1
  obtain ⟨b1, b2, _⟩ := frP_in h2
  have q1 := prod_in (B := 1000000) (C := 1000000) a2 ⟨by omega, b1.2⟩
  have q2 := prod_in (B := 1000000) (C := 1000000) b2 ⟨by omega, a1.2⟩
  omega
theorem icompare_eq (a b : Int) : impl_compare a b = some (cmpI a b) := by unfold impl_compare cmpI; split <;> (try split) <;> rfl
theorem cmpFractions_eq {n d m g : Int} (h1 : frP n d = true) (h2 : frP m g = true) : impl_cmpFractions n d m g = some (cmpF n d m g) := by
  have := cmp_inB h1 h2
  unfold impl_cmpFractions cmpF
  rw [wid (by omega) (by omega), wid (by omega) (by omega), icompare_eq]; rfl
theorem l1Sign_eq (a : Int) : spec_l1Sign a = some (cmpI a 0) := by unfold spec_l1Sign cmpI; split <;> (try split) <;> (try split) <;> first | rfl | (exfalso; omega)
theorem cmpI_sub (a b : Int) : cmpI (a - b) 0 = cmpI a b := by
  unfold cmpI
  by_cases h1 : a < b
  · rw [if_pos (by omega), if_pos h1]
  · rw [if_neg (by omega), if_neg h1]
    by_cases h2 : b < a
    · rw [if_pos (by omega), if_pos h2]
    · rw [if_neg (by omega), if_neg h2]
theorem shCmp_eq {n d m g : Int} (h1 : frP n d = true) (h2 : frP m g = true) : spec_shCmp n d m g = some (cmpF n d m g) := by
  have := cmp_inB h1 h2
  unfold spec_shCmp cmpF
  rw [wid (n := n * g) (by omega) (by omega), wid (n := m * d) (by omega) (by omega), wid (by omega) (by omega), l1Sign_eq, cmpI_sub]; rfl
theorem cmpF_eq {n d m g : Int} (h1 : frP n d = true) (h2 : frP m g = true) : cmpF n d m g = 0 ↔ n = m ∧ d = g := by
  obtain ⟨a1, a2, a3⟩ := frP_in h1
  obtain ⟨b1, b2, b3⟩ := frP_in h2
  unfold cmpF
  rw [cmpI_eq]
  constructor
  · intro h
    have d1 : d ∣ g := by
      have : d ∣ n * g := ⟨m, by rw [h, Int.mul_comm]⟩
      exact dvd_cop a3 this
    have d2 : g ∣ d := by
      have : g ∣ m * d := ⟨n, by rw [← h, Int.mul_comm]⟩
      exact dvd_cop b3 this
    have e1 := Int.le_of_dvd (by omega) d1
    have e2 := Int.le_of_dvd (by omega) d2
    have e : d = g := by omega
    subst e
    exact ⟨Int.eq_of_mul_eq_mul_right (by omega) h, rfl⟩
  · rintro ⟨rfl, rfl⟩; rfl
theorem cmpF_neg (n d m g : Int) : cmpF m g n d = - cmpF n d m g := cmpI_neg _ _
end Go.Proofs.Try

namespace Go.Proofs.Try
open Go Go.AX
/-- A fraction in lowest terms. -/
def mkF (n d : Int) : Int × Int := (n.tdiv (Int.gcd n d : Int), d.tdiv (Int.gcd n d : Int))
def addF (n d m g : Int) : Int × Int := mkF (n * g + m * d) (d * g)
def mulF (n d m g : Int) : Int × Int := mkF (n * m) (d * g)
theorem tdiv_in {a b : Int} (h : -4000000000000000000 ≤ a ∧ a ≤ 4000000000000000000) : -4000000000000000000 ≤ a.tdiv b ∧ a.tdiv b ≤ 4000000000000000000 := by
  have h1 : (a.tdiv b).natAbs = a.natAbs / b.natAbs := Int.natAbs_tdiv a b
  have h2 := Nat.div_le_self a.natAbs b.natAbs
  omega
theorem wtdiv {a b : Int} (h : -4000000000000000000 ≤ a ∧ a ≤ 4000000000000000000) : IntKind.i64.wrap (a.tdiv b) = a.tdiv b := by
  have := tdiv_in (b := b) h
  exact wid (by omega) (by omega)
theorem gcd_ne {n d : Int} (hd : 0 < d) : (Int.gcd n d : Int) ≠ 0 := by
  have : Int.gcd n d ≠ 0 := by
    rw [Ne, Int.gcd_eq_zero_iff]; omega
  omega
theorem made_eq {k : Nat} {n d : Int} (hk : 200 < k) (hd : 0 < d) (hn : -4000000000000000000 ≤ n ∧ n ≤ 4000000000000000000) (hd2 : d ≤ 4000000000000000000) :
    impl_made k n d = some (if frP (mkF n d).1 (mkF n d).2 = true then ((mkF n d).1, (mkF n d).2, true) else (0, 0, false)) := by
  have hg := gcd_ne (n := n) hd
  unfold impl_made
  rw [if_neg (by omega), igcd_eq hk hn (by omega), Option.bind_some, if_neg (by omega), if_pos hg, wtdiv hn, wtdiv (a := d) (by omega), IsFraction_eq hk, Option.bind_some]
  change (if frP (mkF n d).1 (mkF n d).2 = true then some ((mkF n d).1, (mkF n d).2, true) else some (0, 0, false)) = _
  by_cases h : frP (mkF n d).1 (mkF n d).2 = true
  · rw [if_pos h, if_pos h]
  · rw [if_neg h, if_neg h]
theorem shMake_eq {k : Nat} {n d : Int} (hk : 200 < k) (hd : 0 < d) (hn : -4000000000000000000 ≤ n ∧ n ≤ 4000000000000000000) (hd2 : d ≤ 4000000000000000000) :
    spec_shMake k n d = some (mkF n d) := by
  have hg := gcd_ne (n := n) hd
  unfold spec_shMake
  rw [sgcd_eq hk hn (by omega), Option.bind_some, if_neg (by omega), if_pos hg, wtdiv hn, wtdiv (a := d) (by omega)]
  rfl
theorem add_in {n d m g : Int} (h1 : frP n d = true) (h2 : frP m g = true) : IntKind.i64.wrap (IntKind.i64.wrap (n * g) + IntKind.i64.wrap (m * d)) = n * g + m * d ∧ IntKind.i64.wrap (d * g) = d * g ∧ (-4000000000000000000 ≤ n * g + m * d ∧ n * g + m * d ≤ 4000000000000000000) ∧ 0 < d * g ∧ d * g ≤ 4000000000000000000 := by
  have hb := cmp_inB h1 h2
  obtain ⟨a1, _, _⟩ := frP_in h1
  obtain ⟨b1, _, _⟩ := frP_in h2
  have hp := prod_in (B := 1000000) (C := 1000000) (show -1000000 ≤ d ∧ d ≤ 1000000 by omega) (show 0 ≤ g ∧ g ≤ 1000000 by omega)
  have hq := Int.mul_pos (show 0 < d by omega) (show 0 < g by omega)
  rw [wid (n := n * g) (by omega) (by omega), wid (n := m * d) (by omega) (by omega)]
  exact ⟨wid (by omega) (by omega), wid (by omega) (by omega), by omega, hq, by omega⟩
theorem mul_in2 {n d m g : Int} (h1 : frP n d = true) (h2 : frP m g = true) : IntKind.i64.wrap (n * m) = n * m ∧ IntKind.i64.wrap (d * g) = d * g ∧ (-4000000000000000000 ≤ n * m ∧ n * m ≤ 4000000000000000000) ∧ 0 < d * g ∧ d * g ≤ 4000000000000000000 := by
  obtain ⟨a1, a2, _⟩ := frP_in h1
  obtain ⟨b1, b2, _⟩ := frP_in h2
  have hp := prod_in (B := 1000000) (C := 1000000) (show -1000000 ≤ d ∧ d ≤ 1000000 by omega) (show 0 ≤ g ∧ g ≤ 1000000 by omega)
  have hq := Int.mul_pos (show 0 < d by omega) (show 0 < g by omega)
  have hr : -1000000000000 ≤ n * m ∧ n * m ≤ 1000000000000 := by
    rcases Int.lt_or_le m 0 with x | x
    · have := prod_in (B := 1000000) (C := 1000000) a2 (show 0 ≤ -m ∧ -m ≤ 1000000 by omega)
      rw [Int.mul_neg] at this; omega
    · have := prod_in (B := 1000000) (C := 1000000) a2 (show 0 ≤ m ∧ m ≤ 1000000 by omega)
      omega
  exact ⟨wid (by omega) (by omega), wid (by omega) (by omega), by omega, hq, by omega⟩
/-- A fraction that is told, or none. -/
def resF (p : Int × Int) : Int × Int × Bool := if frP p.1 p.2 = true then (p.1, p.2, true) else (0, 0, false)
theorem AddFractions_eq {k : Nat} {n d m g : Int} (hk : 200 < k) (h1 : frP n d = true) (h2 : frP m g = true) : impl_AddFractions k n d m g = some (resF (addF n d m g)) := by
  obtain ⟨q1, q2, q3, q4, q5⟩ := add_in h1 h2
  unfold impl_AddFractions impl_two__AddFractions_1 impl_AddFractions_1
  rw [IsFraction_eq hk, IsFraction_eq hk, h1, h2, q1, q2]
  simp only [Option.bind_some, if_true]
  rw [made_eq hk q4 q3 q5]
  unfold resF addF
  simp only [Option.bind_some]
  by_cases h : frP (mkF (n * g + m * d) (d * g)).1 (mkF (n * g + m * d) (d * g)).2 = true
  · rw [if_pos h]; rfl
  · rw [if_neg h]; rfl
theorem shAdd_eq {k : Nat} {n d m g : Int} (hk : 200 < k) (h1 : frP n d = true) (h2 : frP m g = true) : spec_shAdd k n d m g = some (addF n d m g) := by
  obtain ⟨q1, q2, q3, q4, q5⟩ := add_in h1 h2
  unfold spec_shAdd
  rw [q1, q2, shMake_eq hk q4 q3 q5]; rfl
theorem MultiplyFractions_eq {k : Nat} {n d m g : Int} (hk : 200 < k) (h1 : frP n d = true) (h2 : frP m g = true) : impl_MultiplyFractions k n d m g = some (resF (mulF n d m g)) := by
  obtain ⟨q1, q2, q3, q4, q5⟩ := mul_in2 h1 h2
  unfold impl_MultiplyFractions impl_two__MultiplyFractions_1 impl_MultiplyFractions_1
  rw [IsFraction_eq hk, IsFraction_eq hk, h1, h2, q1, q2]
  simp only [Option.bind_some, if_true]
  rw [made_eq hk q4 q3 q5]
  unfold resF mulF
  simp only [Option.bind_some]
  by_cases h : frP (mkF (n * m) (d * g)).1 (mkF (n * m) (d * g)).2 = true
  · rw [if_pos h]; rfl
  · rw [if_neg h]; rfl
theorem shMul_eq {k : Nat} {n d m g : Int} (hk : 200 < k) (h1 : frP n d = true) (h2 : frP m g = true) : spec_shMul k n d m g = some (mulF n d m g) := by
  obtain ⟨q1, q2, q3, q4, q5⟩ := mul_in2 h1 h2
  unfold spec_shMul
  rw [q1, q2, shMake_eq hk q4 q3 q5]; rfl
end Go.Proofs.Try

namespace Go.Proofs.Try
open Go Go.AX S
def sg (n : Int) : Int := cmpI n 0
def cmpS : S → S → Int
  | nil, nil => 0
  | nil, cons _ m _ _ => - sg m
  | cons _ n _ _, nil => sg n
  | cons e n d l, cons f m g r => if cmpS e f = 1 then sg n else if cmpS e f = -1 then - sg m else if cmpF n d m g = 0 then cmpS l r else cmpF n d m g
/-- Fractions that are right, and not 0. -/
def gdS : S → Prop
  | nil => True
  | cons e n d l => gdS e ∧ (frP n d = true ∧ n ≠ 0) ∧ gdS l
theorem gd_drop {t : S} (h : gdS t) : ∀ {i : Nat}, gdS (dropS t i) := by
  induction t with
  | nil => intro i; simp [gdS]
  | cons e n d l _ ih => intro i; cases i with
    | zero => simpa using h
    | succ i => exact ih h.2.2
theorem cmpI_range (a b : Int) : cmpI a b = -1 ∨ cmpI a b = 0 ∨ cmpI a b = 1 := by unfold cmpI; split <;> (try split) <;> simp
theorem sg_range (n : Int) : sg n = -1 ∨ sg n = 0 ∨ sg n = 1 := cmpI_range n 0
theorem cmpS_range (a b : S) : cmpS a b = -1 ∨ cmpS a b = 0 ∨ cmpS a b = 1 := by
  induction a generalizing b with
  | nil =>
    cases b with
    | nil => simp [cmpS]
    | cons f m g r => have := sg_range m; simp only [cmpS]; omega
  | cons e n d l ihe ihl =>
    cases b with
    | nil => exact sg_range n
    | cons f m g r =>
      have h1 := sg_range n
      have h2 := sg_range m
      simp only [cmpS]
      split
      · exact h1
      · split
        · omega
        · split
          · exact ihl r
          · exact cmpI_range _ _
theorem cmpS_neg (a b : S) : cmpS b a = - cmpS a b := by
  induction a generalizing b with
  | nil => cases b <;> simp [cmpS]
  | cons e n d l ihe ihl =>
    cases b with
    | nil => simp [cmpS]
    | cons f m g r =>
      simp only [cmpS, ihe f, ihl r, cmpF_neg n d m g]
      have := cmpS_range e f
      split <;> split <;> (try split) <;> (try split) <;> (try split) <;> omega
theorem cmpS_refl (a : S) : cmpS a a = 0 := by have := cmpS_neg a a; omega
theorem sg_nz {n : Int} (h : n ≠ 0) : sg n ≠ 0 := by unfold sg cmpI; split <;> (try split) <;> omega
theorem cmpS_eq : ∀ {a b : S}, gdS a → gdS b → (cmpS a b = 0 ↔ a = b)
  | nil, nil, _, _ => by simp [cmpS]
  | nil, cons f m g r, _, gb => by
    have := sg_nz gb.2.1.2
    simp only [cmpS, reduceCtorEq, iff_false]; omega
  | cons e n d l, nil, ga, _ => by
    have := sg_nz ga.2.1.2
    simp only [cmpS, reduceCtorEq, iff_false]; omega
  | cons e n d l, cons f m g r, ga, gb => by
    have i1 := cmpS_eq ga.1 gb.1
    have i2 := cmpS_eq ga.2.2 gb.2.2
    have i3 := cmpF_eq ga.2.1.1 gb.2.1.1
    have h1 := sg_nz ga.2.1.2
    have h2 := sg_nz gb.2.1.2
    have hr := cmpS_range e f
    simp only [cmpS, S.cons.injEq]
    constructor
    · intro h
      split at h
      · omega
      · split at h
        · omega
        · split at h
          · rename_i q1 q2 q3
            obtain ⟨z1, z2⟩ := i3.1 q3
            exact ⟨i1.1 (by omega), z1, z2, i2.1 h⟩
          · rename_i q; exact absurd h q
    · rintro ⟨z1, z2, z3, z4⟩
      have y1 := i1.2 z1
      rw [if_neg (by omega), if_neg (by omega), if_pos (i3.2 ⟨z2, z3⟩)]
      exact i2.2 z4
theorem cmpF_lt {n d m g : Int} : cmpF n d m g = 1 ↔ m * d < n * g := by
  unfold cmpF cmpI
  split
  · omega
  · split <;> simp <;> omega
theorem cmpF_trans {n d m g u v : Int} (hd : 0 < d) (hg : 0 < g) (hv : 0 < v) (h1 : cmpF n d m g = 1) (h2 : cmpF m g u v = 1) : cmpF n d u v = 1 := by
  rw [cmpF_lt] at *
  have q1 : m * d * v < n * g * v := Int.mul_lt_mul_of_pos_right h1 hv
  have q2 : u * g * d < m * v * d := Int.mul_lt_mul_of_pos_right h2 hd
  have e1 : m * d * v = m * v * d := by rw [Int.mul_assoc, Int.mul_comm d v, ← Int.mul_assoc]
  have e2 : u * g * d = u * d * g := by rw [Int.mul_assoc, Int.mul_comm g d, ← Int.mul_assoc]
  have e3 : n * g * v = n * v * g := by rw [Int.mul_assoc, Int.mul_comm g v, ← Int.mul_assoc]
  have q3 : u * d * g < n * v * g := by omega
  exact Int.lt_of_mul_lt_mul_right q3 (by omega)
theorem sg_one {n : Int} : sg n = 1 ↔ 0 < n := by unfold sg cmpI; split <;> (try split) <;> omega
theorem sg_neg {n : Int} : sg n = -1 ↔ n < 0 := by unfold sg cmpI; split <;> (try split) <;> omega
/-- Signs and fractions. -/
theorem cmpF_sign {n d m g : Int} (hd : 0 < d) (hg : 0 < g) (hn : 0 < n) (hm : m < 0) : cmpF n d m g = 1 := by
  rw [cmpF_lt]
  have := Int.mul_pos hn hg
  have := Int.mul_neg_of_neg_of_pos hm hd
  omega
theorem cmpF_pos {n d m g : Int} (hd : 0 < d) (hg : 0 < g) (h : cmpF n d m g = 1) (hm : 0 < m) : 0 < n := by
  rw [cmpF_lt] at h
  have h1 := Int.mul_pos hm hd
  rcases Int.lt_or_le 0 n with x | x
  · exact x
  · have := Int.mul_nonpos_of_nonpos_of_nonneg x (show 0 ≤ g by omega); omega
theorem cmpF_ng {n d m g : Int} (hd : 0 < d) (hg : 0 < g) (h : cmpF n d m g = 1) (hn : n < 0) : m < 0 := by
  rw [cmpF_lt] at h
  have h1 := Int.mul_neg_of_neg_of_pos hn hg
  rcases Int.lt_or_le m 0 with x | x
  · exact x
  · have := Int.mul_nonneg x (show 0 ≤ d by omega); omega
theorem order_loop {rec_ : Rw → Rw → Option Int} {a b : S} (ga : gdS a) (gb : gdS b) (hc : a.sizeS ≤ cap) (hr : ∀ e f : S, e.sizeS < a.sizeS → gdS e → gdS f → rec_ e.rowsS f.rowsS = some (cmpS e f)) :
    ∀ (t : S) (i n : Nat), dropS a i = t → i ≤ a.lenS → i ≤ b.lenS → t.lenS + 1 ≤ n → impl_order_l0 rec_ a.rowsS b.rowsS (some 0) n i = some (cmpS t (dropS b i))
  | _, _, 0, _, _, _, h => absurd h (by omega)
  | nil, i, n + 1, hd, hi, hj, hn => by
    have h1 := drop_geS hd
    simp only [impl_order_l0]
    rw [if_neg (by rw [lenSI]; omega)]
    cases hb : dropS b i with
    | nil =>
      have h2 := drop_geS hb
      rw [if_neg (by rw [lenSI]; omega)]; rfl
    | cons f m g r =>
      have h2 := drop_ltS hb
      have := sg_range m
      rw [if_pos (by rw [lenSI]; omega), if_pos (by rw [lenSI]; omega), row_S rfl hb, icompare_eq, Option.bind_some, show cmpI m 0 = sg m from rfl, wid (by omega) (by omega)]
      simp only [cmpS]; congr 1; omega
  | cons e x d l, i, n + 1, hd, hi, hj, hn => by
    have h1 := drop_ltS hd
    have hs := drop_cons_sizeS hd
    have hl := a.len_sizeS
    have h3 : cap = 1099511627776 := rfl
    have g1 := gd_drop ga (i := i)
    rw [hd] at g1
    simp only [lenS] at hn
    simp only [impl_order_l0]
    rw [if_pos (by rw [lenSI]; omega), if_neg (by rw [lenSI]; omega)]
    cases hb : dropS b i with
    | nil =>
      have h2 := drop_geS hb
      rw [if_pos (by rw [lenSI]; omega), row_S rfl hd, icompare_eq]; rfl
    | cons f m g r =>
      have h2 := drop_ltS hb
      have g2 := gd_drop gb (i := i)
      rw [hb] at g2
      have := sg_range m
      rw [if_neg (by rw [lenSI]; omega), row_S rfl hd, row_S rfl hb, hr e f (by omega) g1.1 g2.1, Option.bind_some, icompare_eq, icompare_eq, cmpFractions_eq g1.2.1.1 g2.2.1.1]
      simp only [Option.bind_some, cmpS]
      by_cases q1 : cmpS e f = 1
      · rw [if_pos q1, if_pos q1]; rfl
      · rw [if_neg q1, if_neg q1]
        by_cases q2 : cmpS e f = -1
        · rw [if_pos q2, if_pos q2, show cmpI m 0 = sg m from rfl, wid (by omega) (by omega)]; congr 1; omega
        · rw [if_neg q2, if_neg q2]
          by_cases q3 : cmpF x d m g = 0
          · rw [if_pos q3, if_pos q3, wid (by omega) (by omega)]
            have := order_loop ga gb hc hr l (i + 1) n (drop_succS hd) (by omega) (by omega) (by omega)
            rw [drop_succS hb] at this
            exact this
          · rw [if_neg q3, if_neg q3]
theorem order_eq : ∀ (k : Nat) (a b : S), a.sizeS + 1 < k → a.sizeS ≤ cap → gdS a → gdS b → impl_order k a.rowsS b.rowsS = some (cmpS a b)
  | 0, _, _, h, _, _, _ => absurd h (Nat.not_lt_zero _)
  | k + 1, a, b, h, hc, ga, gb => by
    have hl := a.len_sizeS
    simp only [impl_order, impl_order_b, impl_order_p2]
    have := order_loop (rec_ := impl_order k) ga gb hc (fun e f he ge gf => order_eq k e f (by omega) (by omega) ge gf) a 0 k (drop_zeroS a) (by omega) (by omega) (by omega)
    rw [drop_zeroS] at this
    exact this
theorem suCmp_loop {rec_ : Rw → Rw → Option Int} {a b : S} (ga : gdS a) (gb : gdS b) (hc : a.sizeS ≤ cap) (hr : ∀ e f : S, e.sizeS < a.sizeS → gdS e → gdS f → rec_ e.rowsS f.rowsS = some (cmpS e f)) :
    ∀ (t : S) (i : Nat), dropS a i = t → i ≤ a.lenS → i ≤ b.lenS → spec_suCmp_l0 rec_ a.rowsS b.rowsS (spec_suCmp_p2 a.rowsS b.rowsS) t.rowsS i = some (cmpS t (dropS b i))
  | nil, i, hd, hi, hj => by
    have h1 := drop_geS hd
    have hia : a.lenS = i := by omega
    simp only [rowsS, spec_suCmp_l0]
    unfold spec_suCmp_p2 spec_suCmp_p3
    rw [if_pos ⟨by rw [lenSI]; omega, by rw [lenSI, lenSI]; omega, rowsWideS b⟩, lenSI, Int.toNat_natCast, hia, ← rows_dropS]
    cases hb : dropS b i with
    | nil => rfl
    | cons f m g r =>
      have := sg_range m
      unfold spec_suSign
      rw [if_neg (by rw [lenSI]; simp only [lenS]; omega), row_S0, l1Sign_eq]
      simp only [Option.bind_some, cmpS]
      rw [show cmpI m 0 = sg m from rfl, wid (by omega) (by omega)]; congr 1; omega
  | cons e x d l, i, hd, hi, hj => by
    have h1 := drop_ltS hd
    have hs := drop_cons_sizeS hd
    have g1 := gd_drop ga (i := i)
    rw [hd] at g1
    simp only [rowsS, spec_suCmp_l0, cell_S]
    cases hb : dropS b i with
    | nil =>
      have h2 := drop_geS hb
      rw [if_pos (by rw [lenSI]; omega), l1Sign_eq]; rfl
    | cons f m g r =>
      have h2 := drop_ltS hb
      have g2 := gd_drop gb (i := i)
      rw [hb] at g2
      have := sg_range m
      have hrng := cmpS_range e f
      have hF := cmpF_eq g1.2.1.1 g2.2.1.1
      rw [if_neg (by rw [lenSI]; omega), row_S rfl hb, hr e f (by omega) g1.1 g2.1, Option.bind_some, l1Sign_eq, l1Sign_eq, shCmp_eq g1.2.1.1 g2.2.1.1]
      simp only [Option.bind_some, cmpS]
      by_cases q1 : cmpS e f = 1
      · rw [if_pos (by omega), if_pos q1]; rfl
      · rw [if_neg (by omega), if_neg q1]
        by_cases q2 : cmpS e f = -1
        · rw [if_pos (by omega), if_pos q2, show cmpI m 0 = sg m from rfl, wid (by omega) (by omega)]; congr 1; omega
        · rw [if_neg (by omega), if_neg q2]
          by_cases q3 : cmpF x d m g = 0
          · obtain ⟨z1, z2⟩ := hF.1 q3
            rw [if_pos q3, if_neg (by simp [z1, z2])]
            have := suCmp_loop ga gb hc hr l (i + 1) (drop_succS hd) (by omega) (by omega)
            rw [drop_succS hb] at this
            exact this
          · have : ¬ (x = m ∧ d = g) := fun z => q3 (hF.2 z)
            rw [if_neg q3, if_pos (by simp only [Bool.and_true, Bool.not_eq_true', Bool.and_eq_false_iff, decide_eq_false_iff_not]; exact Decidable.not_and_iff_or_not.1 this)]
theorem suCmp_eq : ∀ (k : Nat) (a b : S), a.sizeS < k → a.sizeS ≤ cap → gdS a → gdS b → spec_suCmp k a.rowsS b.rowsS = some (cmpS a b)
  | 0, _, _, h, _, _, _ => absurd h (Nat.not_lt_zero _)
  | k + 1, a, b, h, hc, ga, gb => by
    have hl := a.len_sizeS
    simp only [spec_suCmp, spec_suCmp_b]
    rw [if_pos (by rw [rowsS_len]; omega)]
    have := suCmp_loop (rec_ := spec_suCmp k) ga gb hc (fun e f he ge gf => suCmp_eq k e f (by omega) (by omega) ge gf) a 0 (drop_zeroS a) (by omega) (by omega)
    rw [drop_zeroS] at this
    exact this
end Go.Proofs.Try

namespace Go.Proofs.Try
open Go Go.AX S
theorem two_if {α : Type} {p : Bool} {c : Int} {X F : α} : (if p = true then (if c = 0 then F else X) else F) = if (p && decide (c ≠ 0)) = true then X else F := by
  cases p <;> by_cases h : c = 0 <;> simp [h]
/-! ### what is right -/
def nodesS : S → Nat
  | nil => 0
  | cons e _ _ l => 2 + nodesS e + nodesS l
def dpS : S → Nat
  | nil => 0
  | cons e _ _ l => max (1 + dpS e) (dpS l)
/-- Coefficients in their range, exponents that fall; p: the exponent aheadS. -/
def formS : Option S → S → Bool
  | _, nil => true
  | p, cons e c c₂ l => frP c c₂ && decide (c ≠ 0) && formS none e && (match p with | none => true | some q => decide (0 < cmpS q e)) && formS (some e) l
def surP (t : S) : Bool := decide (1 + nodesS t ≤ 60) && decide (dpS t ≤ 6) && formS none t
theorem nodesS_size (t : S) : nodesS t = 2 * sizeS t := by
  induction t with
  | nil => rfl
  | cons e c c₂ l ihe ihl => simp only [nodesS, sizeS, ihe, ihl]; omega
theorem surP_size {t : S} (h : surP t = true) : sizeS t ≤ 30 := by
  simp only [surP, Bool.and_eq_true, decide_eq_true_eq] at h
  have := nodesS_size t
  omega
theorem sform_gd {p : Option S} {t : S} (h : formS p t = true) : gdS t := by
  induction t generalizing p with
  | nil => trivial
  | cons e c c₂ l ihe ihl =>
    simp only [formS, Bool.and_eq_true] at h
    exact ⟨ihe h.1.1.2, ⟨h.1.1.1.1, by have := h.1.1.1.2; simpa using this⟩, ihl h.2⟩
/-- The exponent of the term aheadS of the i-th. -/
def aheadS (t : S) : Nat → Option S
  | 0 => none
  | i + 1 => match dropS t i with
    | cons e _ _ _ => some e
    | nil => none
theorem aheadS_succ {t : S} {i : Nat} {e : S} {c c₂ : Int} {l : S} (h : dropS t i = cons e c c₂ l) : aheadS t (i + 1) = some e := by simp [aheadS, h]
theorem aheadS_some {t : S} {i : Nat} (h0 : 0 < i) (h : i ≤ t.lenS) : ∃ q c c₂ l, dropS t (i - 1) = cons q c c₂ l ∧ aheadS t i = some q := by
  obtain ⟨j, rfl⟩ : ∃ j, i = j + 1 := ⟨i - 1, by omega⟩
  cases hq : dropS t j with
  | nil => have := drop_geS hq; omega
  | cons q c c₂ l => exact ⟨q, c, c₂, l, hq, aheadS_succ hq⟩
theorem dpS_drop {t : S} : ∀ {i : Nat}, dpS (dropS t i) ≤ dpS t := by
  induction t with
  | nil => intro i; simp
  | cons e c c₂ l _ ih => intro i; cases i with
    | zero => simp
    | succ i => have := ih (i := i); simp only [dropS, dpS]; omega
/-- What a check of a tree tells. -/
def TellsS (r : Bool × Int) (n : Int) (ok : Prop) (m : Int) : Prop := (r.1 = true ↔ ok) ∧ (r.1 = true → r.2 = m) ∧ 0 ≤ r.2 ∧ r.2 ≤ 61 ∧ n ≤ r.2
theorem sat2_loop {k : Nat} {rec_ : Rw → Int → Int → Int → Int → Option (Bool × Int)} {a : S} {d1 d2 deep : Int} (hd : 0 ≤ deep ∧ deep ≤ 6) (hk : a.sizeS + 300 ≤ k) (hc : a.sizeS ≤ cap)
    (hr : ∀ (e : S) (x y n : Int), e.sizeS < a.sizeS → 0 ≤ n → n ≤ 60 → ∃ r, rec_ e.rowsS x y (deep + 1) n = some r ∧ TellsS r n (n + 1 + nodesS e ≤ 60 ∧ deep + 1 + dpS e ≤ 6 ∧ formS none e = true) (n + 1 + nodesS e)) :
    ∀ (t : S) (i : Nat) (m : Int), dropS a i = t → i ≤ a.lenS → (∀ q, aheadS a i = some q → gdS q) → 0 ≤ m → m ≤ 60 → ∃ r, impl_surrealAt_2_l0 k rec_ a.rowsS d1 d2 deep (fun v => impl_surrealAt_2_p3 v) t.rowsS i m = some r ∧ TellsS r m (m + nodesS t ≤ 60 ∧ deep + dpS t ≤ 6 ∧ formS (aheadS a i) t = true) (m + nodesS t)
  | nil, i, m, hdr, hi, _, h0, h60 => by
    refine ⟨(true, m), rfl, ?_⟩
    simp only [TellsS, nodesS, dpS, formS]
    refine ⟨⟨fun _ => ⟨by omega, by omega, trivial⟩, fun _ => trivial⟩, fun _ => by omega, h0, by omega, by omega⟩
  | cons e c c₂ l, i, m, hdr, hi, hcalm, h0, h60 => by
    have hs := drop_cons_sizeS hdr
    simp only [rowsS, impl_surrealAt_2_l0, cell_S]
    rw [wid (n := m + 1) (by omega) (by omega)]
    by_cases h1 : 60 < m + 1
    · rw [if_pos h1]
      refine ⟨_, rfl, ?_⟩
      simp only [TellsS, nodesS]
      refine ⟨⟨fun h => (by cases h), fun h => by omega⟩, fun h => (by cases h), by omega, by omega, by omega⟩
    · rw [if_neg h1, IsFraction_eq (by omega), Option.bind_some, two_if]
      by_cases h2 : (frP c c₂ && decide (c ≠ 0)) = true
      · rw [if_pos h2, wid (n := deep + 1) (by omega) (by omega)]
        obtain ⟨r1, e1, t1, t2, t3, t4, t5⟩ := hr e c c₂ (m + 1) (by omega) (by omega) (by omega)
        rw [e1, Option.bind_some]
        obtain ⟨b1, m1⟩ := r1
        dsimp only at t1 t2 t3 t4 t5 ⊢
        cases b1 with
        | false =>
          rw [if_neg (by simp)]
          refine ⟨_, rfl, ?_⟩
          simp only [TellsS]
          refine ⟨⟨fun h => (by cases h), fun h => ?_⟩, fun h => (by cases h), t3, t4, by omega⟩
          obtain ⟨q1, q2, q3⟩ := h
          simp only [nodesS, dpS, formS, Bool.and_eq_true] at q1 q2 q3
          exact t1.2 ⟨by omega, by omega, q3.1.1.2⟩
        | true =>
          obtain ⟨u1, u2, u3⟩ := t1.1 rfl
          obtain rfl := t2 rfl
          rw [if_pos rfl]
          have go : ∀ (hp : (match aheadS a i with | none => true | some q => decide (0 < cmpS q e)) = true), ∃ r, impl_surrealAt_2_l0 k rec_ a.rowsS d1 d2 deep (fun v => impl_surrealAt_2_p3 v) l.rowsS (i + 1) (m + 1 + 1 + nodesS e) = some r ∧ TellsS r m (m + nodesS (cons e c c₂ l) ≤ 60 ∧ deep + dpS (cons e c c₂ l) ≤ 6 ∧ formS (aheadS a i) (cons e c c₂ l) = true) (m + nodesS (cons e c c₂ l)) := by
            intro hp
            obtain ⟨r, er, s1, s2, s3, s4, s5⟩ := sat2_loop hd hk hc hr l (i + 1) (m + 1 + 1 + nodesS e) (drop_succS hdr) (drop_ltS hdr) (by rw [aheadS_succ hdr]; intro q hq; cases hq; exact sform_gd u3) (by omega) (by omega)
            refine ⟨r, er, ?_⟩
            rw [aheadS_succ hdr] at s1
            simp only [TellsS, nodesS, dpS, formS, Bool.and_eq_true]
            refine ⟨s1.trans ⟨fun q => ⟨by have := q.1; omega, by have := q.2.1; omega, ⟨⟨(by simpa using h2), u3⟩, hp⟩, q.2.2⟩, fun q => ⟨by have := q.1; omega, by have := q.2.1; omega, q.2.2.2⟩⟩, fun q => by rw [s2 q]; omega, s3, s4, by omega⟩
          by_cases h3 : (0 : Int) < (i : Int)
          · obtain ⟨q, qc, qc₂, ql, hq, ha⟩ := aheadS_some (t := a) (i := i) (by omega) hi
            have hqs := drop_cons_sizeS hq
            rw [if_pos h3, wid (n := (i : Int) - 1) (by omega) (by have := a.len_sizeS; have : cap = 1099511627776 := rfl; omega), row_S (n := i - 1) (by omega) hq, order_eq k q e (by omega) (by omega) (hcalm q ha) (sform_gd u3), Option.bind_some]
            by_cases h4 : cmpS q e ≤ 0
            · rw [if_pos h4]
              refine ⟨_, rfl, ?_⟩
              simp only [TellsS]
              refine ⟨⟨fun h => (by cases h), fun h => ?_⟩, fun h => (by cases h), t3, t4, by omega⟩
              obtain ⟨_, _, q3⟩ := h
              simp only [formS, ha, Bool.and_eq_true, decide_eq_true_eq] at q3
              have := q3.1.2
              omega
            · rw [if_neg h4]
              exact go (by rw [ha]; simp; omega)
          · rw [if_neg h3]
            have : i = 0 := by omega
            subst this
            exact go rfl
      · rw [if_neg h2]
        refine ⟨_, rfl, ?_⟩
        simp only [TellsS]
        refine ⟨⟨fun h => (by cases h), fun h => ?_⟩, fun h => (by cases h), by omega, by omega, by omega⟩
        obtain ⟨_, _, q3⟩ := h
        simp only [formS, Bool.and_eq_true] at q3 h2
        exact absurd q3.1.1.1 h2
theorem sat2_eq : ∀ (k : Nat) (a : S) (x y deep n : Int), a.sizeS + 300 < k → a.sizeS ≤ cap → 0 ≤ deep → deep ≤ 7 → 0 ≤ n → n ≤ 60 →
    ∃ r, impl_surrealAt_2 k a.rowsS x y deep n = some r ∧ TellsS r n (n + 1 + nodesS a ≤ 60 ∧ deep + dpS a ≤ 6 ∧ formS none a = true) (n + 1 + nodesS a)
  | 0, _, _, _, _, _, h, _, _, _, _, _ => absurd h (Nat.not_lt_zero _)
  | k + 1, a, x, y, deep, n, h, hc, h0, h7, n0, n60 => by
    have hl := a.len_sizeS
    simp only [impl_surrealAt_2, impl_surrealAt_2_b]
    rw [wid (n := n + 1) (by omega) (by omega)]
    by_cases h1 : 60 < n + 1
    · rw [if_pos h1]
      refine ⟨_, rfl, ?_⟩
      simp only [TellsS]
      exact ⟨⟨fun h => (by cases h), fun h => by omega⟩, fun h => (by cases h), by omega, by omega, by omega⟩
    · rw [if_neg h1]
      by_cases h2 : 6 < deep
      · rw [if_pos h2]
        refine ⟨_, rfl, ?_⟩
        simp only [TellsS]
        exact ⟨⟨fun h => (by cases h), fun h => by omega⟩, fun h => (by cases h), by omega, by omega, by omega⟩
      · rw [if_neg h2, if_pos (by rw [rowsS_len]; omega)]
        obtain ⟨r, e, s1, s2, s3, s4, s5⟩ := sat2_loop (k := k) (rec_ := impl_surrealAt_2 k) (a := a) (d1 := x) (d2 := y) (deep := deep) (by omega) (by omega) hc (fun e y z m he m0 m60 => sat2_eq k e y z (deep + 1) m (by omega) (by omega) (by omega) (by omega) m0 m60) a 0 (n + 1) (drop_zeroS a) (by omega) (by intro q hq; cases hq) (by omega) (by omega)
        exact ⟨r, e, s1, s2, s3, s4, by omega⟩
theorem sat1_loop {k : Nat} {a : S} (hk : a.sizeS + 300 < k) (hc : a.sizeS ≤ cap) :
    ∀ (t : S) (i : Nat) (m : Int), dropS a i = t → i ≤ a.lenS → (∀ q, aheadS a i = some q → gdS q) → 0 ≤ m → m ≤ 60 → ∃ r : Bool × Int, impl_surrealAt_l0 k a.rowsS 0 (fun v => impl_surrealAt_p3 a.rowsS v) t.rowsS i m = some (r.1, a.rowsS, r.2) ∧ (r.1 = true ↔ m + nodesS t ≤ 60 ∧ dpS t ≤ 6 ∧ formS (aheadS a i) t = true) ∧ (r.1 = true → r.2 = m + nodesS t)
  | nil, i, m, hdr, hi, _, h0, h60 => by
    refine ⟨(true, m), rfl, ?_⟩
    simp only [nodesS, dpS, formS]
    exact ⟨⟨fun _ => ⟨by omega, by omega, trivial⟩, fun _ => trivial⟩, fun _ => by omega⟩
  | cons e c c₂ l, i, m, hdr, hi, hcalm, h0, h60 => by
    have hs := drop_cons_sizeS hdr
    simp only [rowsS, impl_surrealAt_l0, cell_S]
    rw [wid (n := m + 1) (by omega) (by omega)]
    by_cases h1 : 60 < m + 1
    · rw [if_pos h1]
      exact ⟨(false, _), rfl, ⟨fun h => (by cases h), fun h => by simp only [nodesS] at h; omega⟩, fun h => (by cases h)⟩
    · rw [if_neg h1, IsFraction_eq (by omega), Option.bind_some, two_if]
      by_cases h2 : (frP c c₂ && decide (c ≠ 0)) = true
      · rw [if_pos h2, wid (n := 0 + 1) (by omega) (by omega)]
        obtain ⟨r1, e1, t1, t2, t3, t4, t5⟩ := sat2_eq k e c c₂ (0 + 1) (m + 1) (by omega) (by omega) (by omega) (by omega) (by omega) (by omega)
        rw [e1, Option.bind_some]
        obtain ⟨b1, m1⟩ := r1
        dsimp only at t1 t2 t3 t4 t5 ⊢
        cases b1 with
        | false =>
          rw [if_neg (by simp)]
          refine ⟨(false, _), rfl, ⟨fun h => (by cases h), fun h => ?_⟩, fun h => (by cases h)⟩
          obtain ⟨q1, q2, q3⟩ := h
          simp only [nodesS, dpS, formS, Bool.and_eq_true] at q1 q2 q3
          exact t1.2 ⟨by omega, by omega, q3.1.1.2⟩
        | true =>
          obtain ⟨u1, u2, u3⟩ := t1.1 rfl
          obtain rfl := t2 rfl
          rw [if_pos rfl]
          have go : ∀ (hp : (match aheadS a i with | none => true | some q => decide (0 < cmpS q e)) = true), ∃ r : Bool × Int, impl_surrealAt_l0 k a.rowsS 0 (fun v => impl_surrealAt_p3 a.rowsS v) l.rowsS (i + 1) (m + 1 + 1 + nodesS e) = some (r.1, a.rowsS, r.2) ∧ (r.1 = true ↔ m + nodesS (cons e c c₂ l) ≤ 60 ∧ dpS (cons e c c₂ l) ≤ 6 ∧ formS (aheadS a i) (cons e c c₂ l) = true) ∧ (r.1 = true → r.2 = m + nodesS (cons e c c₂ l)) := by
            intro hp
            obtain ⟨r, er, s1, s2⟩ := sat1_loop hk hc l (i + 1) (m + 1 + 1 + nodesS e) (drop_succS hdr) (drop_ltS hdr) (by rw [aheadS_succ hdr]; intro q hq; cases hq; exact sform_gd u3) (by omega) (by omega)
            refine ⟨r, er, ?_⟩
            rw [aheadS_succ hdr] at s1
            simp only [nodesS, dpS, formS, Bool.and_eq_true]
            exact ⟨s1.trans ⟨fun q => ⟨by have := q.1; omega, by have := q.2.1; omega, ⟨⟨(by simpa using h2), u3⟩, hp⟩, q.2.2⟩, fun q => ⟨by have := q.1; omega, by have := q.2.1; omega, q.2.2.2⟩⟩, fun q => by rw [s2 q]; omega⟩
          by_cases h3 : (0 : Int) < (i : Int)
          · obtain ⟨q, qc, qc₂, ql, hq, ha⟩ := aheadS_some (t := a) (i := i) (by omega) hi
            have hqs := drop_cons_sizeS hq
            rw [if_pos h3, wid (n := (i : Int) - 1) (by omega) (by have := a.len_sizeS; have : cap = 1099511627776 := rfl; omega), row_S (n := i - 1) (by omega) hq, order_eq k q e (by omega) (by omega) (hcalm q ha) (sform_gd u3), Option.bind_some]
            by_cases h4 : cmpS q e ≤ 0
            · rw [if_pos h4]
              refine ⟨(false, _), rfl, ⟨fun h => (by cases h), fun h => ?_⟩, fun h => (by cases h)⟩
              obtain ⟨_, _, q3⟩ := h
              simp only [formS, ha, Bool.and_eq_true, decide_eq_true_eq] at q3
              have := q3.1.2
              omega
            · rw [if_neg h4]
              exact go (by rw [ha]; simp; omega)
          · rw [if_neg h3]
            have : i = 0 := by omega
            subst this
            exact go rfl
      · rw [if_neg h2]
        refine ⟨(false, _), rfl, ⟨fun h => (by cases h), fun h => ?_⟩, fun h => (by cases h)⟩
        obtain ⟨_, _, q3⟩ := h
        simp only [formS, Bool.and_eq_true] at q3 h2
        exact absurd q3.1.1.1 h2
theorem sat1_eq (k : Nat) (a : S) (hk : a.sizeS + 300 < k) (hc : a.sizeS ≤ cap) : ∃ r : Bool × Int, impl_surrealAt k a.rowsS 0 0 = some (r.1, a.rowsS, r.2) ∧ (r.1 = true ↔ surP a = true) ∧ (r.1 = true → r.2 = 1 + nodesS a) := by
  have hl := a.len_sizeS
  unfold impl_surrealAt
  rw [wid (n := 0 + 1) (by omega) (by omega), if_neg (by omega), if_neg (by omega), if_pos (by rw [rowsS_len]; omega)]
  obtain ⟨r, e, s, v⟩ := sat1_loop hk hc a 0 (0 + 1) (drop_zeroS a) (by omega) (by intro q hq; cases hq) (by omega) (by omega)
  refine ⟨r, e, s.trans ?_, fun q => by rw [v q]; omega⟩
  simp only [surP, Bool.and_eq_true, decide_eq_true_eq, aheadS]
  exact ⟨fun q => ⟨⟨by have := q.1; omega, q.2.1⟩, q.2.2⟩, fun q => ⟨by have := q.1.1; omega, q.1.2, q.2⟩⟩
theorem IsSurreal_eq (k : Nat) (a : S) (hk : a.sizeS + 300 < k) (hc : a.sizeS ≤ cap) : impl_IsSurreal k a.rowsS = some (surP a) := by
  obtain ⟨r, e, s, _⟩ := sat1_eq k a hk hc
  unfold impl_IsSurreal
  rw [e, Option.bind_some]
  cases hb : surP a with
  | true => rw [if_pos (s.2 hb)]
  | false => rw [if_neg (fun q => by rw [s.1 q] at hb; cases hb)]
theorem sclone_loop {rec_ : Rw → Option Rw} {a : S} {K : Rw → Option Rw} (hr : ∀ e : S, e.sizeS < a.sizeS → rec_ e.rowsS = some e.rowsS) : ∀ (t : S) (acc : Rw), t.sizeS ≤ a.sizeS → acc.length + t.lenS ≤ cap → impl_cloneSurreal_l0 rec_ a.rowsS K t.rowsS acc = K (acc ++ t.rowsS)
  | nil, acc, _, _ => by simp [rowsS, impl_cloneSurreal_l0]
  | cons e c c₂ l, acc, hs, hl => by
    simp only [sizeS, lenS] at hs hl
    simp only [rowsS, impl_cloneSurreal_l0, cell_S, hr e (by omega), Option.bind_some]
    rw [if_pos (by omega), sclone_loop hr l _ (by omega) (by simp; omega)]
    simp
theorem sclone_eq : ∀ (k : Nat) (a : S), a.sizeS < k → a.sizeS ≤ cap → impl_cloneSurreal k a.rowsS = some a.rowsS
  | 0, _, h, _ => absurd h (Nat.not_lt_zero _)
  | k + 1, a, h, hc => by
    have hl := a.len_sizeS
    simp only [impl_cloneSurreal, impl_cloneSurreal_b]
    rw [if_pos (by rw [rowsS_len]; omega), sclone_loop (fun e he => sclone_eq k e (by omega) (by omega)) a [] (Nat.le_refl _) (by simp; omega)]
    simp
def toldST (t : S) : S × Bool := if surP t then (t, true) else (nil, false)
theorem sown_loop {rec_ : Rw → Option Rw} {a : S} {K : Rw → Option Rw} (hr : ∀ e : S, e.sizeS < a.sizeS → rec_ e.rowsS = some e.rowsS) : ∀ (t : S) (acc : Rw), t.sizeS ≤ a.sizeS → acc.length + t.lenS ≤ cap → spec_suOwn_l0 rec_ a.rowsS K t.rowsS acc = K (acc ++ t.rowsS)
  | nil, acc, _, _ => by simp [rowsS, spec_suOwn_l0]
  | cons e c c₂ l, acc, hs, hl => by
    simp only [sizeS, lenS] at hs hl
    simp only [rowsS, spec_suOwn_l0, cell_S, hr e (by omega), Option.bind_some]
    rw [if_pos (by omega), sown_loop hr l _ (by omega) (by simp; omega)]
    simp
theorem sown_eq : ∀ (k : Nat) (a : S), a.sizeS < k → a.sizeS ≤ cap → spec_suOwn k a.rowsS = some a.rowsS
  | 0, _, h, _ => absurd h (Nat.not_lt_zero _)
  | k + 1, a, h, hc => by
    have hl := a.len_sizeS
    simp only [spec_suOwn, spec_suOwn_b]
    rw [if_pos (by rw [rowsS_len]; omega), sown_loop (fun e he => sown_eq k e (by omega) (by omega)) a [] (Nat.le_refl _) (by simp; omega)]
    simp
/-! ### spec's check -/
theorem sleft_loop {rec_ : Rw → Int → Int → Option Int} {a : S} {depth : Int} (hd : 0 ≤ depth ∧ depth ≤ 6) (hr : ∀ (e : S) (v : Int), e.sizeS < a.sizeS → 0 < depth → -1 ≤ v → v ≤ 60 → ∃ r, rec_ e.rowsS (depth - 1) v = some r ∧ -2 ≤ r ∧ r ≤ 60 ∧ (1 + nodesS e ≤ v ∧ dpS e ≤ depth - 1 → r = v - 1 - nodesS e) ∧ (¬ (1 + nodesS e ≤ v ∧ dpS e ≤ depth - 1) → r < 0)) :
    ∀ (t : S) (v : Int), t.sizeS ≤ a.sizeS → -2 ≤ v → v ≤ 60 → ∃ r, spec_suLeft_l0 rec_ a.rowsS depth (fun v => some v) t.rowsS v = some r ∧ -2 ≤ r ∧ r ≤ 60 ∧ (nodesS t ≤ v ∧ dpS t ≤ depth → r = v - nodesS t) ∧ (¬ (nodesS t ≤ v ∧ dpS t ≤ depth) → r < 0)
  | nil, v, _, v0, v60 => ⟨v, rfl, v0, v60, fun _ => by simp [nodesS], fun h => by simp only [nodesS, dpS] at h; omega⟩
  | cons e c c₂ l, v, hs, v0, v60 => by
    simp only [sizeS] at hs
    simp only [rowsS, spec_suLeft_l0, cell_S]
    by_cases h1 : v < 0
    · rw [if_pos h1]
      exact ⟨-1, rfl, by omega, by omega, fun h => by simp only [nodesS] at h; omega, fun _ => by omega⟩
    · rw [if_neg h1]
      by_cases h2 : depth = 0
      · rw [if_pos h2]
        exact ⟨-1, rfl, by omega, by omega, fun h => by simp only [dpS] at h; omega, fun _ => by omega⟩
      · rw [if_neg h2, wid (n := depth - 1) (by omega) (by omega), wid (n := v - 1) (by omega) (by omega)]
        obtain ⟨r1, e1, p1, p2, p3, p4⟩ := hr e (v - 1) (by omega) (by omega) (by omega) (by omega)
        rw [e1, Option.bind_some]
        obtain ⟨r, er, q1, q2, q3, q4⟩ := sleft_loop hd hr l r1 (by omega) p1 p2
        refine ⟨r, er, q1, q2, fun h => ?_, fun h => ?_⟩
        · simp only [nodesS, dpS] at h ⊢
          have e2 := p3 ⟨by omega, by omega⟩
          rw [q3 ⟨by omega, by omega⟩, e2]; omega
        · by_cases h3 : 1 + (nodesS e : Int) ≤ v - 1 ∧ dpS e ≤ depth - 1
          · have e2 := p3 h3
            refine q4 fun q => h ?_
            simp only [nodesS, dpS]
            omega
          · exact q4 fun q => by have := p4 h3; omega
theorem sleft_eq : ∀ (k : Nat) (a : S) (depth v : Int), a.sizeS < k → a.sizeS ≤ cap → 0 ≤ depth → depth ≤ 6 → -1 ≤ v → v ≤ 60 →
    ∃ r, spec_suLeft k a.rowsS depth v = some r ∧ -2 ≤ r ∧ r ≤ 60 ∧ (1 + nodesS a ≤ v ∧ dpS a ≤ depth → r = v - 1 - nodesS a) ∧ (¬ (1 + nodesS a ≤ v ∧ dpS a ≤ depth) → r < 0)
  | 0, _, _, _, h, _, _, _, _, _ => absurd h (Nat.not_lt_zero _)
  | k + 1, a, depth, v, h, hc, d0, d6, v0, v60 => by
    have hl := a.len_sizeS
    simp only [spec_suLeft, spec_suLeft_b]
    rw [if_pos (by rw [rowsS_len]; omega), wid (n := v - 1) (by omega) (by omega)]
    obtain ⟨r, er, q1, q2, q3, q4⟩ := sleft_loop (rec_ := spec_suLeft k) (a := a) (depth := depth) ⟨d0, d6⟩ (fun e u he hd u0 u60 => sleft_eq k e (depth - 1) u (by omega) (by omega) (by omega) (by omega) u0 u60) a (v - 1) (Nat.le_refl _) (by omega) (by omega)
    exact ⟨r, er, q1, q2, fun q => q3 ⟨by omega, q.2⟩, fun q => q4 fun u => q ⟨by omega, u.2⟩⟩
theorem sform_loop_all {k : Nat} {rec_ : Rw → Int → Option Bool} {a : S} {depth : Int} (hd : 0 ≤ depth ∧ depth ≤ 6) (hk : a.sizeS + 300 ≤ k) (hc : a.sizeS ≤ cap)
    (hr : ∀ e : S, e.sizeS < a.sizeS → rec_ e.rowsS (depth - 1) = some (decide ((dpS e : Int) ≤ depth - 1) && formS none e)) :
    ∀ (t : S) (i : Nat), dropS a i = t → i ≤ a.lenS → (∀ q, aheadS a i = some q → gdS q) → spec_suForm_l0 k rec_ a.rowsS depth spec_suForm_p3 t.rowsS i = some (decide ((dpS t : Int) ≤ depth) && formS (aheadS a i) t)
  | nil, i, hdr, hi, _ => by
    have : decide ((dpS nil : Int) ≤ depth) = true := decide_eq_true (by simp only [dpS]; omega)
    rw [this]; rfl
  | cons e c c₂ l, i, hdr, hi, hgdS => by
    have hs := drop_cons_sizeS hdr
    simp only [rowsS, spec_suForm_l0, cell_S, shGood_eq (show 200 < k by omega), Option.bind_some, two_if]
    by_cases h2 : (frP c c₂ && decide (c ≠ 0)) = true
    · rw [if_pos h2, wid (n := depth - 1) (by omega) (by omega), hr e (by omega), Option.bind_some]
      by_cases h3 : (decide ((dpS e : Int) ≤ depth - 1) && formS none e) = true
      · rw [if_pos h3]
        simp only [Bool.and_eq_true, decide_eq_true_eq] at h3
        have hce := sform_gd h3.2
        have go : ∀ (hp : (match aheadS a i with | none => true | some q => decide (0 < cmpS q e)) = true), spec_suForm_l0 k rec_ a.rowsS depth spec_suForm_p3 l.rowsS (i + 1) = some (decide ((dpS (cons e c c₂ l) : Int) ≤ depth) && formS (aheadS a i) (cons e c c₂ l)) := by
          intro hp
          rw [sform_loop_all hd hk hc hr l (i + 1) (drop_succS hdr) (drop_ltS hdr) (by rw [aheadS_succ hdr]; intro q hq; cases hq; exact hce), aheadS_succ hdr]
          have e1 : decide ((dpS (cons e c c₂ l) : Int) ≤ depth) = decide ((dpS l : Int) ≤ depth) := by simp only [dpS]; congr 1; apply propext; omega
          have h6 : formS (aheadS a i) (cons e c c₂ l) = formS (some e) l := by
            simp only [formS, h2, h3.2, Bool.true_and]
            cases hq : aheadS a i with
            | none => simp
            | some q => rw [hq] at hp; simp only at hp; simp [hp]
          rw [e1, h6]
        by_cases h4 : (0 : Int) < (i : Int)
        · obtain ⟨q, qc, qc₂, ql, hq, ha'⟩ := aheadS_some (t := a) (i := i) (by omega) hi
          have hqs := drop_cons_sizeS hq
          have hcq := hgdS q ha'
          rw [if_pos h4, wid (n := (i : Int) - 1) (by omega) (by have := a.len_sizeS; have : cap = 1099511627776 := rfl; omega), row_S (n := i - 1) (by omega) hq, suCmp_eq k q e (by omega) (by omega) hcq hce, Option.bind_some]
          by_cases h5 : cmpS q e ≤ 0
          · rw [if_pos h5]
            have : decide (0 < cmpS q e) = false := by simpa using h5
            simp [formS, ha', this]
          · rw [if_neg h5]
            exact go (by rw [ha']; simp; omega)
        · rw [if_neg h4]
          have : i = 0 := by omega
          subst this
          exact go rfl
      · rw [if_neg h3]
        have : (decide ((dpS (cons e c c₂ l) : Int) ≤ depth) && formS (aheadS a i) (cons e c c₂ l)) = false := by
          refine Bool.eq_false_iff.2 fun hx => h3 ?_
          rw [Bool.and_eq_true, decide_eq_true_eq] at hx ⊢
          obtain ⟨x1, x2⟩ := hx
          simp only [dpS] at x1
          simp only [formS, Bool.and_eq_true] at x2
          exact ⟨by omega, x2.1.1.2⟩
        rw [this]
    · rw [if_neg h2]
      have : formS (aheadS a i) (cons e c c₂ l) = false := by
        simp only [formS]
        cases hx : (frP c c₂ && decide (c ≠ 0)) with
        | true => exact absurd hx h2
        | false => simp
      rw [this, Bool.and_false]
theorem sform_all : ∀ (k : Nat) (a : S) (depth : Int), a.sizeS + 300 < k → a.sizeS ≤ cap → -1 ≤ depth → depth ≤ 6 → spec_suForm k a.rowsS depth = some (decide ((dpS a : Int) ≤ depth) && formS none a)
  | 0, _, _, h, _, _, _ => absurd h (Nat.not_lt_zero _)
  | k + 1, a, depth, h, hc, d0, d6 => by
    have hl := a.len_sizeS
    simp only [spec_suForm, spec_suForm_b]
    by_cases h1 : depth < 0
    · rw [if_pos h1]
      have : decide ((dpS a : Int) ≤ depth) = false := by simp; omega
      rw [this, Bool.false_and]
    · rw [if_neg h1, if_pos (by rw [rowsS_len]; omega), sform_loop_all (a := a) (by omega) (by omega) hc (fun e he => sform_all k e (depth - 1) (by omega) (by omega) (by omega) (by omega)) a 0 (drop_zeroS a) (by omega) (by intro q hq; cases hq)]
      rfl
theorem suGood_all (k : Nat) (a : S) (h : a.sizeS + 300 < k) (hc : a.sizeS ≤ cap) : spec_suGood k a.rowsS = some (surP a) := by
  unfold spec_suGood
  obtain ⟨r, er, q1, q2, q3, q4⟩ := sleft_eq k a 6 60 (by omega) hc (by omega) (by omega) (by omega) (by omega)
  rw [er, Option.bind_some]
  by_cases h1 : 1 + nodesS a ≤ 60 ∧ dpS a ≤ 6
  · have := q3 ⟨by omega, by omega⟩
    rw [if_pos (by omega), sform_all k a 6 h hc (by omega) (by omega), Option.bind_some]
    have h2 : decide ((dpS a : Int) ≤ 6) = true := by simp; omega
    simp only [surP, h2, h1.1, h1.2, decide_true, Bool.true_and]
    cases formS none a <;> rfl
  · have := q4 (by omega)
    rw [if_neg (by omega)]
    have : surP a = false := by
      cases hx : surP a with
      | false => rfl
      | true => simp only [surP, Bool.and_eq_true, decide_eq_true_eq] at hx; exact absurd hx.1 h1
    rw [this]
end Go.Proofs.Try

namespace Go.Proofs.Try
open Go Go.AX S
theorem cmpS_trans {a : S} : ∀ {b c : S}, gdS a → gdS b → gdS c → cmpS a b = 1 → cmpS b c = 1 → cmpS a c = 1 := by
  induction a with
  | nil =>
    intro b c ga gb gc h1 h2
    cases b with
    | nil => simp [cmpS] at h1
    | cons f m g r =>
      simp only [cmpS] at h1
      have hm : m < 0 := sg_neg.1 (by omega)
      have hg := frP_in gb.2.1.1
      cases c with
      | nil => simp only [cmpS] at h2; omega
      | cons k u v s =>
        have hv := frP_in gc.2.1.1
        have hr := cmpS_range f k
        simp only [cmpS] at h2 ⊢
        by_cases q1 : cmpS f k = 1
        · rw [if_pos q1] at h2; omega
        · rw [if_neg q1] at h2
          by_cases q2 : cmpS f k = -1
          · rw [if_pos q2] at h2; exact h2
          · rw [if_neg q2] at h2
            have hu : u < 0 := by
              by_cases q3 : cmpF m g u v = 0
              · have := (cmpF_eq gb.2.1.1 gc.2.1.1).1 q3; omega
              · rw [if_neg q3] at h2
                exact cmpF_ng (by omega) (by omega) h2 hm
            have := sg_neg.2 hu; omega
  | cons e n d l ihe ihl =>
    intro b c ga gb gc h1 h2
    have hd := frP_in ga.2.1.1
    cases b with
    | nil =>
      simp only [cmpS] at h1
      have hn : 0 < n := sg_one.1 h1
      cases c with
      | nil => simp [cmpS] at h2
      | cons k u v s =>
        simp only [cmpS] at h2
        have hu : u < 0 := sg_neg.1 (by omega)
        have hv := frP_in gc.2.1.1
        have hF := cmpF_sign (show 0 < d by omega) (show 0 < v by omega) hn hu
        simp only [cmpS]
        by_cases q1 : cmpS e k = 1
        · rw [if_pos q1]; exact h1
        · rw [if_neg q1]
          by_cases q2 : cmpS e k = -1
          · rw [if_pos q2]; exact h2
          · rw [if_neg q2, if_neg (by omega)]; exact hF
    | cons f m g r =>
      have hg := frP_in gb.2.1.1
      cases c with
      | nil =>
        simp only [cmpS] at h1 h2 ⊢
        have hm : 0 < m := sg_one.1 h2
        have hr := cmpS_range e f
        by_cases q1 : cmpS e f = 1
        · rw [if_pos q1] at h1; exact h1
        · rw [if_neg q1] at h1
          by_cases q2 : cmpS e f = -1
          · rw [if_pos q2] at h1; omega
          · rw [if_neg q2] at h1
            refine sg_one.2 ?_
            by_cases q3 : cmpF n d m g = 0
            · have := (cmpF_eq ga.2.1.1 gb.2.1.1).1 q3; omega
            · rw [if_neg q3] at h1
              exact cmpF_pos (by omega) (by omega) h1 hm
      | cons k u v s =>
        have hv := frP_in gc.2.1.1
        have t1 := @ihe f k ga.1 gb.1 gc.1
        have t2 := @ihe k f ga.1 gc.1 gb.1
        have x0 := cmpS_eq ga.1 gb.1
        have y0 := cmpS_eq gb.1 gc.1
        have z0 := cmpS_eq ga.1 gc.1
        have hx := cmpS_range e f
        have hy := cmpS_range f k
        have hz := cmpS_range e k
        have ny := cmpS_neg f k
        have F1 := cmpF_eq ga.2.1.1 gb.2.1.1
        have F2 := cmpF_eq gb.2.1.1 gc.2.1.1
        have F3 := cmpF_eq ga.2.1.1 gc.2.1.1
        have tl := @ihl r s ga.2.2 gb.2.2 gc.2.2
        simp only [cmpS] at h1 h2 ⊢
        rcases hx with hx | hx | hx
        · -- e < f
          rw [if_neg (by omega), if_pos hx] at h1
          have hm : m < 0 := sg_neg.1 (by omega)
          rcases hy with hy | hy | hy
          · rw [if_neg (by omega), if_pos hy] at h2
            have hz' : cmpS e k = -1 := by
              rcases hz with hz | hz | hz
              · exact hz
              · have := z0.1 hz; subst this; rw [cmpS_neg e f] at hy; omega
              · have := t2 hz (by omega); omega
            rw [if_neg (by omega), if_pos hz']; exact h2
          · rw [if_neg (by omega), if_neg (by omega)] at h2
            have := y0.1 hy; subst this
            rw [if_neg (by omega), if_pos hx]
            have hu : u < 0 := by
              by_cases q3 : cmpF m g u v = 0
              · have := F2.1 q3; omega
              · rw [if_neg q3] at h2; exact cmpF_ng (by omega) (by omega) h2 hm
            have := sg_neg.2 hu; omega
          · rw [if_pos hy] at h2; omega
        · -- e = f
          rw [if_neg (by omega), if_neg (by omega)] at h1
          have := x0.1 hx; subst this
          rcases hy with hy | hy | hy
          · rw [if_neg (by omega), if_pos hy] at h2
            rw [if_neg (by omega), if_pos hy]; exact h2
          · rw [if_neg (by omega), if_neg (by omega)] at h2
            rw [if_neg (by omega), if_neg (by omega)]
            by_cases q1 : cmpF n d m g = 0
            · rw [if_pos q1] at h1
              obtain ⟨rfl, rfl⟩ := F1.1 q1
              by_cases q2 : cmpF n d u v = 0
              · rw [if_pos q2] at h2 ⊢; exact tl h1 h2
              · rw [if_neg q2] at h2 ⊢; exact h2
            · rw [if_neg q1] at h1
              have h3 : cmpF n d u v = 1 := by
                by_cases q2 : cmpF m g u v = 0
                · obtain ⟨rfl, rfl⟩ := F2.1 q2; exact h1
                · rw [if_neg q2] at h2; exact cmpF_trans (by omega) (by omega) (by omega) h1 h2
              rw [if_neg (by omega)]; exact h3
          · rw [if_pos hy] at h2 ⊢
            have hm := sg_one.1 h2
            refine sg_one.2 ?_
            by_cases q1 : cmpF n d m g = 0
            · have := F1.1 q1; omega
            · rw [if_neg q1] at h1; exact cmpF_pos (by omega) (by omega) h1 hm
        · -- e > f
          rw [if_pos hx] at h1
          have hn := sg_one.1 h1
          rcases hy with hy | hy | hy
          · rw [if_neg (by omega), if_pos hy] at h2
            have hu : u < 0 := sg_neg.1 (by omega)
            have hF := cmpF_sign (show 0 < d by omega) (show 0 < v by omega) hn hu
            rcases hz with hz | hz | hz
            · rw [if_neg (by omega), if_pos hz]; exact h2
            · rw [if_neg (by omega), if_neg (by omega), if_neg (by omega)]; exact hF
            · rw [if_pos hz]; exact h1
          · have := y0.1 hy; subst this
            rw [if_pos hx]; exact h1
          · rw [if_pos (t1 hx hy)]; exact h1
end Go.Proofs.Try

namespace Go.Proofs.Try
open Go Go.AX S
theorem snocLenS (l e : S) (n d : Int) : (appS l (cons e n d nil)).lenS = l.lenS + 1 := by rw [len_appS]; rfl
/-- A term put into its place. -/
def putS : S → S → Int → Int → Option S
  | nil, f, m, g => some (cons f m g nil)
  | cons e n d l, f, m, g => if cmpS e f ≤ 0 then (if cmpS e f = 0 then (if frP (addF n d m g).1 (addF n d m g).2 = true then some (if (addF n d m g).1 = 0 then l else cons f (addF n d m g).1 (addF n d m g).2 l) else none) else some (cons f m g (cons e n d l))) else (putS l f m g).map (cons e n d)
def foldS : S → S → Option S
  | a, nil => some a
  | a, cons f m g r => (putS a f m g).bind fun x => foldS x r
def resS : Option S → Rw × Bool
  | some r => (r.rowsS, true)
  | none => ([], false)
theorem putS_gd {a f x : S} {m g : Int} (ga : gdS a) (gf : gdS f) (hm : frP m g = true ∧ m ≠ 0) (h : putS a f m g = some x) : gdS x := by
  induction a generalizing x with
  | nil => simp only [putS, Option.some.injEq] at h; subst h; exact ⟨gf, hm, trivial⟩
  | cons e n d l _ ih =>
    simp only [putS] at h
    split at h
    · split at h
      · split at h
        · rename_i hf
          simp only [Option.some.injEq] at h
          subst h
          split
          · exact ga.2.2
          · rename_i hz; exact ⟨gf, ⟨hf, hz⟩, ga.2.2⟩
        · cases h
      · simp only [Option.some.injEq] at h; subst h; exact ⟨gf, hm, ga⟩
    · cases hp : putS l f m g with
      | none => rw [hp] at h; cases h
      | some y =>
        rw [hp] at h
        simp only [Option.map_some, Option.some.injEq] at h
        subst h
        exact ⟨ga.1, ga.2.1, ih ga.2.2 hp⟩
theorem putS_size {a f x : S} {m g : Int} (h : putS a f m g = some x) : x.sizeS ≤ a.sizeS + f.sizeS + 1 := by
  induction a generalizing x with
  | nil => simp only [putS, Option.some.injEq] at h; subst h; simp [sizeS]
  | cons e n d l _ ih =>
    simp only [putS] at h
    split at h
    · split at h
      · split at h
        · simp only [Option.some.injEq] at h
          subst h
          split
          · simp only [sizeS]; omega
          · simp only [sizeS]; omega
        · cases h
      · simp only [Option.some.injEq] at h; subst h; simp only [sizeS]; omega
    · cases hp : putS l f m g with
      | none => rw [hp] at h; cases h
      | some y =>
        rw [hp] at h
        simp only [Option.map_some, Option.some.injEq] at h
        subst h
        have := ih hp
        simp only [sizeS]; omega
/-! ### the reference's put -/
theorem rowsS_snoc (l e : S) (n d : Int) : l.rowsS ++ [[D.sl e.rowsS, D.int .i64 n, D.int .i64 d]] = (appS l (cons e n d nil)).rowsS := by rw [rows_appS]; rfl
theorem put_done {k : Nat} {a f : S} {m g : Int} {K : Rw → Bool → Option (Rw × Bool)} (gf : gdS f) : ∀ (t acc : S), t.sizeS < k → acc.sizeS + t.sizeS ≤ cap → gdS t → spec_suPut_l0 k a.rowsS f.rowsS m g K t.rowsS true acc.rowsS = K (appS acc t).rowsS true
  | nil, acc, _, _, _ => by simp only [rowsS, spec_suPut_l0, cond_true, app_nilS]
  | cons e n d l, acc, hk, hc, gt => by
    simp only [sizeS] at hk hc
    have hl := acc.len_sizeS
    simp only [rowsS, spec_suPut_l0, cond_true, cell_S]
    rw [suCmp_eq k e f (by omega) (by omega) gt.1 gf, Option.bind_some, if_pos (by rw [rowsS_len]; omega), rowsS_snoc, put_done gf l _ (by omega) (by rw [size_appS]; simp only [sizeS]; omega) gt.2.2, app_assocS]
    rfl
theorem put_loop {k : Nat} {a f : S} {m g : Int} (hk200 : 200 < k) (gf : gdS f) (hm : frP m g = true) : ∀ (t acc : S), t.sizeS < k → acc.sizeS + t.sizeS + f.sizeS + 2 ≤ cap → gdS t →
    spec_suPut_l0 k a.rowsS f.rowsS m g (fun v b => cond b (spec_suPut_p4 f.rowsS m g v true) (spec_suPut_p4 f.rowsS m g v false)) t.rowsS false acc.rowsS = some (resS ((putS t f m g).map (appS acc)))
  | nil, acc, hk, hc, gt => by
    have hl := acc.len_sizeS
    simp only [rowsS, spec_suPut_l0, cond_false, spec_suPut_p4]
    rw [if_pos (by rw [rowsS_len]; simp only [sizeS] at hc; omega), rowsS_snoc]
    rfl
  | cons e n d l, acc, hk, hc, gt => by
    simp only [sizeS] at hk hc
    have hl := acc.len_sizeS
    have hll := l.len_sizeS
    simp only [rowsS, spec_suPut_l0, cond_false, cell_S]
    rw [suCmp_eq k e f (by omega) (by omega) gt.1 gf, Option.bind_some]
    by_cases q1 : cmpS e f ≤ 0
    · rw [if_pos q1]
      by_cases q2 : cmpS e f = 0
      · rw [if_pos q2, shAdd_eq hk200 gt.2.1.1 hm]
        simp only [Option.bind_some]
        rw [shGood_eq hk200, Option.bind_some]
        simp only [putS, if_pos q1, if_pos q2]
        by_cases q3 : frP (addF n d m g).1 (addF n d m g).2 = true
        · rw [if_pos q3, if_pos q3]
          unfold spec_suTerm
          by_cases q4 : (addF n d m g).1 = 0
          · rw [if_pos q4, if_pos q4, Option.bind_some, if_pos ⟨by simp only [List.length_nil, rowsS_len]; omega, by intro cs h; cases h⟩]
            rw [show acc.rowsS ++ ([] : Rw) = acc.rowsS from List.append_nil _, put_done gf l acc (by omega) (by omega) gt.2.2]
            rfl
          · rw [if_neg q4, if_neg q4, Option.bind_some, if_pos ⟨by simp only [List.length_cons, List.length_nil, rowsS_len]; omega, by intro cs h; simp at h; subst h; rfl⟩]
            rw [rowsS_snoc, put_done gf l _ (by omega) (by rw [size_appS]; simp only [sizeS]; omega) gt.2.2, app_assocS]
            rfl
        · rw [if_neg q3, if_neg q3]; rfl
      · rw [if_neg q2, if_pos (by rw [rowsS_len]; omega)]
        simp only [putS, if_pos q1, if_neg q2]
        rw [rowsS_snoc, if_pos (by rw [rowsS_len, len_appS]; simp only [lenS]; omega), rowsS_snoc, put_done gf l _ (by omega) (by rw [size_appS, size_appS]; simp only [sizeS]; omega) gt.2.2, app_assocS, app_assocS]
        rfl
    · rw [if_neg q1, if_pos (by rw [rowsS_len]; omega), rowsS_snoc, put_loop hk200 gf hm l _ (by omega) (by rw [size_appS]; simp only [sizeS]; omega) gt.2.2]
      simp only [putS, if_neg q1]
      congr 1
      cases putS l f m g with
      | none => rfl
      | some y => simp only [Option.map_some, app_assocS]; rfl
theorem suPut_eq {k : Nat} {a f : S} {m g : Int} (hk : a.sizeS + 200 < k) (hc : a.sizeS + f.sizeS + 2 ≤ cap) (ga : gdS a) (gf : gdS f) (hm : frP m g = true) : spec_suPut k a.rowsS f.rowsS m g = some (resS (putS a f m g)) := by
  have hl := a.len_sizeS
  unfold spec_suPut
  rw [if_pos (by rw [rowsS_len]; omega)]
  have := put_loop (k := k) (a := a) (by omega) gf hm a nil (by omega) (by simp only [sizeS]; omega) ga
  refine this.trans ?_
  congr 1
  cases putS a f m g <;> rfl
theorem plus_loopS {k : Nat} {b : Rw} : ∀ (t a : S), a.sizeS + t.sizeS + 200 < k → a.sizeS + t.sizeS + 2 ≤ cap → gdS a → gdS t → spec_suPlus_l0 k b (fun v => some (v, true)) t.rowsS a.rowsS = some (resS (foldS a t))
  | nil, a, _, _, _, _ => rfl
  | cons f m g r, a, hk, hc, ga, gt => by
    simp only [sizeS] at hk hc
    simp only [rowsS, spec_suPlus_l0, cell_S]
    rw [suPut_eq (by omega) (by omega) ga gt.1 gt.2.1.1, Option.bind_some]
    simp only [foldS]
    cases hp : putS a f m g with
    | none => rfl
    | some x =>
      have := putS_size hp
      simp only [resS, if_true, Option.bind_some]
      exact plus_loopS r x (by omega) (by omega) (putS_gd ga gt.1 gt.2.1 hp) gt.2.2
theorem suPlus_eq {k : Nat} {a b : S} (hk : a.sizeS + b.sizeS + 200 < k) (hc : a.sizeS + b.sizeS + 2 ≤ cap) (ga : gdS a) (gb : gdS b) : spec_suPlus k a.rowsS b.rowsS = some (resS (foldS a b)) := by
  have hl := b.len_sizeS
  unfold spec_suPlus
  rw [if_pos (by rw [rowsS_len]; omega)]
  exact plus_loopS b a hk hc ga gb
/-! ### impl's sum -/
def aboveS (e : S) : S → Prop
  | nil => True
  | cons x _ _ l => cmpS e x = 1 ∧ aboveS e l
def fallsS : S → Prop
  | nil => True
  | cons e _ _ l => aboveS e l ∧ fallsS l
theorem above_trans {e f : S} (ge : gdS e) (gf : gdS f) (h : cmpS e f = 1) : ∀ {r : S}, gdS r → aboveS f r → aboveS e r
  | nil, _, _ => trivial
  | cons _ _ _ _, gr, hr => ⟨cmpS_trans ge gf gr.1 h hr.1, above_trans ge gf h gr.2.2 hr.2⟩
theorem fold_above {e : S} {n d : Int} : ∀ (r l : S), aboveS e r → foldS (cons e n d l) r = (foldS l r).map (cons e n d)
  | nil, l, _ => rfl
  | cons f m g r, l, h => by
    simp only [foldS, putS]
    rw [if_neg (by have := h.1; omega)]
    cases putS l f m g with
    | none => rfl
    | some x => simp only [Option.map_some, Option.bind_some]; exact fold_above r x h.2
theorem fold_nil : ∀ (b : S), fallsS b → foldS nil b = some b
  | nil, _ => rfl
  | cons f m g r, h => by
    simp only [foldS, putS, Option.bind_some]
    rw [fold_above r nil h.1, fold_nil r h.2]; rfl
theorem form_above {p : Option S} {t : S} (h : formS p t = true) : (∀ q, p = some q → gdS q → aboveS q t) ∧ fallsS t := by
  induction t generalizing p with
  | nil => exact ⟨fun _ _ _ => trivial, trivial⟩
  | cons e n d l _ ih =>
    have hg := sform_gd h
    simp only [formS, Bool.and_eq_true] at h
    obtain ⟨i1, i2⟩ := ih h.2
    have ge := hg.1
    refine ⟨fun q hq gq => ?_, i1 e rfl ge, i2⟩
    subst hq
    have h2 := h.1.2
    simp only [decide_eq_true_eq] at h2
    have := cmpS_range q e
    have h3 : cmpS q e = 1 := by omega
    exact ⟨h3, above_trans gq ge h3 hg.2.2 (i1 e rfl ge)⟩
theorem falls_dropS {t : S} (h : fallsS t) : ∀ {i : Nat}, fallsS (dropS t i) := by
  induction t with
  | nil => intro i; simp [fallsS]
  | cons e n d l _ ih => intro i; cases i with
    | zero => simpa using h
    | succ i => exact ih h.2
theorem sum_loop {k : Nat} {a b : S} (ga : gdS a) (gb : gdS b) (fa : fallsS a) (fb : fallsS b) (hk : a.sizeS + b.sizeS + 300 < k) (hc : a.sizeS + b.sizeS + 2 ≤ cap) : ∀ (n i j : Nat) (acc : S), i ≤ a.lenS → j ≤ b.lenS → (a.lenS - i) + (b.lenS - j) + 1 ≤ n → acc.lenS ≤ i + j →
    impl_sum_l0 k a.rowsS b.rowsS (fun v => impl_sum_p4 v) n i acc.rowsS j = some (resS ((foldS (dropS a i) (dropS b j)).map (appS acc)))
  | 0, _, _, _, _, _, h, _ => absurd h (by omega)
  | n + 1, i, j, acc, hi, hj, hn, hacc => by
    have hla := a.len_sizeS
    have hlb := b.len_sizeS
    have h3 : cap = 1099511627776 := rfl
    have g1 := gd_drop ga (i := i)
    have g2 := gd_drop gb (i := j)
    have f2 := falls_dropS fb (i := j)
    simp only [impl_sum_l0]
    cases hda : dropS a i with
    | nil =>
      have h1 := drop_geS hda
      rw [if_neg (by rw [lenSI]; omega)]
      cases hdb : dropS b j with
      | nil =>
        have h2 := drop_geS hdb
        rw [if_neg (by rw [lenSI]; omega)]
        simp only [foldS, Option.map_some, app_nilS]; rfl
      | cons f m g r =>
        have h2 := drop_ltS hdb
        rw [hdb] at f2
        rw [if_pos (by rw [lenSI]; omega), if_neg (by rw [lenSI]; omega), if_pos (by rw [lenSI]; omega), row_S rfl hdb, if_pos (by rw [rowsS_len]; omega), rowsS_snoc, wid (by omega) (by omega)]
        have := sum_loop ga gb fa fb hk hc n i (j + 1) (appS acc (cons f m g nil)) hi (by omega) (by omega) (by rw [snocLenS]; omega)
        rw [drop_succS hdb, hda] at this
        refine this.trans ?_
        rw [fold_nil _ f2.2, fold_nil _ f2]
        simp only [Option.map_some, app_assocS]; rfl
    | cons e x d l =>
      have h1 := drop_ltS hda
      rw [hda] at g1
      have hsa := drop_cons_sizeS hda
      rw [if_pos (by rw [lenSI]; omega)]
      cases hdb : dropS b j with
      | nil =>
        have h2 := drop_geS hdb
        rw [if_pos (by rw [lenSI]; omega), row_S rfl hda, if_pos (by rw [rowsS_len]; omega), rowsS_snoc, wid (by omega) (by omega)]
        have := sum_loop ga gb fa fb hk hc n (i + 1) j (appS acc (cons e x d nil)) (by omega) hj (by omega) (by rw [snocLenS]; omega)
        rw [drop_succS hda, hdb] at this
        refine this.trans ?_
        simp only [foldS, Option.map_some, app_assocS]; rfl
      | cons f m g r =>
        have h2 := drop_ltS hdb
        rw [hdb] at g2 f2
        have hr := cmpS_range e f
        have r1 := row_S (α := Rw × Bool) (i := i) rfl hda
        have r2 := row_S (α := Rw × Bool) (i := j) rfl hdb
        rw [if_neg (by rw [lenSI]; omega), if_neg (by rw [lenSI]; omega)]
        simp only [r1, r2]
        rw [order_eq k e f (by omega) (by omega) g1.1 g2.1, Option.bind_some]
        by_cases q1 : cmpS e f = 1
        · rw [if_pos q1, if_pos (by rw [rowsS_len]; omega), rowsS_snoc, wid (n := (i : Int) + 1) (by omega) (by omega)]
          have := sum_loop ga gb fa fb hk hc n (i + 1) j (appS acc (cons e x d nil)) (by omega) hj (by omega) (by rw [snocLenS]; omega)
          rw [drop_succS hda, hdb] at this
          refine this.trans ?_
          rw [fold_above (cons f m g r) l ⟨q1, above_trans g1.1 g2.1 q1 g2.2.2 f2.1⟩]
          congr 1
          cases foldS l (cons f m g r) with
          | none => rfl
          | some y => simp only [Option.map_some, app_assocS]; rfl
        · rw [if_neg q1]
          by_cases q2 : cmpS e f = -1
          · rw [if_pos q2, if_pos (by rw [rowsS_len]; omega), rowsS_snoc, wid (n := (j : Int) + 1) (by omega) (by omega)]
            have := sum_loop ga gb fa fb hk hc n i (j + 1) (appS acc (cons f m g nil)) hi (by omega) (by omega) (by rw [snocLenS]; omega)
            rw [drop_succS hdb, hda] at this
            refine this.trans ?_
            rw [show foldS (cons e x d l) (cons f m g r) = (foldS (cons e x d l) r).map (cons f m g) from by
              simp only [foldS, putS]
              rw [if_pos (by omega), if_neg (by omega)]
              simp only [Option.bind_some]
              exact fold_above r _ f2.1]
            congr 1
            cases foldS (cons e x d l) r with
            | none => rfl
            | some y => simp only [Option.map_some, app_assocS]; rfl
          · have q0 : cmpS e f = 0 := by omega
            obtain rfl := (cmpS_eq g1.1 g2.1).1 q0
            rw [if_neg q2, AddFractions_eq (by omega) g1.2.1.1 g2.2.1.1, Option.bind_some]
            have hfold : foldS (cons e x d l) (cons e m g r) = if frP (addF x d m g).1 (addF x d m g).2 = true then (if (addF x d m g).1 = 0 then foldS l r else (foldS l r).map (cons e (addF x d m g).1 (addF x d m g).2)) else none := by
              simp only [foldS, putS]
              rw [if_pos (by omega), if_pos q0]
              by_cases q3 : frP (addF x d m g).1 (addF x d m g).2 = true
              · rw [if_pos q3, if_pos q3]
                simp only [Option.bind_some]
                by_cases q4 : (addF x d m g).1 = 0
                · rw [if_pos q4, if_pos q4]
                · rw [if_neg q4, if_neg q4]; exact fold_above r l f2.1
              · rw [if_neg q3, if_neg q3]; rfl
            rw [hfold]
            unfold resF
            by_cases q3 : frP (addF x d m g).1 (addF x d m g).2 = true
            · rw [if_pos q3, if_pos q3]
              simp only [if_true]
              by_cases q4 : (addF x d m g).1 = 0
              · rw [if_pos q4, if_pos q4, wid (n := (i : Int) + 1) (by omega) (by omega), wid (n := (j : Int) + 1) (by omega) (by omega)]
                have := sum_loop ga gb fa fb hk hc n (i + 1) (j + 1) acc (by omega) (by omega) (by omega) (by omega)
                rw [drop_succS hda, drop_succS hdb] at this
                exact this
              · rw [if_neg q4, if_neg q4, if_pos (by rw [rowsS_len]; omega), rowsS_snoc, wid (n := (i : Int) + 1) (by omega) (by omega), wid (n := (j : Int) + 1) (by omega) (by omega)]
                have := sum_loop ga gb fa fb hk hc n (i + 1) (j + 1) (appS acc (cons e (addF x d m g).1 (addF x d m g).2 nil)) (by omega) (by omega) (by omega) (by rw [snocLenS]; omega)
                rw [drop_succS hda, drop_succS hdb] at this
                refine this.trans ?_
                congr 1
                cases foldS l r with
                | none => rfl
                | some y => simp only [Option.map_some, app_assocS]; rfl
            · rw [if_neg q3, if_neg q3]; rfl
theorem sum_eqS {k : Nat} {a b : S} (ga : gdS a) (gb : gdS b) (fa : fallsS a) (fb : fallsS b) (hk : a.sizeS + b.sizeS + 300 < k) (hc : a.sizeS + b.sizeS + 2 ≤ cap) : impl_sum k a.rowsS b.rowsS = some (resS (foldS a b)) := by
  have hla := a.len_sizeS
  have hlb := b.len_sizeS
  unfold impl_sum
  have := sum_loop ga gb fa fb hk hc k 0 0 nil (by omega) (by omega) (by omega) (by simp [lenS])
  rw [drop_zeroS, drop_zeroS] at this
  refine this.trans ?_
  congr 1
  cases foldS a b <;> rfl
end Go.Proofs.Try

namespace Go.Proofs.Try
open Go Go.AX S
theorem toldSur_eq (k : Nat) (a : S) (h : a.sizeS + 300 < k) (hc : a.sizeS ≤ cap) : impl_toldSurreal k a.rowsS true = some ((toldST a).1.rowsS, (toldST a).2) := by
  unfold impl_toldSurreal toldST
  simp only [cond_true]
  rw [IsSurreal_eq k a h hc, Option.bind_some]
  cases surP a with
  | false => rfl
  | true => rw [if_pos rfl, sclone_eq k a (by omega) hc]; rfl
theorem toldNo_eq (k : Nat) (a : Rw) : impl_toldSurreal k a false = some ([], false) := rfl
theorem suIf_eq (k : Nat) (a : S) (h : a.sizeS + 300 < k) (hc : a.sizeS ≤ cap) : spec_suIf k a.rowsS = some ((toldST a).1.rowsS, (toldST a).2) := by
  unfold spec_suIf toldST
  rw [suGood_all k a h hc]
  simp only [Option.bind_some]
  cases surP a with
  | false => rfl
  | true => rw [if_pos rfl, sown_eq k a (by omega) hc]; rfl
theorem surreals_eq (k : Nat) (a b : S) (ha : a.sizeS + 300 < k) (hb : b.sizeS + 300 < k) (ca : a.sizeS ≤ cap) (cb : b.sizeS ≤ cap) : impl_surreals k a.rowsS b.rowsS = some (surP a && surP b) := by
  unfold impl_surreals
  rw [IsSurreal_eq k a ha ca, Option.bind_some]
  cases surP a with
  | false => rfl
  | true =>
    rw [if_pos rfl, IsSurreal_eq k b hb cb, Option.bind_some]
    cases surP b <;> rfl
theorem toldST_size (t : S) : (toldST t).1.sizeS ≤ 30 := by
  unfold toldST
  cases h : surP t with
  | false => simp [sizeS]
  | true => exact surP_size h
theorem surP_form {t : S} (h : surP t = true) : formS none t = true := by
  simp only [surP, Bool.and_eq_true] at h; exact h.2
end Go.Proofs.Try

namespace Go.Proofs.Try
open Go Go.AX S
theorem fold_size {a x : S} : ∀ {b : S}, foldS a b = some x → x.sizeS ≤ a.sizeS + b.sizeS := by
  intro b
  induction b generalizing a with
  | nil => intro h; simp only [foldS, Option.some.injEq] at h; subst h; simp [sizeS]
  | cons f m g r _ ih =>
    intro h
    simp only [foldS] at h
    cases hp : putS a f m g with
    | none => rw [hp] at h; cases h
    | some y =>
      rw [hp] at h
      have := ih h
      have := putS_size hp
      simp only [sizeS]; omega
theorem fold_gd {a x : S} : ∀ {b : S}, gdS a → gdS b → foldS a b = some x → gdS x := by
  intro b
  induction b generalizing a with
  | nil => intro ga _ h; simp only [foldS, Option.some.injEq] at h; subst h; exact ga
  | cons f m g r _ ih =>
    intro ga gb h
    simp only [foldS] at h
    cases hp : putS a f m g with
    | none => rw [hp] at h; cases h
    | some y =>
      rw [hp] at h
      exact ih (putS_gd ga gb.1 gb.2.1 hp) gb.2.2 h
theorem gd_fallsS {a : S} (h : surP a = true) : gdS a ∧ fallsS a := ⟨sform_gd (surP_form h), (form_above (surP_form h)).2⟩
/-- What the sum of two right numbers tells. -/
def sumST (a b : S) : S × Bool := match foldS a b with
  | none => (nil, false)
  | some x => toldST x
theorem sumST_size (a b : S) : (sumST a b).1.sizeS ≤ 30 := by
  unfold sumST
  split
  · simp [sizeS]
  · exact toldST_size _
theorem isum_told {k : Nat} {a b : S} (ga : gdS a) (gb : gdS b) (hk : a.sizeS + b.sizeS + 300 < k) (hc : a.sizeS + b.sizeS + 2 ≤ cap) : (∀ x, foldS a b = some x → impl_toldSurreal k x.rowsS true = some ((sumST a b).1.rowsS, (sumST a b).2)) := by
  intro x hx
  have := fold_size hx
  rw [toldSur_eq k x (by omega) (by omega)]
  unfold sumST
  rw [hx]
theorem suSum_eq {k : Nat} {a b : S} (ga : gdS a) (gb : gdS b) (hk : a.sizeS + b.sizeS + 300 < k) (hc : a.sizeS + b.sizeS + 2 ≤ cap) : spec_suSum k a.rowsS b.rowsS = some ((sumST a b).1.rowsS, (sumST a b).2) := by
  unfold spec_suSum sumST
  rw [suPlus_eq (by omega) hc ga gb, Option.bind_some]
  cases hx : foldS a b with
  | none => rfl
  | some x =>
    have := fold_size hx
    simp only [resS, if_true]
    rw [suIf_eq k x (by omega) (by omega)]
    simp only [Option.bind_some]
    cases (toldST x).2 <;> rfl
def addST (a b : S) : S × Bool := if surP a && surP b then sumST a b else (nil, false)
theorem addST_size (a b : S) : (addST a b).1.sizeS ≤ 30 := by
  unfold addST
  split
  · exact sumST_size a b
  · simp [sizeS]
theorem iaddS_eq {k : Nat} {a b : S} (hk : a.sizeS + b.sizeS + 300 < k) (hc : a.sizeS + b.sizeS + 2 ≤ cap) : impl_AddSurreals k a.rowsS b.rowsS = some ((addST a b).1.rowsS, (addST a b).2) := by
  unfold impl_AddSurreals addST
  rw [surreals_eq k a b (by omega) (by omega) (by omega) (by omega)]
  simp only [Option.bind_some]
  cases ha : surP a with
  | false => rfl
  | true =>
    cases hb : surP b with
    | false => rfl
    | true =>
      obtain ⟨ga, fa⟩ := gd_fallsS ha
      obtain ⟨gb, fb⟩ := gd_fallsS hb
      simp only [Bool.and_self, if_true]
      rw [sum_eqS ga gb fa fb hk hc]
      simp only [Option.bind_some]
      cases hx : foldS a b with
      | none => simp only [resS, Bool.false_eq_true, if_false]; rw [toldNo_eq]; simp only [Option.bind_some, sumST, hx]; rfl
      | some x =>
        simp only [resS, if_true]
        rw [isum_told ga gb hk hc x hx]
        simp only [Option.bind_some]
        cases (sumST a b).2 <;> rfl
end Go.Proofs.Try

namespace Go.Proofs.Try
open Go Go.AX S
/-- The terms times a fraction. -/
def scaleT (m g : Int) : S → Option S
  | nil => some nil
  | cons e n d l => if frP (mulF n d m g).1 (mulF n d m g).2 = true then (scaleT m g l).map (cons e (mulF n d m g).1 (mulF n d m g).2) else none
theorem mul_nz {n d m g : Int} (h1 : frP n d = true) (h2 : frP m g = true) (hn : n ≠ 0) (hm : m ≠ 0) : (mulF n d m g).1 ≠ 0 := by
  unfold mulF mkF
  simp only
  obtain ⟨_, _, q3, q4, q5⟩ := mul_in2 h1 h2
  have hp : n * m ≠ 0 := Int.mul_ne_zero hn hm
  have hdv : (Int.gcd (n * m) (d * g) : Int) ∣ n * m := Int.gcd_dvd_left ..
  intro hz
  have := Int.tdiv_mul_cancel hdv
  rw [hz, Int.zero_mul] at this
  exact hp this.symm
theorem scale_loop {k : Nat} {a : Rw} {m g : Int} (hk : 200 < k) (hm : frP m g = true) : ∀ (t acc : S), acc.lenS + t.lenS ≤ cap → gdS t → impl_scaled_l0 k a m g (fun v => some (v, true)) t.rowsS acc.rowsS = some (resS ((scaleT m g t).map (appS acc)))
  | nil, acc, _, _ => by simp only [rowsS, impl_scaled_l0, scaleT, Option.map_some, app_nilS]; rfl
  | cons e n d l, acc, hl, gt => by
    simp only [lenS] at hl
    simp only [rowsS, impl_scaled_l0, cell_S]
    rw [MultiplyFractions_eq hk gt.2.1.1 hm, Option.bind_some]
    unfold resF
    by_cases h : frP (mulF n d m g).1 (mulF n d m g).2 = true
    · rw [if_pos h]
      simp only [if_true]
      rw [if_pos (by rw [rowsS_len]; omega), rowsS_snoc, scale_loop hk hm l _ (by rw [snocLenS]; omega) gt.2.2]
      simp only [scaleT, if_pos h]
      congr 1
      cases scaleT m g l with
      | none => rfl
      | some y => simp only [Option.map_some, app_assocS]; rfl
    · rw [if_neg h]
      simp only [scaleT, if_neg h]
      rfl
theorem scale_above {m g : Int} {q : S} : ∀ {t x : S}, aboveS q t → scaleT m g t = some x → aboveS q x
  | nil, x, _, h => by simp only [scaleT, Option.some.injEq] at h; subst h; trivial
  | cons e n d l, x, ha, h => by
    simp only [scaleT] at h
    split at h
    · cases hs : scaleT m g l with
      | none => rw [hs] at h; cases h
      | some y =>
        rw [hs] at h
        simp only [Option.map_some, Option.some.injEq] at h
        subst h
        exact ⟨ha.1, scale_above ha.2 hs⟩
    · cases h
theorem scale_size {m g : Int} : ∀ {t x : S}, scaleT m g t = some x → x.sizeS = t.sizeS
  | nil, x, h => by simp only [scaleT, Option.some.injEq] at h; subst h; rfl
  | cons e n d l, x, h => by
    simp only [scaleT] at h
    split at h
    · cases hs : scaleT m g l with
      | none => rw [hs] at h; cases h
      | some y =>
        rw [hs] at h
        simp only [Option.map_some, Option.some.injEq] at h
        subst h
        simp only [sizeS, scale_size hs]
    · cases h
def allAb : S → S → Prop
  | nil, _ => True
  | cons e _ _ l, t => aboveS e t ∧ allAb l t
theorem allAb_tail {f t : S} {m g : Int} : ∀ {acc : S}, allAb acc (cons f m g t) → allAb acc t
  | nil, _ => trivial
  | cons _ _ _ _, h => ⟨h.1.2, allAb_tail h.2⟩
theorem allAb_snoc {f t : S} {m g : Int} (hf : aboveS f t) : ∀ {acc : S}, allAb acc t → allAb (appS acc (cons f m g nil)) t
  | nil, _ => ⟨hf, trivial⟩
  | cons _ _ _ _, h => ⟨h.1, allAb_snoc hf h.2⟩
theorem put_end {f t : S} {m g m' g' : Int} : ∀ {acc : S}, allAb acc (cons f m' g' t) → putS acc f m g = some (appS acc (cons f m g nil))
  | nil, _ => rfl
  | cons e n d l, h => by
    have h1 := h.1.1
    simp only [putS]
    rw [if_neg (by omega), put_end h.2]
    rfl
/-- Exponents of a right number are right. -/
theorem sub_right {t : S} (h : surP t = true) : ∀ (i : Nat) (e : S) (n d : Int) (l : S), dropS t i = cons e n d l → surP e = true := by
  intro i e n d l hd
  simp only [surP, Bool.and_eq_true, decide_eq_true_eq] at h ⊢
  obtain ⟨⟨h1, h2⟩, h3⟩ := h
  have hs := drop_cons_sizeS hd
  have hn := nodesS_size t
  have hn2 := nodesS_size e
  have hdp := dpS_drop (t := t) (i := i)
  rw [hd] at hdp
  simp only [dpS] at hdp
  refine ⟨⟨by omega, by omega⟩, ?_⟩
  have key : ∀ (p : Option S) (t : S) (i : Nat), formS p t = true → dropS t i = cons e n d l → formS none e = true := by
    intro p t
    induction t generalizing p with
    | nil => intro i _ hq; simp at hq
    | cons x y z m _ ih =>
      intro i hf hq
      simp only [formS, Bool.and_eq_true] at hf
      cases i with
      | zero => simp only [drop_zeroS, S.cons.injEq] at hq; rw [← hq.1]; exact hf.1.1.2
      | succ i => exact ih _ i hf.2 hq
  exact key none t i h3 hd
theorem timesTerm_eq {k : Nat} {e : S} {n d m g : Int} (he : surP e = true) (h1 : frP n d = true) (h2 : frP m g = true) (hk : e.sizeS + 300 < k) (hc : e.sizeS + 2 ≤ cap) : spec_suTimesTerm k e.rowsS n d [] m g = some (e.rowsS, (mulF n d m g).1, (mulF n d m g).2, frP (mulF n d m g).1 (mulF n d m g).2) := by
  have hg := (gd_fallsS he).1
  have hs : spec_suSum k e.rowsS [] = some (e.rowsS, true) := by
    have := suSum_eq (k := k) (a := e) (b := nil) hg trivial (by simp only [sizeS]; omega) (by simp only [sizeS]; omega)
    have e2 : sumST e nil = (e, true) := by simp only [sumST, foldS]; unfold toldST; rw [he]; rfl
    rw [e2] at this
    exact this
  unfold spec_suTimesTerm
  rw [hs]
  simp only [Option.bind_some, if_true]
  rw [shMul_eq (by omega) h1 h2, Option.bind_some, shGood_eq (by omega), Option.bind_some]
  cases frP (mulF n d m g).1 (mulF n d m g).2 <;> rfl
theorem prod_one {k : Nat} {a : S} {m g : Int} (ha : surP a = true) (hm : frP m g = true) (hm0 : m ≠ 0) (hk : 2000 < k) : ∀ (t : S) (i : Nat) (acc : S), dropS a i = t → gdS acc → gdS t → fallsS t → allAb acc t → acc.sizeS + t.sizeS ≤ 100 →
    spec_suProduct_l0 k a.rowsS [[D.sl [], D.int .i64 m, D.int .i64 g]] (fun v => spec_suProduct_p3 k v) t.rowsS i acc.rowsS = (match scaleT m g t with | none => some ([], false) | some x => spec_suProduct_p3 k (appS acc x).rowsS)
  | nil, i, acc, _, _, _, _, _, _ => by simp only [rowsS, spec_suProduct_l0, scaleT, app_nilS]
  | cons e n d l, i, acc, hd, gacc, gt, ft, hab, hs => by
    have h3 : cap = 1099511627776 := rfl
    simp only [sizeS] at hs
    have he := sub_right ha i e n d l hd
    have hes := surP_size he
    simp only [rowsS, spec_suProduct_l0, cell_S]
    rw [if_pos (by simp only [List.length_cons, List.length_nil]; omega)]
    simp only [spec_suProduct_l1]
    rw [show ∀ K : Rw → Int → Int → Option (Rw × Bool), cell_sii [D.sl [], D.int .i64 m, D.int .i64 g] K = K [] m g from fun _ => rfl, timesTerm_eq he gt.2.1.1 hm (by omega) (by omega)]
    simp only [Option.bind_some]
    by_cases h : frP (mulF n d m g).1 (mulF n d m g).2 = true
    · have hz := mul_nz gt.2.1.1 hm gt.2.1.2 hm0
      rw [if_pos h, suPut_eq (by omega) (by omega) gacc gt.1 h, put_end hab]
      simp only [Option.bind_some, resS, if_true]
      have := prod_one ha hm hm0 hk l (i + 1) (appS acc (cons e (mulF n d m g).1 (mulF n d m g).2 nil)) (drop_succS hd) (putS_gd gacc gt.1 ⟨h, hz⟩ (put_end hab)) gt.2.2 ft.2 (allAb_snoc ft.1 (allAb_tail hab)) (by rw [size_appS]; simp only [sizeS]; omega)
      rw [this]
      simp only [scaleT, if_pos h]
      cases scaleT m g l with
      | none => rfl
      | some y => simp only [Option.map_some, app_assocS]; rfl
    · rw [if_neg h]
      simp only [scaleT, if_neg h]
theorem nil_right : surP nil = true := by decide
theorem prod_nil {k : Nat} {a : S} (K : Rw → Option (Rw × Bool)) : ∀ (t : S) (i : Nat), spec_suProduct_l0 k a.rowsS [] K t.rowsS i [] = K []
  | nil, i => rfl
  | cons e n d l, i => by
    simp only [rowsS, spec_suProduct_l0, cell_S]
    rw [if_pos (by simp)]
    simp only [spec_suProduct_l1]
    exact prod_nil K l (i + 1)
end Go.Proofs.Try

namespace Go.Proofs.Try
open Go Go.AX S
theorem put_falls {f : S} {m g : Int} (gf : gdS f) : ∀ {acc x : S}, gdS acc → fallsS acc → putS acc f m g = some x → fallsS x ∧ (∀ q, gdS q → aboveS q acc → cmpS q f = 1 → aboveS q x)
  | nil, x, _, _, h => by simp only [putS, Option.some.injEq] at h; subst h; exact ⟨⟨trivial, trivial⟩, fun q _ _ hq => ⟨hq, trivial⟩⟩
  | cons e n d l, x, ga, fa, h => by
    simp only [putS] at h
    have hneg := cmpS_neg e f
    have hr := cmpS_range e f
    split at h
    · split at h
      · rename_i q0
        obtain rfl := (cmpS_eq ga.1 gf).1 q0
        split at h
        · simp only [Option.some.injEq] at h
          subst h
          split
          · exact ⟨fa.2, fun q _ hq _ => hq.2⟩
          · exact ⟨⟨fa.1, fa.2⟩, fun q _ hq h1 => ⟨h1, hq.2⟩⟩
        · cases h
      · rename_i q0 q1
        simp only [Option.some.injEq] at h
        subst h
        have h1 : cmpS f e = 1 := by omega
        exact ⟨⟨⟨h1, above_trans gf ga.1 h1 ga.2.2 fa.1⟩, fa⟩, fun q _ hq h2 => ⟨h2, hq⟩⟩
    · rename_i q0
      cases hp : putS l f m g with
      | none => rw [hp] at h; cases h
      | some y =>
        rw [hp] at h
        simp only [Option.map_some, Option.some.injEq] at h
        subst h
        obtain ⟨i1, i2⟩ := put_falls gf ga.2.2 fa.2 hp
        exact ⟨⟨i2 e ga.1 fa.1 (by omega), i1⟩, fun q gq hq h2 => ⟨hq.1, i2 q gq hq.2 h2⟩⟩
/-- One product of terms, put into its place. -/
def stepM (acc e : S) (n d : Int) (f : S) (m g : Int) : Option S :=
  if (sumST e f).2 = true then (if frP (mulF n d m g).1 (mulF n d m g).2 = true then putS acc (sumST e f).1 (mulF n d m g).1 (mulF n d m g).2 else none) else none
def rowM (e : S) (n d : Int) : S → S → Option S
  | acc, nil => some acc
  | acc, cons f m g r => (stepM acc e n d f m g).bind fun x => rowM e n d x r
def prodM (b : S) : S → S → Option S
  | acc, nil => some acc
  | acc, cons e n d l => (rowM e n d acc b).bind fun x => prodM b x l
theorem sumST_right {e f : S} (h : (sumST e f).2 = true) : surP (sumST e f).1 = true := by
  unfold sumST at *
  split
  · rename_i hx; rw [hx] at h; cases h
  · rename_i x hx
    rw [hx] at h
    simp only at h ⊢
    unfold toldST at *
    split
    · rename_i q; exact q
    · rename_i q; rw [if_neg q] at h; cases h
theorem step_ok {acc e f x : S} {n d m g : Int} (h : stepM acc e n d f m g = some x) (ga : gdS acc) (fa : fallsS acc) (h1 : frP n d = true ∧ n ≠ 0) (h2 : frP m g = true ∧ m ≠ 0) : gdS x ∧ fallsS x ∧ x.sizeS ≤ acc.sizeS + 31 := by
  unfold stepM at h
  split at h
  · rename_i hs
    split at h
    · rename_i hf
      have hr := sumST_right hs
      have hg := (gd_fallsS hr).1
      have hz := surP_size hr
      have := putS_size h
      exact ⟨putS_gd ga hg ⟨hf, mul_nz h1.1 h2.1 h1.2 h2.2⟩ h, (put_falls hg ga fa h).1, by omega⟩
    · cases h
  · cases h
theorem term_eqS (e : S) {n d : Int} (hn : n ≠ 0) : impl_term e.rowsS n d = some (cons e n d nil).rowsS := by
  unfold impl_term
  rw [if_neg hn]; rfl
theorem mul_l1 {k : Nat} {a b e : S} {n d : Int} {i : Nat} {K K' : Rw → Option (Rw × Bool)} (hb : surP b = true) (he : surP e = true) (hn : frP n d = true ∧ n ≠ 0) (hk : 40000 < k) : ∀ (t : S) (j : Nat) (acc : S), dropS b j = t → gdS acc → fallsS acc → gdS t → acc.sizeS + 31 * t.lenS ≤ 30000 →
    (match rowM e n d acc t with
      | none => impl_MultiplySurreals_l1 k a.rowsS b.rowsS i e.rowsS n d K t.rowsS acc.rowsS = some ([], false) ∧ spec_suProduct_l1 k a.rowsS b.rowsS i e.rowsS n d K' t.rowsS acc.rowsS = some ([], false)
      | some x => impl_MultiplySurreals_l1 k a.rowsS b.rowsS i e.rowsS n d K t.rowsS acc.rowsS = K x.rowsS ∧ spec_suProduct_l1 k a.rowsS b.rowsS i e.rowsS n d K' t.rowsS acc.rowsS = K' x.rowsS ∧ gdS x ∧ fallsS x ∧ x.sizeS ≤ acc.sizeS + 31 * t.lenS)
  | nil, j, acc, _, ga, fa, _, _ => ⟨rfl, rfl, ga, fa, by simp [lenS]⟩
  | cons f m g r, j, acc, hd, ga, fa, gt, hs => by
    have h3 : cap = 1099511627776 := rfl
    simp only [lenS] at hs
    have hf := sub_right hb j f m g r hd
    have zf := surP_size hf
    have ze := surP_size he
    have ge := (gd_fallsS he).1
    have gf := (gd_fallsS hf).1
    have e1 := iaddS_eq (k := k) (a := e) (b := f) (by omega) (by omega)
    have e2 : addST e f = sumST e f := by unfold addST; rw [he, hf]; rfl
    rw [e2] at e1
    have e3 := suSum_eq (k := k) ge gf (by omega) (by omega)
    have e4 := MultiplyFractions_eq (k := k) (by omega) hn.1 gt.2.1.1
    have e5 := shMul_eq (k := k) (by omega) hn.1 gt.2.1.1
    have e6 := shGood_eq (k := k) (by omega) (mulF n d m g).1 (mulF n d m g).2
    simp only [rowsS, impl_MultiplySurreals_l1, spec_suProduct_l1, cell_S]
    unfold spec_suTimesTerm
    rw [e1, e3, e4, e5]
    simp only [Option.bind_some]
    rw [e6]
    simp only [Option.bind_some, rowM]
    by_cases q1 : (sumST e f).2 = true
    · rw [if_pos q1, if_pos q1]
      by_cases q2 : frP (mulF n d m g).1 (mulF n d m g).2 = true
      · have hstep : stepM acc e n d f m g = putS acc (sumST e f).1 (mulF n d m g).1 (mulF n d m g).2 := by unfold stepM; rw [if_pos q1, if_pos q2]
        have hr := sumST_right q1
        have hg := (gd_fallsS hr).1
        have hz := surP_size hr
        have hnz := mul_nz hn.1 gt.2.1.1 hn.2 gt.2.1.2
        have gone : gdS (cons (sumST e f).1 (mulF n d m g).1 (mulF n d m g).2 nil) := ⟨hg, ⟨q2, hnz⟩, trivial⟩
        have e7 := sum_eqS (k := k) ga gone fa ⟨trivial, trivial⟩ (by simp only [sizeS]; omega) (by simp only [sizeS]; omega)
        have e8 : foldS acc (cons (sumST e f).1 (mulF n d m g).1 (mulF n d m g).2 nil) = putS acc (sumST e f).1 (mulF n d m g).1 (mulF n d m g).2 := by
          simp only [foldS]
          cases putS acc (sumST e f).1 (mulF n d m g).1 (mulF n d m g).2 <;> rfl
        rw [e8] at e7
        have e9 := suPut_eq (k := k) (a := acc) (f := (sumST e f).1) (m := (mulF n d m g).1) (g := (mulF n d m g).2) (by omega) (by omega) ga hg q2
        unfold resF
        rw [if_pos q2, if_pos q2]
        simp only [Option.bind_some, if_true]
        rw [term_eqS _ hnz]
        simp only [Option.bind_some]
        rw [e7, e9]
        simp only [Option.bind_some]
        cases hp : putS acc (sumST e f).1 (mulF n d m g).1 (mulF n d m g).2 with
        | none =>
          rw [hstep, hp]
          exact ⟨rfl, rfl⟩
        | some x =>
          rw [hstep, hp]
          obtain ⟨x1, x2, x3⟩ := step_ok (hstep.trans hp) ga fa hn gt.2.1
          simp only [resS, if_true, Option.bind_some]
          have ih := mul_l1 (a := a) (i := i) (K := K) (K' := K') hb he hn hk r (j + 1) x (drop_succS hd) x1 x2 gt.2.2 (by omega)
          cases hr : rowM e n d x r with
          | none => rw [hr] at ih; exact ih
          | some y =>
            rw [hr] at ih
            exact ⟨ih.1, ih.2.1, ih.2.2.1, ih.2.2.2.1, by have := ih.2.2.2.2; simp only [lenS]; omega⟩
      · have hstep : stepM acc e n d f m g = none := by unfold stepM; rw [if_pos q1, if_neg q2]
        rw [hstep]
        unfold resF
        rw [if_neg q2, if_neg q2]
        exact ⟨rfl, rfl⟩
    · have hstep : stepM acc e n d f m g = none := by unfold stepM; rw [if_neg q1]
      rw [hstep, if_neg q1, if_neg q1]
      simp only [Option.bind_none, Option.bind_some, Bool.false_eq_true, if_false]
      refine ⟨?_, trivial⟩
      split <;> rfl
theorem mul_l0 {k : Nat} {a b : S} (ha : surP a = true) (hb : surP b = true) (hk : 40000 < k) : ∀ (t : S) (i : Nat) (acc : S), dropS a i = t → gdS acc → fallsS acc → gdS t → acc.sizeS + 31 * 30 * t.lenS ≤ 29000 →
    (match prodM b acc t with
      | none => impl_MultiplySurreals_l0 k a.rowsS b.rowsS (fun v => impl_MultiplySurreals_p4 k v) t.rowsS i acc.rowsS = some ([], false) ∧ spec_suProduct_l0 k a.rowsS b.rowsS (fun v => spec_suProduct_p3 k v) t.rowsS i acc.rowsS = some ([], false)
      | some x => impl_MultiplySurreals_l0 k a.rowsS b.rowsS (fun v => impl_MultiplySurreals_p4 k v) t.rowsS i acc.rowsS = impl_MultiplySurreals_p4 k x.rowsS ∧ spec_suProduct_l0 k a.rowsS b.rowsS (fun v => spec_suProduct_p3 k v) t.rowsS i acc.rowsS = spec_suProduct_p3 k x.rowsS ∧ x.sizeS ≤ 29000)
  | nil, i, acc, _, _, _, _, h => ⟨rfl, rfl, by simp only [lenS] at h; omega⟩
  | cons e n d l, i, acc, hd, ga, fa, gt, hs => by
    have h3 : cap = 1099511627776 := rfl
    simp only [lenS] at hs
    have he := sub_right ha i e n d l hd
    have gb := (gd_fallsS hb).1
    have zb := surP_size hb
    have lb := b.len_sizeS
    have h1 := mul_l1 (k := k) (a := a) (b := b) (e := e) (n := n) (d := d) (i := i) (K := fun v => impl_MultiplySurreals_l0 k a.rowsS b.rowsS (fun v => impl_MultiplySurreals_p4 k v) l.rowsS (i + 1) v) (K' := fun v => spec_suProduct_l0 k a.rowsS b.rowsS (fun v => spec_suProduct_p3 k v) l.rowsS (i + 1) v) hb he gt.2.1 hk b 0 acc (drop_zeroS b) ga fa gb (by omega)
    simp only [rowsS, impl_MultiplySurreals_l0, spec_suProduct_l0, cell_S, prodM]
    rw [if_pos (by rw [rowsS_len]; omega), if_pos (by rw [rowsS_len]; omega)]
    cases hr : rowM e n d acc b with
    | none => rw [hr] at h1; exact h1
    | some x =>
      rw [hr] at h1
      obtain ⟨q1, q2, q3, q4, q5⟩ := h1
      simp only [Option.bind_some]
      have ih := mul_l0 ha hb hk l (i + 1) x (drop_succS hd) q3 q4 gt.2.2 (by omega)
      cases hp : prodM b x l with
      | none => rw [hp] at ih; exact ⟨q1.trans ih.1, q2.trans ih.2⟩
      | some y => rw [hp] at ih; exact ⟨q1.trans ih.1, q2.trans ih.2.1, ih.2.2⟩
end Go.Proofs.Try

namespace Go.Proofs.Try
open Go Go.AX S
def mulP (a b : S) : S × Bool := match prodM b nil a with
  | none => (nil, false)
  | some x => toldST x
theorem nil_rightS : surP nil = true := by decide
theorem toldST_right (x : S) : surP (toldST x).1 = true := by
  unfold toldST
  cases h : surP x with
  | false => exact nil_rightS
  | true => exact h
theorem toldST_no {x : S} (h : (toldST x).2 = false) : (toldST x).1 = nil := by
  unfold toldST at *
  cases hx : surP x with
  | false => rfl
  | true => rw [hx] at h; cases h
theorem mulP_right (a b : S) : surP (mulP a b).1 = true := by
  unfold mulP
  split
  · exact nil_rightS
  · exact toldST_right _
theorem mulP_no {a b : S} (h : (mulP a b).2 = false) : (mulP a b).1 = nil := by
  unfold mulP at *
  split
  · rfl
  · rename_i x hx; rw [hx] at h; exact toldST_no h
theorem mulP_eq {k : Nat} {a b : S} (ha : surP a = true) (hb : surP b = true) (hk : 40000 < k) : impl_MultiplySurreals k a.rowsS b.rowsS = some ((mulP a b).1.rowsS, (mulP a b).2) ∧ spec_suProduct k a.rowsS b.rowsS = some ((mulP a b).1.rowsS, (mulP a b).2) := by
  have h3 : cap = 1099511627776 := rfl
  obtain ⟨ga, fa⟩ := gd_fallsS ha
  have za := surP_size ha
  have zb := surP_size hb
  have la := a.len_sizeS
  unfold impl_MultiplySurreals
  rw [surreals_eq k a b (by omega) (by omega) (by omega) (by omega), ha, hb]
  simp only [Option.bind_some, Bool.and_self, if_true]
  unfold impl_MultiplySurreals_p2 spec_suProduct
  rw [if_pos (by rw [rowsS_len]; omega), if_pos (by rw [rowsS_len]; omega)]
  have h1 := mul_l0 (k := k) ha hb hk a 0 nil (drop_zeroS a) trivial trivial ga (by simp only [sizeS]; omega)
  rw [show nil.rowsS = ([] : Rw) from rfl] at h1
  unfold mulP
  cases hp : prodM b nil a with
  | none =>
    rw [hp] at h1
    exact h1
  | some x =>
    rw [hp] at h1
    have hz := h1.2.2
    rw [h1.1, h1.2.1]
    unfold impl_MultiplySurreals_p4 impl_MultiplySurreals_p5 spec_suProduct_p3 spec_suProduct_p4
    rw [toldSur_eq k x (by omega) (by omega), suIf_eq k x (by omega) (by omega)]
    refine ⟨?_, ?_⟩ <;> (simp only [Option.bind_some]; cases (toldST x).2 <;> rfl)
theorem form_weak {p : Option S} {t : S} (h : formS p t = true) : formS none t = true := by
  cases t with
  | nil => rfl
  | cons e n d l =>
    simp only [formS, Bool.and_eq_true] at h ⊢
    exact ⟨⟨h.1.1, trivial⟩, h.2⟩
theorem drop_right {t : S} (h : surP t = true) (i : Nat) : surP (dropS t i) = true := by
  simp only [surP, Bool.and_eq_true, decide_eq_true_eq] at h ⊢
  have hs := drop_sizeS (t := t) (i := i)
  have n1 := nodesS_size t
  have n2 := nodesS_size (dropS t i)
  have hd := dpS_drop (t := t) (i := i)
  refine ⟨⟨by omega, by omega⟩, ?_⟩
  have key : ∀ (t : S) (p : Option S) (i : Nat), formS p t = true → formS none (dropS t i) = true := by
    intro t
    induction t with
    | nil => intro p i _; cases i <;> rfl
    | cons e n d l _ ih =>
      intro p i hf
      cases i with
      | zero => exact form_weak hf
      | succ i => simp only [formS, Bool.and_eq_true] at hf; exact ih _ i hf.2
  exact key t none i h.2
def negl (r m : S) : Bool := match r, m with
  | cons e _ _ _, cons f _ _ _ => decide (cmpS e f < 0)
  | _, _ => false
theorem smul_m {k : Nat} {a b : S} (ha : surP a = true) (hb : surP b = true) (hk : 40000 < k) : spec_seChecked_mul k false a.rowsS b.rowsS = some ((mulP a b).1.rowsS, !(mulP a b).2) := by
  unfold spec_seChecked_mul spec_seChecked_keep
  rw [(mulP_eq ha hb hk).2]
  simp only [Option.bind_some]
  cases h : (mulP a b).2 with
  | true => rfl
  | false => rw [mulP_no h]; rfl
theorem sumST_right2 (a b : S) : surP (sumST a b).1 = true := by
  unfold sumST
  split
  · exact nil_rightS
  · exact toldST_right _
theorem sumST_no {a b : S} (h : (sumST a b).2 = false) : (sumST a b).1 = nil := by
  unfold sumST at *
  split
  · rfl
  · rename_i x hx; rw [hx] at h; exact toldST_no h
theorem sadd_m {k : Nat} {a b : S} {bad : Bool} (ha : surP a = true) (hb : surP b = true) (hk : 40000 < k) : spec_seChecked_add k bad a.rowsS b.rowsS = some ((if bad = true then nil else (sumST a b).1).rowsS, bad || !(sumST a b).2) := by
  have h3 : cap = 1099511627776 := rfl
  have za := surP_size ha
  have zb := surP_size hb
  unfold spec_seChecked_add spec_seChecked_keep
  rw [suSum_eq (gd_fallsS ha).1 (gd_fallsS hb).1 (by omega) (by omega)]
  simp only [Option.bind_some]
  cases h : (sumST a b).2 with
  | true => cases bad <;> rfl
  | false => cases bad <;> (rw [sumST_no h]; rfl)
end Go.Proofs.Try

namespace Go.Proofs.Try
open Go Go.AX S
def oneS : S := cons nil 1 1 nil
theorem one_rightS : surP oneS = true := by decide
def powS (x : S) : Nat → S → S × Bool
  | 0, out => (out, false)
  | n + 1, out => if (mulP out x).2 = true then powS x n (mulP out x).1 else (nil, true)
theorem pow_right {x : S} (hx : surP x = true) : ∀ (n : Nat) (out : S), surP out = true → surP (powS x n out).1 = true
  | 0, _, h => h
  | n + 1, out, h => by
    simp only [powS]
    split
    · exact pow_right hx n _ (mulP_right out x)
    · exact nil_rightS
theorem smul_b {k : Nat} {a b : S} {bad : Bool} (ha : surP a = true) (hb : surP b = true) (hk : 40000 < k) : spec_seChecked_mul k bad a.rowsS b.rowsS = some ((if bad = true then nil else (mulP a b).1).rowsS, bad || !(mulP a b).2) := by
  unfold spec_seChecked_mul spec_seChecked_keep
  rw [(mulP_eq ha hb hk).2]
  simp only [Option.bind_some]
  cases h : (mulP a b).2 with
  | true => cases bad <;> rfl
  | false => cases bad <;> (rw [mulP_no h]; rfl)
end Go.Proofs.Try

namespace Go.Proofs.Try
open Go Go.AX S
theorem imul_m2 {k : Nat} {a b : S} {bad : Bool} (ha : surP a = true) (hb : surP b = true) (hk : 40000 < k) : impl_maker_mul k bad a.rowsS b.rowsS = some ((mulP a b).1.rowsS, bad || !(mulP a b).2) := by
  unfold impl_maker_mul impl_maker_take_2
  rw [(mulP_eq ha hb hk).1]
  simp only [Option.bind_some]
  cases (mulP a b).2 <;> cases bad <;> rfl
theorem ipow_loop2 {k : Nat} {x : S} (hx : surP x = true) (hk : 40000 < k) : ∀ (m n : Nat) (i N : Int) (out : S), surP out = true → 0 ≤ i → i + m = N → N ≤ 100 → m + 1 < n →
    impl_maker_power_l0 k x.rowsS N (fun v17 v19 => cond v19 (some (v17, true)) (some (v17, false))) n i false out.rowsS = some ((powS x m out).1.rowsS, (powS x m out).2)
  | _, 0, _, _, _, _, _, _, _, h => absurd h (by omega)
  | 0, n + 1, i, N, out, _, _, hN, _, _ => by
    simp only [impl_maker_power_l0, cond_false]
    rw [if_neg (by omega)]; rfl
  | m + 1, n + 1, i, N, out, ho, hi, hN, hM, hn => by
    simp only [impl_maker_power_l0, cond_false]
    rw [if_pos (by omega), imul_m2 ho hx hk]
    simp only [Option.bind_some, Bool.false_or, powS]
    rw [wid (by omega) (by omega)]
    cases h : (mulP out x).2 with
    | true =>
      simp only [Bool.not_true, if_true]
      exact ipow_loop2 hx hk m n (i + 1) N _ (mulP_right out x) (by omega) (by omega) hM (by omega)
    | false =>
      obtain ⟨j, rfl⟩ : ∃ j, n = j + 1 := ⟨n - 1, by omega⟩
      rw [mulP_no h]
      simp only [Bool.not_false, Bool.false_eq_true, if_false, impl_maker_power_l0, cond_true]
      split <;> rfl
theorem ipow_eq2 {k m : Nat} {N : Int} {x : S} (hx : surP x = true) (hk : 40000 < k) (hm : (m : Int) = N) (hM : m ≤ 100) : impl_maker_power k false x.rowsS N = some ((powS x m oneS).1.rowsS, (powS x m oneS).2) := by
  have := ipow_loop2 hx hk m k 0 N oneS one_rightS (by omega) (by omega) (by omega) (by omega)
  exact this
theorem powS_bad {x : S} : ∀ (m : Nat) (out : S), (powS x m out).2 = true → (powS x m out).1 = nil
  | 0, _, h => by cases h
  | m + 1, out, h => by
    simp only [powS] at h ⊢
    split at h
    · rename_i g; rw [if_pos g]; exact powS_bad m _ h
    · rename_i g; rw [if_neg g]
end Go.Proofs.Try

namespace Go.Proofs.Try
theorem bind_of {α β : Type} {o : Option α} {y : α} {K : α → Option β} {r : Option β} (h : o = some y) (hk : K y = r) : o.bind K = r := by rw [h]; exact hk
theorem ite_pos {α : Type} {c : Prop} [Decidable c] {a b r : α} (h : c) (hk : a = r) : (if c then a else b) = r := by rw [if_pos h]; exact hk
theorem ite_neg {α : Type} {c : Prop} [Decidable c] {a b r : α} (h : ¬ c) (hk : b = r) : (if c then a else b) = r := by rw [if_neg h]; exact hk
theorem cond_tt {α : Type} {a b r : α} (h : a = r) : cond true a b = r := h
theorem cond_ff {α : Type} {a b r : α} (h : b = r) : cond false a b = r := h
end Go.Proofs.Try

namespace Go.Proofs.Try
open Go Go.AX
theorem mk_ok {n d : Int} (hd : 0 < d) : ∃ g : Int, 0 < g ∧ n = (mkF n d).1 * g ∧ d = (mkF n d).2 * g ∧ Int.gcd (mkF n d).1 (mkF n d).2 = 1 ∧ 0 < (mkF n d).2 := by
  have hg := gcd_ne (n := n) hd
  have h1 : (Int.gcd n d : Int) ∣ n := Int.gcd_dvd_left ..
  have h2 : (Int.gcd n d : Int) ∣ d := Int.gcd_dvd_right ..
  have gp : 0 < (Int.gcd n d : Int) := by omega
  have e1 : n.tdiv (Int.gcd n d : Int) = n / (Int.gcd n d : Int) := Int.tdiv_eq_ediv_of_dvd h1
  have e2 : d.tdiv (Int.gcd n d : Int) = d / (Int.gcd n d : Int) := Int.tdiv_eq_ediv_of_dvd h2
  refine ⟨(Int.gcd n d : Int), gp, ?_, ?_, ?_, ?_⟩
  · simp only [mkF]; rw [e1]; exact (Int.ediv_mul_cancel h1).symm
  · simp only [mkF]; rw [e2]; exact (Int.ediv_mul_cancel h2).symm
  · simp only [mkF]; rw [e1, e2]
    exact Int.gcd_ediv_gcd_ediv_gcd (by omega)
  · simp only [mkF]; rw [e2]
    have := Int.ediv_mul_cancel h2
    rcases Int.lt_or_le 0 (d / (Int.gcd n d : Int)) with q | q
    · exact q
    · have := Int.mul_nonpos_of_nonpos_of_nonneg q (Int.le_of_lt gp)
      omega
theorem pow_dvd2 {i j : Nat} (h : i ≤ j) : (2 : Int) ^ i ∣ 2 ^ j := ⟨2 ^ (j - i), by rw [← Int.pow_add]; congr 1; omega⟩
theorem cop_dvd {s t x : Int} (h : t ∣ s * x) (hg : Int.gcd s t = 1) : t ∣ x := by
  have h1 : t.natAbs ∣ s.natAbs * x.natAbs := by
    have := Int.natAbs_dvd_natAbs.2 h
    rwa [Int.natAbs_mul] at this
  have h2 : Nat.Coprime t.natAbs s.natAbs := by
    unfold Nat.Coprime
    rw [Nat.gcd_comm]
    exact hg
  exact Int.natAbs_dvd_natAbs.1 (h2.dvd_of_dvd_mul_left h1)
/-- A number behind i letters. -/
def okV (i : Nat) (p : Int × Int) : Prop := 1 ≤ p.2 ∧ p.2 ∣ (2 : Int) ^ i ∧ (-((i : Int) * p.2) ≤ p.1 ∧ p.1 ≤ (i : Int) * p.2) ∧ Int.gcd p.1 p.2 = 1
theorem okV_mono {i j : Nat} {p : Int × Int} (h : okV i p) (hij : i ≤ j) : okV j p := by
  obtain ⟨h1, h2, h3, h4⟩ := h
  have : (i : Int) * p.2 ≤ (j : Int) * p.2 := Int.mul_le_mul_of_nonneg_right (by omega) (by omega)
  exact ⟨h1, Int.dvd_trans h2 (pow_dvd2 hij), ⟨by omega, by omega⟩, h4⟩
theorem okV_den {i : Nat} {p : Int × Int} (h : okV i p) (hi : i ≤ 20) : p.2 ≤ 1048576 := by
  have h1 := Int.le_of_dvd (Int.pow_pos (by decide)) h.2.1
  have h2 : (2 : Int) ^ i ≤ 2 ^ 20 := by
    have := Nat.pow_le_pow_right (n := 2) (by decide) hi
    exact_mod_cast this
  have h3 : (2 : Int) ^ 20 = 1048576 := by decide
  omega
theorem okV_num {i : Nat} {p : Int × Int} (h : okV i p) (hi : i ≤ 20) : -20971520 ≤ p.1 ∧ p.1 ≤ 20971520 := by
  have h1 := okV_den h hi
  have h2 : (i : Int) * p.2 ≤ 20 * 1048576 := Int.mul_le_mul (by omega) h1 (by have := h.1; omega) (by decide)
  have h3 := h.2.2.1
  omega
theorem okV_zero : okV 0 (0, 1) := ⟨by decide, by decide, by decide, by decide⟩
/-- Numbers with small parts: sums and products are what they are in whole numbers. -/
def smF (p : Int × Int) : Prop := (-4000000000000 ≤ p.1 ∧ p.1 ≤ 4000000000000) ∧ 1 ≤ p.2 ∧ p.2 ≤ 2000000
theorem addV {k : Nat} {n d m g : Int} (hk : 200 < k) (hn : -30000000 ≤ n ∧ n ≤ 30000000) (hd : 1 ≤ d ∧ d ≤ 2000000) (hm : -30000000 ≤ m ∧ m ≤ 30000000) (hg : 1 ≤ g ∧ g ≤ 2000000) : spec_shAdd k n d m g = some (addF n d m g) := by
  have a := prod_in (B := 30000000) (C := 2000000) hn (show 0 ≤ g ∧ g ≤ 2000000 by omega)
  have b := prod_in (B := 30000000) (C := 2000000) hm (show 0 ≤ d ∧ d ≤ 2000000 by omega)
  have c := prod_in (B := 2000000) (C := 2000000) (show -2000000 ≤ d ∧ d ≤ 2000000 by omega) (show 0 ≤ g ∧ g ≤ 2000000 by omega)
  have cp : 0 < d * g := Int.mul_pos (by omega) (by omega)
  unfold spec_shAdd
  rw [wrap_in (n := n * g) (by omega) (by omega), wrap_in (n := m * d) (by omega) (by omega), wrap_in (n := n * g + m * d) (by omega) (by omega), wrap_in (n := d * g) (by omega) (by omega)]
  rw [shMake_eq hk cp (by omega) (by omega)]
  rfl
theorem halfV {k : Nat} {n d : Int} (hk : 200 < k) (hn : -4000000000000000 ≤ n ∧ n ≤ 4000000000000000) (hd : 1 ≤ d ∧ d ≤ 4000000000000000) : spec_shMul k n d 1 2 = some (mkF n (d * 2)) := by
  unfold spec_shMul
  rw [Int.mul_one, wrap_in (n := n) (by omega) (by omega), wrap_in (n := d * 2) (by omega) (by omega), shMake_eq hk (by omega) (by omega) (by omega)]
  rfl
theorem le_cancel {a b g : Int} (hg : 0 < g) (h : a * g ≤ b * g) : a ≤ b := Int.le_of_mul_le_mul_right h hg
/-- The number in the middle. -/
theorem mid_ok {i : Nat} {l h : Int × Int} (hl : okV i l) (hh : okV i h) : okV (i + 1) (mkF (addF l.1 l.2 h.1 h.2).1 ((addF l.1 l.2 h.1 h.2).2 * 2)) ∧ 1 ≤ (addF l.1 l.2 h.1 h.2).2 := by
  obtain ⟨l1, ⟨a, ha⟩, l3, l4⟩ := hl
  obtain ⟨h1, ⟨b, hb⟩, h3, h4⟩ := hh
  have dp : 0 < l.2 * h.2 := Int.mul_pos (by omega) (by omega)
  obtain ⟨g, g0, g1, g2, g3, g4⟩ := mk_ok (n := l.1 * h.2 + h.1 * l.2) dp
  unfold addF
  generalize mkF (l.1 * h.2 + h.1 * l.2) (l.2 * h.2) = p at g1 g2 g3 g4
  obtain ⟨s, t⟩ := p
  simp only at g1 g2 g3 g4 ⊢
  -- t divides 2 ^ i
  have key : t * (l.1 * a + h.1 * b) = s * 2 ^ i := by
    have e : (t * (l.1 * a + h.1 * b)) * g = (s * 2 ^ i) * g := by
      have q1 : (t * (l.1 * a + h.1 * b)) * g = (t * g) * (l.1 * a + h.1 * b) := by rw [Int.mul_right_comm]
      have q2 : (s * 2 ^ i) * g = (s * g) * 2 ^ i := by rw [Int.mul_right_comm]
      rw [q1, q2, ← g1, ← g2, Int.mul_add, Int.add_mul]
      have r1 : l.2 * h.2 * (l.1 * a) = l.1 * h.2 * 2 ^ i := by rw [ha]; simp only [Int.mul_comm, Int.mul_left_comm]
      have r2 : l.2 * h.2 * (h.1 * b) = h.1 * l.2 * 2 ^ i := by rw [hb]; simp only [Int.mul_comm, Int.mul_left_comm]
      rw [r1, r2]
    exact Int.eq_of_mul_eq_mul_right (by omega) e
  have tdvd : t ∣ 2 ^ i := by
    have : t ∣ s * 2 ^ i := ⟨_, key.symm⟩
    exact cop_dvd this g3
  -- the sum is within 2 i
  have i0 : (0 : Int) ≤ i := Int.natCast_nonneg i
  have b1 : l.1 * h.2 ≤ (i : Int) * l.2 * h.2 := Int.mul_le_mul_of_nonneg_right l3.2 (by omega)
  have b2 : -((i : Int) * l.2) * h.2 ≤ l.1 * h.2 := Int.mul_le_mul_of_nonneg_right l3.1 (by omega)
  have b3 : h.1 * l.2 ≤ (i : Int) * h.2 * l.2 := Int.mul_le_mul_of_nonneg_right h3.2 (by omega)
  have b4 : -((i : Int) * h.2) * l.2 ≤ h.1 * l.2 := Int.mul_le_mul_of_nonneg_right h3.1 (by omega)
  have c1 : (i : Int) * h.2 * l.2 = (i : Int) * (l.2 * h.2) := by rw [Int.mul_assoc, Int.mul_comm h.2]
  have c2 : (i : Int) * l.2 * h.2 = (i : Int) * (l.2 * h.2) := by rw [Int.mul_assoc]
  rw [Int.neg_mul] at b2 b4
  rw [c2] at b1 b2
  rw [c1] at b3 b4
  rw [g2] at b1 b2 b3 b4
  have s1 : s * g ≤ (2 * i * t) * g := by
    have : (2 * (i : Int) * t) * g = (i : Int) * (t * g) + (i : Int) * (t * g) := by
      rw [← Int.two_mul, ← Int.mul_assoc, ← Int.mul_assoc]
    rw [this, ← g1]; omega
  have s2 : -(2 * i * t) * g ≤ s * g := by
    have : -(2 * (i : Int) * t) * g = -((i : Int) * (t * g) + (i : Int) * (t * g)) := by
      rw [← Int.two_mul, Int.neg_mul, ← Int.mul_assoc, ← Int.mul_assoc]
    rw [this, ← g1]; omega
  have s1 := le_cancel g0 s1
  have s2 := le_cancel g0 s2
  refine ⟨?_, by omega⟩
  obtain ⟨g', f0, f1, f2, f3, f4⟩ := mk_ok (n := s) (d := t * 2) (by omega)
  generalize mkF s (t * 2) = q at f1 f2 f3 f4
  obtain ⟨u, v⟩ := q
  simp only at f1 f2 f3 f4 ⊢
  refine ⟨by simp only; omega, ?_, ?_, f3⟩
  · simp only
    have : v ∣ t * 2 := ⟨g', f2⟩
    rw [Int.pow_succ]
    exact Int.dvd_trans this (Int.mul_dvd_mul tdvd (Int.dvd_refl 2))
  · simp only
    have w1 : u * g' ≤ ((i : Int) * v) * g' := by
      have : ((i : Int) * v) * g' = 2 * i * t := by rw [Int.mul_assoc, ← f2]; simp only [Int.mul_comm, Int.mul_left_comm]
      rw [this, ← f1]; exact s1
    have w2 : -((i : Int) * v) * g' ≤ u * g' := by
      have : -((i : Int) * v) * g' = -(2 * i * t) := by rw [Int.neg_mul, Int.mul_assoc, ← f2]; simp only [Int.mul_comm, Int.mul_left_comm]
      rw [this, ← f1]; exact s2
    have w1 := le_cancel f0 w1
    have w2 := le_cancel f0 w2
    have : ((i + 1 : Nat) : Int) * v = (i : Int) * v + v := by rw [Int.natCast_add, Int.add_mul]; simp
    omega
/-- A step beside. -/
theorem beside_ok {i : Nat} {p : Int × Int} (hp : okV i p) {c : Int} (hc : c = 1 ∨ c = -1) : okV (i + 1) (addF p.1 p.2 c 1) := by
  obtain ⟨h1, h2, h3, h4⟩ := hp
  obtain ⟨g, g0, g1, g2, g3, g4⟩ := mk_ok (n := p.1 * 1 + c * p.2) (d := p.2 * 1) (by omega)
  unfold addF
  generalize mkF (p.1 * 1 + c * p.2) (p.2 * 1) = q at g1 g2 g3 g4
  obtain ⟨u, v⟩ := q
  simp only at g1 g2 g3 g4 ⊢
  have e : (i : Int) * v * g = (i : Int) * p.2 := by rw [Int.mul_assoc, ← g2, Int.mul_one]
  have e2 : v * g = p.2 := by rw [← g2, Int.mul_one]
  refine ⟨by simp only; omega, ?_, ?_, g3⟩
  · simp only
    have : v ∣ p.2 := ⟨g, by rw [← e2]⟩
    exact Int.dvd_trans this (Int.dvd_trans h2 (pow_dvd2 (by omega)))
  · simp only
    have ex : ((i + 1 : Nat) : Int) * v * g = (i : Int) * p.2 + p.2 := by rw [Int.natCast_add, Int.add_mul, Int.add_mul, e]; simp [e2]
    have c2 : -p.2 ≤ c * p.2 ∧ c * p.2 ≤ p.2 := by rcases hc with rfl | rfl <;> constructor <;> omega
    have w1 : u * g ≤ (((i + 1 : Nat) : Int) * v) * g := by rw [ex, ← g1]; omega
    have w2 : -(((i + 1 : Nat) : Int) * v) * g ≤ u * g := by rw [Int.neg_mul, ex, ← g1]; omega
    exact ⟨le_cancel g0 w2, le_cancel g0 w1⟩
end Go.Proofs.Try

namespace Go.Proofs.Try
open Go Go.AX
/-- A list of pairs of integers. -/
inductive Fl where
  | nil
  | cons (n d : Int) (l : Fl)
namespace Fl
def rowsL : Fl → Rw
  | nil => []
  | cons n d l => [.int .i64 n, .int .i64 d] :: rowsL l
def lenL : Fl → Nat
  | nil => 0
  | cons _ _ l => lenL l + 1
def sizeL (t : Fl) : Nat := lenL t
def appL : Fl → Fl → Fl
  | nil, b => b
  | cons n d l, b => cons n d (appL l b)
def dropL : Fl → Nat → Fl
  | t, 0 => t
  | nil, _ + 1 => nil
  | cons _ _ l, n + 1 => dropL l n
theorem rowsL_len (t : Fl) : t.rowsL.length = t.lenL := by
  induction t with
  | nil => rfl
  | cons n d l ih => simp [rowsL, lenL, ih]
theorem rows_appL (a b : Fl) : (appL a b).rowsL = a.rowsL ++ b.rowsL := by
  induction a with
  | nil => rfl
  | cons n d l ih => simp [appL, rowsL, ih]
theorem app_assocL (a b c : Fl) : appL (appL a b) c = appL a (appL b c) := by
  induction a with
  | nil => rfl
  | cons n d l ih => simp [appL, ih]
theorem app_nilL (a : Fl) : appL a nil = a := by
  induction a with
  | nil => rfl
  | cons n d l ih => simp [appL, ih]
theorem len_appL (a b : Fl) : (appL a b).lenL = a.lenL + b.lenL := by
  induction a with
  | nil => simp [appL, lenL]
  | cons n d l ih => simp [appL, lenL, ih]; omega
theorem drop_zeroL (t : Fl) : dropL t 0 = t := by cases t <;> rfl
theorem drop_appL (l r : Fl) : dropL (appL l r) l.lenL = r := by
  induction l with
  | nil => exact drop_zeroL r
  | cons n d l ih => exact ih
theorem rows_dropL (t : Fl) (i : Nat) : (dropL t i).rowsL = t.rowsL.drop i := by
  induction t generalizing i with
  | nil => cases i <;> simp [dropL, rowsL]
  | cons n d l ih => cases i with
    | zero => rfl
    | succ i => exact ih i
theorem drop_succL {t : Fl} {i : Nat} {n d : Int} {l : Fl} (h : dropL t i = cons n d l) : dropL t (i + 1) = l := by
  induction t generalizing i with
  | nil => cases i <;> cases h
  | cons n' d' l' ih =>
    cases i with
    | zero => simp only [dropL, cons.injEq] at h ⊢; first | exact h.2.2 | (rw [drop_zeroL]; exact h.2.2)
    | succ i => exact ih h
theorem drop_lenL (t : Fl) (i : Nat) : (dropL t i).lenL = t.lenL - i := by rw [← rowsL_len, rows_dropL, List.length_drop, rowsL_len]
theorem rows_getL {t : Fl} {i : Nat} {n d : Int} {l : Fl} (h : dropL t i = cons n d l) : t.rowsL[i]? = some [.int .i64 n, .int .i64 d] := by
  have := rows_dropL t i
  rw [h] at this
  have h2 : (t.rowsL.drop i)[0]? = some [.int .i64 n, .int .i64 d] := by rw [← this]; rfl
  rwa [List.getElem?_drop, Nat.add_zero] at h2
end Fl
open Fl
theorem row_L {α : Type} {t : Fl} {i : Int} {j : Nat} (hi : i = j) {n d : Int} {l : Fl} (h : dropL t j = .cons n d l) (K : Int → Int → Option α) : row_ii t.rowsL i K = K n d := by
  subst hi
  unfold row_ii
  rw [if_pos (by omega), Int.toNat_natCast, rows_getL h]; rfl
theorem cell_L {α : Type} (n d : Int) (K : Int → Int → Option α) : cell_ii [D.int .i64 n, D.int .i64 d] K = K n d := rfl
theorem lenLI (t : Fl) : ((t.rowsL.length : Nat) : Int) = (t.lenL : Int) := by rw [rowsL_len]
def fitL (_ : Fl) : Prop := True
def mkL : Fl → Int → Fl
  | .nil, _ => .nil
  | .cons _ _ l, k => .cons k (k + 1) (mkL l (k + 2))
theorem mkL_len (t : Fl) (k : Int) : (mkL t k).lenL = t.lenL := by
  induction t generalizing k with
  | nil => rfl
  | cons n d l ih => simp [mkL, lenL, ih]
theorem set_rowsL (l r : Fl) (n d n' d' : Int) : (appL l (.cons n d r)).rowsL.set l.lenL [D.int .i64 n', D.int .i64 d'] = (appL l (.cons n' d' r)).rowsL := by
  rw [rows_appL, rows_appL, ← rowsL_len l, List.set_append_right (h := Nat.le_refl _), Nat.sub_self]; rfl
end Go.Proofs.Try

namespace Go.Proofs.Try
open Go Go.AX S Fl
theorem imul_m3 {k : Nat} {a b : S} {bad : Bool} (ha : surP a = true) (hb : surP b = true) (hk : 40000 < k) : impl_maker_mul k bad a.rowsS b.rowsS = some ((mulP a b).1.rowsS, bad || !(mulP a b).2) := by
  unfold impl_maker_mul impl_maker_take_2
  rw [(mulP_eq ha hb hk).1]
  simp only [Option.bind_some]
  cases (mulP a b).2 <;> cases bad <;> rfl
theorem iadd_m3 {k : Nat} {a b : S} {bad : Bool} (ha : surP a = true) (hb : surP b = true) (hk : 40000 < k) : impl_maker_add k bad a.rowsS b.rowsS = some ((sumST a b).1.rowsS, bad || !(sumST a b).2) := by
  have h3 : cap = 1099511627776 := rfl
  have za := surP_size ha
  have zb := surP_size hb
  unfold impl_maker_add impl_maker_take_2
  rw [iaddS_eq (by omega) (by omega)]
  have e : addST a b = sumST a b := by unfold addST; rw [ha, hb]; rfl
  rw [e]
  simp only [Option.bind_some]
  cases bad <;> cases (sumST a b).2 <;> rfl
/-- The number with the value of a fraction. -/
def realS (n d : Int) : S := if n = 0 then .nil else .cons .nil n d .nil
theorem real_right {n d : Int} (h : frP n d = true) : surP (realS n d) = true := by
  unfold realS
  split
  · exact nil_rightS
  · rename_i hn
    unfold surP
    simp only [nodesS, dpS, formS, h]
    simp [hn]
theorem ireal_eq (n d : Int) : impl_real n d = some (realS n d).rowsS := by
  unfold impl_real impl_term_2 realS
  by_cases h : n = 0
  · rw [if_pos h, if_pos h]; rfl
  · rw [if_neg h, if_neg h]; rfl
theorem sreal_eq (n d : Int) : spec_suReal n d = some (realS n d).rowsS := by
  unfold spec_suReal spec_suTerm realS
  by_cases h : n = 0
  · rw [if_pos h, if_pos h]; rfl
  · rw [if_neg h, if_neg h]; rfl
def allF : Fl → Bool
  | .nil => true
  | .cons n d l => frP n d && allF l
theorem all_drop {a : Fl} (h : allF a = true) : ∀ {i : Nat} {n d : Int} {l : Fl}, dropL a i = .cons n d l → frP n d = true := by
  induction a with
  | nil => intro i n d l hd; cases i <;> cases hd
  | cons n' d' l' ih =>
    intro i n d l hd
    simp only [allF, Bool.and_eq_true] at h
    cases i with
    | zero => simp only [dropL, Fl.cons.injEq] at hd; rw [← hd.1, ← hd.2.1]; exact h.1
    | succ i => exact ih h.2 hd
/-- The value, from the last coefficient to the first; none where a step fails. -/
def polyG (x : S) (a : Fl) : Nat → S → Option S
  | 0, out => some out
  | m + 1, out => match dropL a m with
    | .nil => none
    | .cons n d _ => if (mulP out x).2 = true ∧ (sumST (mulP out x).1 (realS n d)).2 = true then polyG x a m (sumST (mulP out x).1 (realS n d)).1 else none
theorem ipoly_bad {k : Nat} {a x : Rw} {v : Rw} {n : Nat} {i : Int} {K2 : Rw → Bool → Option (Rw × Bool)} : impl_PolynomialAt_l1 k a x K2 (n + 1) i true v = K2 v true := by
  simp only [impl_PolynomialAt_l1, cond_true]
  split <;> rfl
theorem ipoly_loop {k : Nat} {x : S} {a : Fl} (hx : surP x = true) (ha : allF a = true) (hk : 40000 < k) {K2 : Rw → Bool → Option (Rw × Bool)} (hK : ∀ v, K2 v true = some ([], false)) : ∀ (m n : Nat) (out : S), m ≤ a.lenL → m ≤ 12 → surP out = true → m + 2 < n →
    impl_PolynomialAt_l1 k a.rowsL x.rowsS K2 n ((m : Int) - 1) false out.rowsS = (match polyG x a m out with | some o => K2 o.rowsS false | none => some ([], false))
  | _, 0, _, _, _, _, h => absurd h (by omega)
  | 0, n + 1, out, _, _, _, _ => by
    simp only [impl_PolynomialAt_l1, cond_false, polyG]
    rw [if_neg (by omega)]
  | m + 1, n + 1, out, hm, hM, ho, hn => by
    have e0 : (((m + 1 : Nat) : Int) - 1) = (m : Int) := by omega
    simp only [impl_PolynomialAt_l1, cond_false, e0]
    rw [if_pos (by omega), imul_m3 ho hx hk, Option.bind_some]
    cases hd : dropL a m with
    | nil =>
      have := drop_lenL a m
      rw [hd] at this
      simp only [lenL] at this
      omega
    | cons c d l =>
      have hf := all_drop ha hd
      have hr := real_right hf
      have hmr := mulP_right out x
      have hs := sumST_right2 (mulP out x).1 (realS c d)
      rw [row_L rfl hd, ireal_eq, Option.bind_some, iadd_m3 hmr hr hk, Option.bind_some, wid (n := (m : Int) - 1) (by omega) (by omega)]
      simp only [polyG, hd]
      obtain ⟨j, rfl⟩ : ∃ j, n = j + 1 := ⟨n - 1, by omega⟩
      cases q1 : (mulP out x).2 with
      | false =>
        simp only [Bool.not_false, Bool.or_true, Bool.true_or]
        rw [ipoly_bad, hK, if_neg (by simp)]
      | true =>
        cases q2 : (sumST (mulP out x).1 (realS c d)).2 with
        | false =>
          simp only [Bool.not_true, Bool.false_or, Bool.not_false]
          rw [ipoly_bad, hK, if_neg (by simp)]
        | true =>
          simp only [Bool.not_true, Bool.false_or]
          rw [if_pos ⟨trivial, trivial⟩]
          exact ipoly_loop hx ha hk hK m (j + 1) _ (by omega) (by omega) hs (by omega)
theorem spoly_bad {k : Nat} {x : S} {a : Fl} (hx : surP x = true) (ha : allF a = true) (hk : 40000 < k) {K0 : Rw → Bool → Option (Rw × Bool)} (hK : K0 [] true = some ([], false)) : ∀ (m n : Nat), m ≤ a.lenL → m ≤ 12 → m + 2 < n →
    spec_PolynomialAt_l0 k a.rowsL x.rowsS K0 n ((m : Int) - 1) S.nil.rowsS true = some ([], false)
  | _, 0, _, _, h => absurd h (by omega)
  | 0, n + 1, _, _, _ => by
    simp only [spec_PolynomialAt_l0, cond_true]
    rw [if_neg (by omega)]; exact hK
  | m + 1, n + 1, hm, hM, hn => by
    have e0 : (((m + 1 : Nat) : Int) - 1) = (m : Int) := by omega
    simp only [spec_PolynomialAt_l0, cond_true, e0]
    rw [if_pos (by omega), smul_b nil_rightS hx hk, Option.bind_some]
    cases hd : dropL a m with
    | nil =>
      have := drop_lenL a m
      rw [hd] at this
      simp only [lenL] at this
      omega
    | cons c d l =>
      have hr := real_right (all_drop ha hd)
      simp only [if_true, Bool.true_or]
      rw [row_L rfl hd, sreal_eq, Option.bind_some, sadd_m nil_rightS hr hk, Option.bind_some, wid (n := (m : Int) - 1) (by omega) (by omega)]
      simp only [if_true, Bool.true_or]
      exact spoly_bad hx ha hk hK m n (by omega) (by omega) (by omega)
theorem spoly_loop {k : Nat} {x : S} {a : Fl} (hx : surP x = true) (ha : allF a = true) (hk : 40000 < k) {K0 : Rw → Bool → Option (Rw × Bool)} (hK : K0 [] true = some ([], false)) : ∀ (m n : Nat) (out : S), m ≤ a.lenL → m ≤ 12 → surP out = true → m + 2 < n →
    spec_PolynomialAt_l0 k a.rowsL x.rowsS K0 n ((m : Int) - 1) out.rowsS false = (match polyG x a m out with | some o => K0 o.rowsS false | none => some ([], false))
  | _, 0, _, _, _, _, h => absurd h (by omega)
  | 0, n + 1, out, _, _, _, _ => by
    simp only [spec_PolynomialAt_l0, cond_false, polyG]
    rw [if_neg (by omega)]
  | m + 1, n + 1, out, hm, hM, ho, hn => by
    have e0 : (((m + 1 : Nat) : Int) - 1) = (m : Int) := by omega
    simp only [spec_PolynomialAt_l0, cond_false, e0]
    rw [if_pos (by omega), smul_b ho hx hk, Option.bind_some]
    cases hd : dropL a m with
    | nil =>
      have := drop_lenL a m
      rw [hd] at this
      simp only [lenL] at this
      omega
    | cons c d l =>
      have hf := all_drop ha hd
      have hr := real_right hf
      have hmr := mulP_right out x
      have hs := sumST_right2 (mulP out x).1 (realS c d)
      simp only [Bool.false_eq_true, if_false, Bool.false_or]
      rw [row_L rfl hd, sreal_eq, Option.bind_some, sadd_m hmr hr hk, Option.bind_some, wid (n := (m : Int) - 1) (by omega) (by omega)]
      simp only [polyG, hd]
      cases q1 : (mulP out x).2 with
      | false =>
        simp only [Bool.not_false, if_true, Bool.true_or]
        rw [if_neg (by simp)]
        exact spoly_bad hx ha hk hK m n (by omega) (by omega) (by omega)
      | true =>
        cases q2 : (sumST (mulP out x).1 (realS c d)).2 with
        | false =>
          rw [sumST_no q2]
          simp only [Bool.not_true, Bool.false_eq_true, if_false, Bool.false_or, Bool.not_false]
          rw [if_neg (by simp)]
          exact spoly_bad hx ha hk hK m n (by omega) (by omega) (by omega)
        | true =>
          simp only [Bool.not_true, Bool.false_eq_true, if_false, Bool.false_or]
          rw [if_pos ⟨trivial, trivial⟩]
          exact spoly_loop hx ha hk hK m n _ (by omega) (by omega) hs (by omega)
theorem poly_right {x : S} {a : Fl} : ∀ (m : Nat) (out o : S), surP out = true → polyG x a m out = some o → surP o = true
  | 0, out, o, h, e => by simp only [polyG, Option.some.injEq] at e; rw [← e]; exact h
  | m + 1, out, o, h, e => by
    simp only [polyG] at e
    split at e
    · cases e
    · split at e
      · exact poly_right m _ o (sumST_right2 _ _) e
      · cases e
theorem ilist_eq {k : Nat} {A x : Rw} {K0 : Bool → Option (Rw × Bool)} (hk : 40000 < k) : ∀ (t : Fl) (v : Bool), impl_PolynomialAt_l0 k A x K0 t.rowsL v = K0 (v || !allF t)
  | .nil, v => by cases v <;> rfl
  | .cons n d l, v => by
    simp only [rowsL, impl_PolynomialAt_l0, cell_L, allF]
    rw [IsFraction_eq (by omega), Option.bind_some]
    cases v with
    | true => simp only [cond_true]; rw [ilist_eq hk l true]; simp
    | false =>
      simp only [cond_false]
      cases frP n d with
      | true => rw [if_pos rfl, ilist_eq hk l false]; simp
      | false => rw [if_neg (by simp), ilist_eq hk l true]; simp
theorem slist_eq {k : Nat} {A : Rw} {N : Int} {K0 : Option Bool} (hk : 40000 < k) : ∀ t : Fl, spec_shList_l0 k A N K0 t.rowsL = if allF t = true then K0 else some false
  | .nil => by simp [rowsL, spec_shList_l0, allF]
  | .cons n d l => by
    simp only [rowsL, spec_shList_l0, cell_L]
    rw [shGood_eq (by omega), Option.bind_some]
    by_cases g : frP n d = true
    · have e : allF (.cons n d l) = allF l := by simp only [allF, g, Bool.true_and]
      rw [if_pos g, slist_eq hk l, e]
    · have e : allF (.cons n d l) = false := by simp [allF, g]
      rw [if_neg g, e]; rfl
theorem shList_eq {k : Nat} {a : Fl} (hk : 40000 < k) (ca : a.lenL ≤ cap) : spec_shList k a.rowsL 12 = some (allF a && decide ((a.lenL : Int) ≤ 12)) := by
  unfold spec_shList
  rw [if_pos (by rw [rowsL_len]; omega), slist_eq hk a, lenLI]
  by_cases g : allF a = true
  · rw [if_pos g, g]
    by_cases h : (a.lenL : Int) ≤ 12
    · rw [if_pos h, decide_eq_true h]; rfl
    · rw [if_neg h, decide_eq_false h]; rfl
  · rw [if_neg g]
    simp [g]
theorem poly_both {k : Nat} {a : Fl} {x : S} (hk : 40000 < k) (ka : a.sizeL < k) (ca : a.sizeL ≤ cap) (kx : x.sizeS + 300 < k) (cx : x.sizeS ≤ cap) : ∃ (r : S) (ok : Bool), impl_PolynomialAt k a.rowsL x.rowsS = some (r.rowsS, ok) ∧ spec_PolynomialAt k a.rowsL x.rowsS = some (r.rowsS, ok) ∧ r.sizeS ≤ 30 := by
  have h3 : cap = 1099511627776 := rfl
  unfold sizeL at ka ca
  unfold impl_PolynomialAt spec_PolynomialAt
  rw [IsSurreal_eq k x kx cx, suGood_all k x kx cx, shList_eq hk ca, lenLI]
  simp only [Option.bind_some]
  have no : ∃ (r : S) (ok : Bool), some (([] : Rw), false) = some (r.rowsS, ok) ∧ some (([] : Rw), false) = some (r.rowsS, ok) ∧ r.sizeS ≤ 30 := ⟨.nil, false, rfl, rfl, by simp [sizeS]⟩
  cases hx : surP x with
  | false =>
    simp only [Bool.false_eq_true, if_false]
    cases (allF a && decide ((a.lenL : Int) ≤ 12)) <;> exact no
  | true =>
    simp only [if_true]
    by_cases hl : (12 : Int) < (a.lenL : Int)
    · rw [if_pos hl, decide_eq_false (show ¬ (a.lenL : Int) ≤ 12 by omega), Bool.and_false]
      exact no
    · rw [if_neg hl, decide_eq_true (show (a.lenL : Int) ≤ 12 by omega), Bool.and_true]
      unfold impl_PolynomialAt_p2
      rw [if_pos (by rw [rowsL_len]; omega), ilist_eq hk a false, Bool.false_or]
      cases ha : allF a with
      | false =>
        simp only [Bool.not_false, cond_true, Bool.false_eq_true, if_false, Option.bind_some]
        obtain ⟨j, rfl⟩ : ∃ j, k = j + 1 := ⟨k - 1, by omega⟩
        unfold impl_PolynomialAt_p4
        simp only [cond_true, impl_PolynomialAt_l1_2]
        refine ⟨.nil, false, ?_, rfl, by simp [sizeS]⟩
        split <;> rfl
      | true =>
        simp only [Bool.not_true, cond_false, if_true, Option.bind_some]
        unfold impl_PolynomialAt_p4
        simp only [cond_false]
        rw [lenLI, wid (n := (a.lenL : Int) - 1) (by omega) (by omega)]
        have g1 := ipoly_loop (k := k) hx ha hk (K2 := fun v128 v130 => (cond v130 (impl_PolynomialAt_p5 v128 true) (impl_PolynomialAt_p5 v128 false))) (fun v => rfl) a.lenL k .nil (Nat.le_refl _) (by omega) nil_rightS (by omega)
        have g2 := spoly_loop (k := k) hx ha hk (K0 := fun v34 v46 => (cond v46 (some (v34, false)) (some (v34, true)))) rfl a.lenL k .nil (Nat.le_refl _) (by omega) nil_rightS (by omega)
        rw [show S.nil.rowsS = ([] : Rw) from rfl] at g1 g2
        rw [g1, g2]
        cases hp : polyG x a a.lenL .nil with
        | none => exact no
        | some o => exact ⟨o, true, rfl, rfl, surP_size (poly_right _ _ _ nil_rightS hp)⟩
end Go.Proofs.Try

namespace Go.Proofs.Try
open Go Go.AX S Fl
def ev (f : S → Rat) : S → Rat
  | .nil => 0
  | .cons e n d l => Rat.divInt n d * f e + ev f l
theorem val_mk {n d : Int} (hd : 0 < d) : Rat.divInt (mkF n d).1 (mkF n d).2 = Rat.divInt n d := by
  obtain ⟨g, g0, g1, g2, g3, g4⟩ := mk_ok (n := n) hd
  rw [Rat.divInt_eq_divInt_iff (by omega) (by omega)]
  generalize mkF n d = p at g1 g2 g3 g4 ⊢
  subst g1 g2
  simp only [Int.mul_comm, Int.mul_left_comm]
theorem val_add {n d m g : Int} (hd : 0 < d) (hg : 0 < g) : Rat.divInt (addF n d m g).1 (addF n d m g).2 = Rat.divInt n d + Rat.divInt m g := by
  unfold addF
  rw [val_mk (Int.mul_pos hd hg), Rat.divInt_add_divInt _ _ (by omega) (by omega)]
theorem val_mul {n d m g : Int} (hd : 0 < d) (hg : 0 < g) : Rat.divInt (mulF n d m g).1 (mulF n d m g).2 = Rat.divInt n d * Rat.divInt m g := by
  unfold mulF
  rw [val_mk (Int.mul_pos hd hg), Rat.divInt_mul_divInt]
theorem val_zero (d : Int) : Rat.divInt 0 d = 0 := Rat.zero_divInt d
theorem frpos {n d : Int} (h : frP n d = true) : 0 < d := by have := (frP_in h).1; omega
theorem ev_put {f : S → Rat} {x : S} {m g : Int} (gx : gdS x) (hm : frP m g = true) : ∀ {a y : S}, gdS a → putS a x m g = some y → ev f y = ev f a + Rat.divInt m g * f x
  | .nil, y, _, h => by
    simp only [putS, Option.some.injEq] at h
    subst h
    simp only [ev]
    rw [Rat.add_comm]
  | .cons e n d l, y, ga, h => by
    simp only [putS] at h
    have hd := frpos ga.2.1.1
    have hg := frpos hm
    by_cases h1 : cmpS e x ≤ 0
    · rw [if_pos h1] at h
      by_cases h2 : cmpS e x = 0
      · rw [if_pos h2] at h
        have e' := (cmpS_eq ga.1 gx).1 h2
        subst e'
        by_cases h3 : frP (addF n d m g).1 (addF n d m g).2 = true
        · rw [if_pos h3] at h
          have hv := val_add (n := n) (m := m) hd hg
          by_cases h4 : (addF n d m g).1 = 0
          · rw [if_pos h4, Option.some.injEq] at h
            subst h
            simp only [ev]
            rw [h4, val_zero] at hv
            have : Rat.divInt n d * f e + ev f l + Rat.divInt m g * f e = (Rat.divInt n d + Rat.divInt m g) * f e + ev f l := by
              rw [Rat.add_mul, Rat.add_assoc, Rat.add_comm (ev f l), ← Rat.add_assoc]
            rw [this, ← hv, Rat.zero_mul, Rat.zero_add]
          · rw [if_neg h4, Option.some.injEq] at h
            subst h
            simp only [ev]
            rw [hv, Rat.add_mul, Rat.add_assoc, Rat.add_comm (Rat.divInt m g * f e), ← Rat.add_assoc]
        · rw [if_neg h3] at h; cases h
      · rw [if_neg h2, Option.some.injEq] at h
        subst h
        simp only [ev]
        rw [Rat.add_comm]
    · rw [if_neg h1] at h
      cases hp : putS l x m g with
      | none => rw [hp] at h; cases h
      | some t =>
        rw [hp] at h
        simp only [Option.map_some, Option.some.injEq] at h
        subst h
        simp only [ev]
        rw [ev_put gx hm ga.2.2 hp, Rat.add_assoc]
theorem ev_fold {f : S → Rat} : ∀ {b a y : S}, gdS a → gdS b → foldS a b = some y → ev f y = ev f a + ev f b
  | .nil, a, y, _, _, h => by
    simp only [foldS, Option.some.injEq] at h
    subst h
    simp only [ev]
    rw [Rat.add_zero]
  | .cons e m g r, a, y, ga, gb, h => by
    simp only [foldS] at h
    cases hp : putS a e m g with
    | none => rw [hp] at h; cases h
    | some t =>
      rw [hp] at h
      have := ev_fold (f := f) (putS_gd ga gb.1 gb.2.1 hp) gb.2.2 h
      rw [this, ev_put gb.1 gb.2.1.1 ga hp]
      simp only [ev]
      rw [Rat.add_assoc]
theorem told_yes {x : S} (h : (toldST x).2 = true) : (toldST x).1 = x ∧ surP x = true := by
  unfold toldST at h ⊢
  cases q : surP x with
  | true => rw [q] at h; exact ⟨rfl, rfl⟩
  | false => rw [q] at h; cases h
theorem ev_sum {f : S → Rat} {a b : S} (ha : surP a = true) (hb : surP b = true) (h : (sumST a b).2 = true) : ev f (sumST a b).1 = ev f a + ev f b := by
  unfold sumST at h ⊢
  cases q : foldS a b with
  | none => rw [q] at h; cases h
  | some x =>
    rw [q] at h
    simp only at h ⊢
    rw [(told_yes h).1]
    exact ev_fold (gd_fallsS ha).1 (gd_fallsS hb).1 q
theorem ev_scale {f : S → Rat} {m g : Int} (hm : frP m g = true) : ∀ {a y : S}, gdS a → scaleT m g a = some y → ev f y = Rat.divInt m g * ev f a
  | .nil, y, _, h => by
    simp only [scaleT, Option.some.injEq] at h
    subst h
    simp only [ev]
    rw [Rat.mul_zero]
  | .cons e n d l, y, ga, h => by
    simp only [scaleT] at h
    by_cases h3 : frP (mulF n d m g).1 (mulF n d m g).2 = true
    · rw [if_pos h3] at h
      cases hp : scaleT m g l with
      | none => rw [hp] at h; cases h
      | some t =>
        rw [hp] at h
        simp only [Option.map_some, Option.some.injEq] at h
        subst h
        simp only [ev]
        rw [ev_scale hm ga.2.2 hp, val_mul (frpos ga.2.1.1) (frpos hm), Rat.mul_add, ← Rat.mul_assoc, Rat.mul_comm (Rat.divInt n d)]
    · rw [if_neg h3] at h; cases h
/-- What a product with b takes a weight to. -/
def trW (b : S) (f : S → Rat) (e : S) : Rat := ev (fun x => f (sumST e x).1) b
theorem ev_row {f : S → Rat} {e : S} {n d : Int} (h1 : frP n d = true ∧ n ≠ 0) : ∀ {b acc y : S}, gdS acc → fallsS acc → gdS b → rowM e n d acc b = some y → ev f y = ev f acc + Rat.divInt n d * trW b f e ∧ gdS y ∧ fallsS y
  | .nil, acc, y, ga, fa, _, h => by
    simp only [rowM, Option.some.injEq] at h
    subst h
    simp only [trW, ev]
    rw [Rat.mul_zero, Rat.add_zero]
    exact ⟨rfl, ga, fa⟩
  | .cons x m g r, acc, y, ga, fa, gb, h => by
    simp only [rowM] at h
    cases hp : stepM acc e n d x m g with
    | none => rw [hp] at h; cases h
    | some t =>
      rw [hp] at h
      obtain ⟨t1, t2, _⟩ := step_ok hp ga fa h1 gb.2.1
      obtain ⟨i1, i2, i3⟩ := ev_row (f := f) h1 t1 t2 gb.2.2 h
      refine ⟨?_, i2, i3⟩
      unfold stepM at hp
      by_cases hs : (sumST e x).2 = true
      · rw [if_pos hs] at hp
        by_cases hf : frP (mulF n d m g).1 (mulF n d m g).2 = true
        · rw [if_pos hf] at hp
          have gs := (gd_fallsS (sumST_right hs)).1
          rw [i1, ev_put gs hf ga hp, val_mul (frpos h1.1) (frpos gb.2.1.1)]
          simp only [trW, ev]
          rw [Rat.mul_add, ← Rat.mul_assoc, Rat.add_assoc]
        · rw [if_neg hf] at hp; cases hp
      · rw [if_neg hs] at hp; cases hp
theorem ev_prod {f : S → Rat} {b : S} (gb : gdS b) : ∀ {a acc y : S}, gdS acc → fallsS acc → gdS a → prodM b acc a = some y → ev f y = ev f acc + ev (trW b f) a
  | .nil, acc, y, _, _, _, h => by
    simp only [prodM, Option.some.injEq] at h
    subst h
    simp only [ev]
    rw [Rat.add_zero]
  | .cons e n d l, acc, y, ga, fa, gl, h => by
    simp only [prodM] at h
    cases hp : rowM e n d acc b with
    | none => rw [hp] at h; cases h
    | some t =>
      rw [hp] at h
      obtain ⟨i1, i2, i3⟩ := ev_row (f := f) gl.2.1 ga fa gb hp
      have := ev_prod (f := f) gb i2 i3 gl.2.2 h
      rw [this, i1]
      simp only [ev]
      rw [Rat.add_assoc]
theorem ev_mul {f : S → Rat} {a b : S} (ha : surP a = true) (hb : surP b = true) (h : (mulP a b).2 = true) : ev f (mulP a b).1 = ev (trW b f) a := by
  unfold mulP at h ⊢
  cases q : prodM b .nil a with
  | none => rw [q] at h; cases h
  | some x =>
    rw [q] at h
    simp only at h ⊢
    rw [(told_yes h).1, ev_prod (f := f) (acc := .nil) (gd_fallsS hb).1 trivial trivial (gd_fallsS ha).1 q]
    simp only [ev]
    rw [Rat.zero_add]
/-! ### one sum, one number -/
def atW (e x : S) : Rat := if cmpS x e = 0 then 1 else 0
theorem ev_above {e : S} (ge : gdS e) : ∀ {r : S}, gdS r → aboveS e r → ev (atW e) r = 0
  | .nil, _, _ => rfl
  | .cons x n d l, gr, h => by
    simp only [ev]
    rw [ev_above ge gr.2.2 h.2]
    have : atW e x = 0 := by
      unfold atW
      rw [if_neg]
      rw [cmpS_neg e x, h.1]; decide
    rw [this, Rat.mul_zero, Rat.add_zero]
theorem ev_lead {e : S} (ge : gdS e) {n d : Int} {l : S} (gl : gdS l) (h : aboveS e l) : ev (atW e) (.cons e n d l) = Rat.divInt n d := by
  simp only [ev]
  rw [ev_above ge gl h]
  have : atW e e = 1 := by unfold atW; rw [if_pos ((cmpS_eq ge ge).2 rfl)]
  rw [this, Rat.mul_one, Rat.add_zero]
theorem val_nz {n d : Int} (h : frP n d = true) (hn : n ≠ 0) : Rat.divInt n d ≠ 0 := by
  intro c
  rw [← val_zero d, Rat.divInt_eq_divInt_iff (by have := frpos h; omega) (by have := frpos h; omega)] at c
  rw [Int.zero_mul] at c
  rcases Int.mul_eq_zero.1 c with q | q
  · exact hn q
  · have := frpos h; omega
theorem ev_eq : ∀ {a b : S}, gdS a → gdS b → fallsS a → fallsS b → (∀ f, ev f a = ev f b) → a = b
  | .nil, .nil, _, _, _, _, _ => rfl
  | .nil, .cons e n d l, _, gb, _, fb, h => by
    have := h (atW e)
    rw [ev_lead gb.1 gb.2.2 fb.1] at this
    exact absurd this.symm (val_nz gb.2.1.1 gb.2.1.2)
  | .cons e n d l, .nil, ga, _, fa, _, h => by
    have := h (atW e)
    rw [ev_lead ga.1 ga.2.2 fa.1] at this
    exact absurd this (val_nz ga.2.1.1 ga.2.1.2)
  | .cons e n d l, .cons x m g r, ga, gb, fa, fb, h => by
    have three : cmpS e x = 0 ∨ cmpS e x = 1 ∨ cmpS e x = -1 := by
      rcases cmpS_range e x with c | c | c
      · exact .inr (.inr c)
      · exact .inl c
      · exact .inr (.inl c)
    rcases three with c | c | c
    · have ex := (cmpS_eq ga.1 gb.1).1 c
      subst ex
      have h1 := h (atW e)
      rw [ev_lead ga.1 ga.2.2 fa.1, ev_lead gb.1 gb.2.2 fb.1, Rat.divInt_eq_divInt_iff (by have := frpos ga.2.1.1; omega) (by have := frpos gb.2.1.1; omega)] at h1
      have h2 : cmpF n d m g = 0 := by unfold cmpF; exact cmpI_eq.2 h1
      obtain ⟨rfl, rfl⟩ := (cmpF_eq ga.2.1.1 gb.2.1.1).1 h2
      have := ev_eq ga.2.2 gb.2.2 fa.2 fb.2 (fun f => by
        have := h f
        simp only [ev] at this
        exact Rat.add_left_cancel _ this)
      rw [this]
    · have h1 := h (atW e)
      rw [ev_lead ga.1 ga.2.2 fa.1] at h1
      have h2 : ev (atW e) (.cons x m g r) = 0 := ev_above ga.1 gb ⟨c, above_trans ga.1 gb.1 c gb.2.2 fb.1⟩
      rw [h2] at h1
      exact absurd h1 (val_nz ga.2.1.1 ga.2.1.2)
    · have c' : cmpS x e = 1 := by rw [cmpS_neg e x, c]; decide
      have h1 := h (atW x)
      rw [ev_lead gb.1 gb.2.2 fb.1] at h1
      have h2 : ev (atW x) (.cons e n d l) = 0 := ev_above gb.1 ga ⟨c', above_trans gb.1 ga.1 c' ga.2.2 fa.1⟩
      rw [h2] at h1
      exact absurd h1.symm (val_nz gb.2.1.1 gb.2.1.2)
/-! ### powers and values -/
def trN (x : S) : Nat → (S → Rat) → S → Rat
  | 0, f => f
  | n + 1, f => trW x (trN x n f)
theorem ev_pow {x : S} (hx : surP x = true) {f : S → Rat} : ∀ (n : Nat) (out : S), surP out = true → (powS x n out).2 = false → ev f (powS x n out).1 = ev (trN x n f) out
  | 0, out, _, _ => rfl
  | n + 1, out, ho, h => by
    simp only [powS] at h ⊢
    by_cases g : (mulP out x).2 = true
    · rw [if_pos g] at h ⊢
      rw [ev_pow hx n _ (mulP_right out x) h, ev_mul ho hx g]
      rfl
    · rw [if_neg g] at h; cases h
theorem ev_one (f : S → Rat) : ev f oneS = f .nil := by
  unfold oneS
  simp only [ev]
  have : Rat.divInt 1 1 = 1 := rfl
  rw [this, Rat.one_mul, Rat.add_zero]
theorem ev_real (f : S → Rat) (n d : Int) : ev f (realS n d) = Rat.divInt n d * f .nil := by
  unfold realS
  split
  · rename_i h; subst h; rw [val_zero, Rat.zero_mul]; rfl
  · simp only [ev]; rw [Rat.add_zero]
/-- The sum of so many first ones. -/
def sumW (x : S) (f : S → Rat) (a : Fl) : Nat → Rat
  | 0 => 0
  | m + 1 => sumW x f a m + (match dropL a m with | .nil => 0 | .cons n d _ => Rat.divInt n d * trN x m f .nil)
theorem ev_poly {x : S} (hx : surP x = true) {a : Fl} (ha : allF a = true) {f : S → Rat} : ∀ (m : Nat) (out o : S), surP out = true → polyG x a m out = some o → ev f o = ev (trN x m f) out + sumW x f a m
  | 0, out, o, _, h => by
    simp only [polyG, Option.some.injEq] at h
    subst h
    simp only [trN, sumW]
    rw [Rat.add_zero]
  | m + 1, out, o, ho, h => by
    simp only [polyG] at h
    cases hd : dropL a m with
    | nil => rw [hd] at h; cases h
    | cons n d l =>
      rw [hd] at h
      simp only at h
      by_cases g : (mulP out x).2 = true ∧ (sumST (mulP out x).1 (realS n d)).2 = true
      · rw [if_pos g] at h
        have hf := all_drop ha hd
        rw [ev_poly hx ha m _ o (sumST_right2 _ _) h, ev_sum (mulP_right out x) (real_right hf) g.2, ev_mul ho hx g.1, ev_real]
        simp only [sumW, hd, trN]
        rw [Rat.add_assoc, Rat.add_comm (Rat.divInt n d * _)]
      · rw [if_neg g] at h; cases h
end Go.Proofs.Try

namespace Go.Proofs.Try
open Go Go.AX T
/-! ### rows of terms -/
theorem lenI (t : T) : ((t.rows.length : Nat) : Int) = (t.len : Int) := by rw [rows_len]
/-! ### impl's order -/
theorem impl_compare_eq (a b : Int) : impl_compare a b = some (cmpI a b) := by unfold impl_compare cmpI; split <;> (try split) <;> rfl
/-! ### spec's order -/
/-- Coefficients whose differences do not run over. -/
def calm : T → Prop
  | nil => True
  | cons e c l => calm e ∧ (-1000000000000000 ≤ c ∧ c ≤ 1000000000000000) ∧ calm l
theorem calm_drop {t : T} (h : calm t) : ∀ {i : Nat}, calm (drop t i) := by
  induction t with
  | nil => intro i; simpa using h
  | cons e c l _ ih => intro i; cases i with
    | zero => simpa using h
    | succ i => exact ih h.2.2
theorem sign_eq {c d : Int} (hc : -1000000000000000 ≤ c ∧ c ≤ 1000000000000000) (hd : -1000000000000000 ≤ d ∧ d ≤ 1000000000000000) : spec_l1Sign (IntKind.i64.wrap (c - d)) = some (cmpI c d) := by
  rw [wid (by omega) (by omega)]
  unfold spec_l1Sign cmpI
  by_cases h1 : c < d
  · rw [if_neg (by omega), if_pos (by omega), if_pos h1]
  · by_cases h2 : d < c
    · rw [if_pos (by omega), if_neg h1, if_pos h2]
    · rw [if_neg (by omega), if_neg (by omega), if_neg h1, if_neg h2]
end Go.Proofs.Try

namespace Go.Proofs.Try
open Go Go.AX T
theorem impl_in_eq (n a b : Int) : impl_in n a b = some (decide (a ≤ n) && decide (n ≤ b)) := by
  unfold impl_in
  by_cases h1 : a ≤ n <;> by_cases h2 : n ≤ b <;> simp [h1, h2]
theorem l1In_eq (n a b : Int) : spec_l1In n a b = some (decide (a ≤ n) && decide (n ≤ b)) := by
  unfold spec_l1In
  by_cases h1 : a ≤ n <;> by_cases h2 : n ≤ b <;> simp [h1, h2]
/-- The exponent of the term ahead of the i-th. -/
def ahead (t : T) : Nat → Option T
  | 0 => none
  | i + 1 => match drop t i with
    | cons e _ _ => some e
    | nil => none
theorem ahead_succ {t : T} {i : Nat} {e : T} {c : Int} {l : T} (h : drop t i = cons e c l) : ahead t (i + 1) = some e := by simp [ahead, h]
theorem ahead_some {t : T} {i : Nat} (h0 : 0 < i) (h : i ≤ t.len) : ∃ q c l, drop t (i - 1) = cons q c l ∧ ahead t i = some q := by
  obtain ⟨j, rfl⟩ : ∃ j, i = j + 1 := ⟨i - 1, by omega⟩
  cases hq : drop t j with
  | nil => have := drop_ge hq; omega
  | cons q c l => exact ⟨q, c, l, hq, ahead_succ hq⟩
theorem dp_drop {t : T} : ∀ {i : Nat}, dp (drop t i) ≤ dp t := by
  induction t with
  | nil => intro i; simp
  | cons e c l _ ih => intro i; cases i with
    | zero => simp
    | succ i => have := ih (i := i); simp only [drop, dp]; omega
/-- What a check of a tree tells. -/
def Tells (r : Bool × Int) (n : Int) (ok : Prop) (m : Int) : Prop := (r.1 = true ↔ ok) ∧ (r.1 = true → r.2 = m) ∧ 0 ≤ r.2 ∧ r.2 ≤ 61 ∧ n ≤ r.2
def toldT (t : T) : T × Bool := if ordP t then (t, true) else (nil, false)
/-! ### spec's check -/
end Go.Proofs.Try

namespace Go.Proofs.Try
open Go Go.AX T
abbrev w (n : Int) : Int := IntKind.i64.wrap n
theorem drop_app (l r : T) : drop (app l r) l.len = r := by
  induction l with
  | nil => simp [app, len]
  | cons e c l _ ih => exact ih
theorem T.snoc (t : T) : t = nil ∨ ∃ l x c, t = app l (cons x c nil) := by
  induction t with
  | nil => exact .inl rfl
  | cons e c l _ ih =>
    rcases ih with rfl | ⟨l', x, d, rfl⟩
    · exact .inr ⟨nil, e, c, rfl⟩
    · exact .inr ⟨cons e c l', x, d, rfl⟩
theorem calm_app {a b : T} : calm (app a b) ↔ calm a ∧ calm b := by
  induction a with
  | nil => simp [app, calm]
  | cons e c l _ ih => simp only [app, calm, ih, and_assoc]
/-! ### impl's sum -/
def goP : T → T → Int → T → T
  | nil, f, d, m => cons f d m
  | cons e c l, f, d, m => if cmpT e f = 1 then cons e c (goP l f d m) else if cmpT e f = 0 then cons e (w (c + d)) m else goP l f d m
def plusT : T → T → T
  | a, nil => a
  | a, cons f d m => goP a f d m
theorem goP_size (a f : T) (d : Int) (m : T) : (goP a f d m).size ≤ a.size + f.size + m.size + 1 := by
  induction a with
  | nil => simp [goP, size]
  | cons e c l _ ih =>
    simp only [goP]
    split
    · simp only [size]; omega
    · split
      · simp only [size]; omega
      · simp only [size]; omega
theorem plusT_size (a b : T) : (plusT a b).size ≤ a.size + b.size := by
  cases b with
  | nil => simp [plusT]
  | cons f d m => simp only [plusT, size]; have := goP_size a f d m; omega
theorem calm_less {a b : T} (h : ordP a = true) : True := trivial
theorem form_calm {p : Option T} {t : T} (h : formA p t = true) : calm t := by
  induction t generalizing p with
  | nil => trivial
  | cons e c l ihe ihl =>
    simp only [formA, Bool.and_eq_true, decide_eq_true_eq] at h
    obtain ⟨⟨⟨⟨h1, h2⟩, h3⟩, _⟩, h5⟩ := h
    exact ⟨ihe h3, by omega, ihl h5⟩
theorem ordP_form {t : T} (h : ordP t = true) : formA none t = true := by
  simp only [ordP, Bool.and_eq_true] at h; exact h.2
theorem form_any {p : Option T} {t : T} (h : formA p t = true) : formA none t = true := by
  cases t with
  | nil => rfl
  | cons e c l =>
    simp only [formA, Bool.and_eq_true] at h ⊢
    exact ⟨⟨⟨h.1.1.1, h.1.1.2⟩, trivial⟩, h.2⟩
end Go.Proofs.Try

namespace Go.Proofs.Try
open Go Go.AX T
/-- Without the terms at the end that are less than w^e. -/
def popT : T → T → T
  | nil, _ => nil
  | cons x c l, e => match popT l e with
    | nil => if cmpT x e < 0 then nil else cons x c nil
    | cons y d m => cons x c (cons y d m)
/-- A term added at the end. -/
def addL : T → T → Int → T
  | nil, e, d => cons e d nil
  | cons x c l, e, d => match l with
    | nil => if cmpT x e = 0 then cons x (w (c + d)) nil else cons x c (cons e d nil)
    | cons _ _ _ => cons x c (addL l e d)
def splus : T → T → T
  | a, nil => a
  | a, cons f d m => splus (addL (popT a f) f d) m
theorem popT_snoc (l x : T) (c : Int) (e : T) : popT (app l (cons x c nil)) e = if cmpT x e < 0 then popT l e else app l (cons x c nil) := by
  induction l with
  | nil => simp [app, popT]
  | cons y d l _ ih =>
    by_cases h : cmpT x e < 0
    · rw [if_pos h] at ih ⊢
      simp only [app, popT]
      rw [ih]
    · rw [if_neg h] at ih ⊢
      simp only [app, popT]
      rw [ih]
      cases l <;> simp [app]
theorem addL_snoc (l x : T) (c : Int) (e : T) (d : Int) : addL (app l (cons x c nil)) e d = if cmpT x e = 0 then app l (cons x (w (c + d)) nil) else app (app l (cons x c nil)) (cons e d nil) := by
  induction l with
  | nil => simp only [app, addL]
  | cons y k l _ ih =>
    have : app l (cons x c nil) ≠ nil := by cases l <;> simp [app]
    simp only [app, addL]
    split
    · rename_i h; exact absurd h this
    · rename_i h
      rw [ih]
      split <;> rfl
theorem popT_size (a e : T) : (popT a e).size ≤ a.size := by
  induction a with
  | nil => simp [popT, size]
  | cons x c l _ ih =>
    simp only [popT]
    split
    · split <;> simp [size]
    · rename_i h; rw [h] at ih; simp only [size] at ih ⊢; omega
theorem addL_size (a e : T) (d : Int) : (addL a e d).size ≤ a.size + e.size + 1 := by
  induction a with
  | nil => simp [addL, size]
  | cons x c l _ ih =>
    simp only [addL]
    split
    · split <;> simp [size] <;> omega
    · simp only [size] at ih ⊢; omega
theorem splus_size (a b : T) : (splus a b).size ≤ a.size + b.size := by
  induction b generalizing a with
  | nil => simp [splus, size]
  | cons f d m _ ih =>
    have h1 := ih (addL (popT a f) f d)
    have h2 := addL_size (popT a f) f d
    have h3 := popT_size a f
    simp only [splus, size] at *; omega
/-- Coefficients within a bound. -/
def sm (B : Int) : T → Prop
  | nil => True
  | cons e c l => sm B e ∧ (-B ≤ c ∧ c ≤ B) ∧ sm B l
theorem sm_calm {B : Int} {t : T} (h : sm B t) (hB : B ≤ 1000000000000000) : calm t := by
  induction t with
  | nil => trivial
  | cons e c l ihe ihl => exact ⟨ihe h.1, by have := h.2.1; omega, ihl h.2.2⟩
theorem sm_mono {B C : Int} {t : T} (h : sm B t) (hB : B ≤ C) : sm C t := by
  induction t with
  | nil => trivial
  | cons e c l ihe ihl => exact ⟨ihe h.1, by have := h.2.1; omega, ihl h.2.2⟩
theorem sm_app {B : Int} {a b : T} : sm B (app a b) ↔ sm B a ∧ sm B b := by
  induction a with
  | nil => simp [app, sm]
  | cons e c l _ ih => simp only [app, sm, ih, and_assoc]
theorem sm_pop {B : Int} {a e : T} (h : sm B a) : sm B (popT a e) := by
  induction a with
  | nil => trivial
  | cons x c l _ ih =>
    have ih := ih h.2.2
    simp only [popT]
    split
    · split
      · trivial
      · exact ⟨h.1, h.2.1, trivial⟩
    · rename_i hq; rw [hq] at ih; exact ⟨h.1, h.2.1, ih⟩
theorem sm_addL {B C : Int} {a e : T} {d : Int} (h : sm B a) (he : sm C e) (hd : -C ≤ d ∧ d ≤ C) (hB : 0 ≤ B ∧ 0 ≤ C ∧ B + C ≤ 1000000000000000) : sm (B + C) (addL a e d) := by
  induction a with
  | nil => exact ⟨sm_mono he (by omega), by omega, trivial⟩
  | cons x c l _ ih =>
    obtain ⟨h1, h2, h3⟩ := h
    simp only [addL]
    split
    · split
      · refine ⟨sm_mono h1 (by omega), ?_, trivial⟩
        show _ ≤ w (c + d) ∧ w (c + d) ≤ _
        rw [show w (c + d) = c + d from wid (by omega) (by omega)]; omega
      · exact ⟨sm_mono h1 (by omega), by omega, sm_mono he (by omega), by omega, trivial⟩
    · exact ⟨sm_mono h1 (by omega), by omega, ih h3⟩
theorem snoc_last (l x : T) (c : Int) : drop (app l (cons x c nil)) l.len = cons x c nil := drop_app l _
/-! ### right ones -/
theorem form_sm {p : Option T} {t : T} (h : formA p t = true) : sm 1000000 t := by
  induction t generalizing p with
  | nil => trivial
  | cons e c l ihe ihl =>
    simp only [formA, Bool.and_eq_true, decide_eq_true_eq] at h
    obtain ⟨⟨⟨⟨h1, h2⟩, h3⟩, _⟩, h5⟩ := h
    exact ⟨ihe h3, by omega, ihl h5⟩
/-- Exponents that fall, from below p on. -/
def falls : Option T → T → Prop
  | _, nil => True
  | p, cons e _ l => (∀ q, p = some q → 0 < cmpT q e) ∧ falls (some e) l
theorem form_falls {p : Option T} {t : T} (h : formA p t = true) : falls p t := by
  induction t generalizing p with
  | nil => trivial
  | cons e c l _ ihl =>
    simp only [formA, Bool.and_eq_true, decide_eq_true_eq] at h
    refine ⟨fun q hq => ?_, ihl h.2⟩
    subst hq
    simpa using h.1.2
theorem cmp_lt_of {a b c : T} (h1 : 0 < cmpT a b) (h2 : cmpT b c = 1 ∨ cmpT b c = 0) : 0 < cmpT a c := by
  rcases h2 with h2 | h2
  · have q1 : cmpT b a < 0 := by rw [cmpT_neg a b]; omega
    have q2 : cmpT c b < 0 := by rw [cmpT_neg b c]; omega
    have := cmpT_trans q2 q1
    rw [cmpT_neg c a]; omega
  · obtain rfl := cmpT_eq.1 h2; exact h1
/-- In falling terms, those ahead of a greater one are greater. -/
theorem goP_pop {a f : T} {d : Int} : ∀ {p : Option T}, falls p a → addL (popT a f) f d = goP a f d nil
  | p, h => by
    induction a generalizing p with
    | nil => rfl
    | cons e c l _ ih =>
      have h2 := h.2
      have key : ∀ {x : T}, falls (some x) l → cmpT x f ≤ 0 → popT l f = nil := by
        intro x hx hxf
        clear ih h h2
        induction l generalizing x with
        | nil => rfl
        | cons y k m _ ihm =>
          have hy := hx.1 x rfl
          have hyf : cmpT y f < 0 := by
            rcases cmpT_range x f with q | q | q
            · have q2 : cmpT y x < 0 := by rw [cmpT_neg x y]; omega
              exact cmpT_trans q2 (by omega)
            · obtain rfl := cmpT_eq.1 q
              rw [cmpT_neg x y]; omega
            · omega
          simp only [popT, ihm hx.2 (by omega), if_pos hyf]
      have ih := ih _ h2
      simp only [popT, goP]
      rcases cmpT_range e f with q | q | q
      · rw [key h2 (by omega)]
        have e1 : ¬ cmpT e f = 1 := by omega
        have e2 : ¬ cmpT e f = 0 := by omega
        simp only [if_neg e1, if_neg e2, if_pos (by omega : cmpT e f < 0)]
        rw [← ih, key h2 (by omega)]
      · rw [key h2 (by omega)]
        have e1 : ¬ cmpT e f = 1 := by omega
        simp only [if_neg e1, if_pos q, if_neg (by omega : ¬ cmpT e f < 0), addL]
      · simp only [if_pos q]
        rw [← ih]
        cases hq : popT l f with
        | nil =>
          simp only [if_neg (by omega : ¬ cmpT e f < 0), addL, if_neg (by omega : ¬ cmpT e f = 0)]
        | cons y k m => simp only [addL]
theorem goP_app {a f : T} {d : Int} {m : T} : goP a f d m = app (goP a f d nil) m := by
  induction a with
  | nil => rfl
  | cons e c l _ ih =>
    simp only [goP]
    split
    · simp only [app, ih]
    · split
      · rfl
      · exact ih
/-- What is less than all ahead of it is only added at the end. -/
theorem splus_end {a x : T} {c : Int} : ∀ {m : T}, falls (some x) m → splus (app a (cons x c nil)) m = app (app a (cons x c nil)) m
  | nil, _ => by simp [splus]
  | cons g k m, h => by
    have h1 := h.1 x rfl
    simp only [splus]
    rw [popT_snoc, if_neg (by omega), addL_snoc, if_neg (by omega)]
    rw [splus_end (a := app a (cons x c nil)) h.2, app_assoc (app a (cons x c nil))]
    rfl
theorem goP_snoc {a f : T} {d : Int} : ∃ l c, goP a f d nil = app l (cons f c nil) := by
  induction a with
  | nil => exact ⟨nil, d, rfl⟩
  | cons e c l _ ih =>
    obtain ⟨l', c', h⟩ := ih
    simp only [goP]
    split
    · exact ⟨cons e c l', c', by rw [h]; rfl⟩
    · split
      · rename_i q; obtain rfl := cmpT_eq.1 q; exact ⟨nil, _, rfl⟩
      · exact ⟨l', c', h⟩
theorem splus_plus {a b : T} (ha : falls none a) (hb : falls none b) : splus a b = plusT a b := by
  cases b with
  | nil => cases a <;> rfl
  | cons f d m =>
    simp only [splus, plusT]
    rw [goP_pop ha, goP_app (m := m)]
    obtain ⟨l, c, h⟩ := goP_snoc (a := a) (f := f) (d := d)
    rw [h]
    exact splus_end hb.2
theorem plusT_sm {B C : Int} {a b : T} (ha : sm B a) (hb : sm C b) (hB : 0 ≤ B ∧ 0 ≤ C ∧ B + C ≤ 1000000000000000) : sm (B + C) (plusT a b) := by
  cases b with
  | nil => exact sm_mono ha (by omega)
  | cons f d m =>
    simp only [plusT]
    have hm : sm (B + C) m := sm_mono hb.2.2 (by omega)
    induction a with
    | nil => exact ⟨sm_mono hb.1 (by omega), by have := hb.2.1; omega, hm⟩
    | cons e c l _ ih =>
      have h1 := ha.2.1
      have h2 := hb.2.1
      simp only [goP]
      split
      · exact ⟨sm_mono ha.1 (by omega), by omega, ih ha.2.2⟩
      · split
        · refine ⟨sm_mono ha.1 (by omega), ?_, hm⟩
          show _ ≤ w (c + d) ∧ w (c + d) ≤ _
          rw [show w (c + d) = c + d from wid (by omega) (by omega)]; omega
        · exact ih ha.2.2
def intT (n : Int) : T := if n = 0 then nil else cons nil n nil
theorem intT_size (n : Int) : (intT n).size ≤ 1 := by unfold intT; split <;> simp [size]
theorem intT_sm {n B : Int} (h : -B ≤ n ∧ n ≤ B) : sm B (intT n) := by
  unfold intT; split
  · trivial
  · exact ⟨trivial, h, trivial⟩
theorem snocRows (l e : T) (c : Int) : l.rows ++ [[D.sl e.rows, D.int .i64 c]] = (app l (cons e c nil)).rows := by rw [rows_app]; rfl
end Go.Proofs.Try

namespace Go.Proofs.Try
open Go Go.AX T
def bytes (x : Rw) : Prop := ∀ r ∈ x, ∃ b : Int, r = [.int .u8 b] ∧ 0 ≤ b ∧ b < 256
/-- A drawn value: its place moves on by at most n. -/
def Drew {α : Type} (x : Rw) (a n : Int) (r : Option (α × Rw × Int × Int)) (Q : α → Prop) : Prop :=
  ∃ v a' c', r = some (v, x, a', c') ∧ 0 ≤ a' ∧ a' ≤ a + n ∧ Q v
theorem Drew.mono {α : Type} {x : Rw} {a n m : Int} {r : Option (α × Rw × Int × Int)} {Q : α → Prop} (h : Drew x a n r Q) (hn : n ≤ m) : Drew x a m r Q := by
  obtain ⟨v, a', c', e, h1, h2, h3⟩ := h
  exact ⟨v, a', c', e, h1, by omega, h3⟩
theorem Drew.bind {α β : Type} {x : Rw} {a n m : Int} {r : Option (α × Rw × Int × Int)} {Q : α → Prop} {S : β → Prop} {F : α × Rw × Int × Int → Option (β × Rw × Int × Int)} (h : Drew x a n r Q)
    (hF : ∀ v a' c', 0 ≤ a' → a' ≤ a + n → Q v → Drew x a' m (F (v, x, a', c')) S) : Drew x a (n + m) (r.bind F) S := by
  obtain ⟨v, a', c', e, h1, h2, h3⟩ := h
  obtain ⟨u, a2, c2, e2, q1, q2, q3⟩ := hF v a' c' h1 h2 h3
  exact ⟨u, a2, c2, by rw [e, Option.bind_some, e2], q1, by omega, q3⟩
theorem and255 (n : Nat) (b : BitVec n) : (b &&& BitVec.ofInt n 255).toNat ≤ 255 := by
  rw [BitVec.toNat_and]
  refine Nat.le_trans Nat.and_le_right ?_
  rw [BitVec.toNat_ofInt]
  show (((255 : Nat) : Int) % ((2 ^ n : Nat) : Int)).toNat ≤ 255
  rw [← Int.natCast_emod, Int.toNat_natCast]
  exact Nat.mod_le _ _
theorem next_ok {x : Rw} {a c : Int} (hx : bytes x) (h0 : 0 ≤ a) (h1 : a ≤ 1000000000) : Drew x a 1 (spec_l1Cur_next x a c) (fun v => 0 ≤ v ∧ v < 256) := by
  have e1 : IntKind.i64.wrap (a + 1) = a + 1 := wid (by omega) (by omega)
  have big : ∀ b : BitVec (IntKind.u64).bits, 0 ≤ IntKind.i64.wrap (IntKind.u64.wrap (b &&& BitVec.ofInt (IntKind.u64).bits 255).toNat) ∧ IntKind.i64.wrap (IntKind.u64.wrap (b &&& BitVec.ofInt (IntKind.u64).bits 255).toNat) < 256 := by
    intro b
    have := and255 _ b
    generalize (b &&& BitVec.ofInt (IntKind.u64).bits 255).toNat = n at *
    have e2 : IntKind.u64.wrap (n : Int) = n := by
      show ((n : Int)) % 18446744073709551616 = n
      omega
    rw [e2, wid (by omega) (by omega)]; omega
  unfold spec_l1Cur_next
  rw [e1]
  by_cases g : a < (x.length : Int)
  · rw [if_pos g]
    obtain ⟨n, rfl⟩ : ∃ n : Nat, a = n := ⟨a.toNat, by omega⟩
    have hn : n < x.length := by omega
    obtain ⟨b, hb, hb0, hb1⟩ := hx x[n] (List.getElem_mem hn)
    have e3 : ∀ {α : Type} (K : Int → Option α), row_iu8 x (n : Int) K = K b := by
      intro α K
      unfold row_iu8
      rw [if_pos (by omega), Int.toNat_natCast, List.getElem?_eq_getElem hn, hb]
      rfl
    rw [e3, if_pos (by omega)]
    exact ⟨_, _, _, rfl, by omega, by omega, by rw [wid (by omega) (by omega)]; omega⟩
  · rw [if_neg g]
    split
    · exact ⟨_, _, _, rfl, by omega, by omega, by omega⟩
    · exact ⟨_, _, _, rfl, by omega, by omega, big _⟩
theorem pick_ok {x : Rw} {a c m : Int} (hx : bytes x) (h0 : 0 ≤ a) (h1 : a ≤ 100000000) (hm : 1 ≤ m) : Drew x a 2 (spec_l1Cur_pick x a c m) (fun v => 0 ≤ v ∧ v < m) := by
  unfold spec_l1Cur_pick
  by_cases g : m ≤ 1
  · rw [if_pos g]; exact ⟨_, _, _, rfl, h0, by omega, by omega⟩
  · rw [if_neg g]
    refine Drew.bind (n := 1) (m := 1) (next_ok hx h0 (by omega)) fun v a' c' q1 q2 q3 => ?_
    have tm : ∀ u : Int, 0 ≤ u → 0 ≤ u.tmod m ∧ u.tmod m < m := fun u hu => ⟨Int.tmod_nonneg _ hu, Int.tmod_lt_of_pos _ (by omega)⟩
    by_cases g2 : 200 < m
    · rw [if_pos g2]
      refine Drew.mono (Drew.bind (n := 1) (m := 0) (next_ok hx q1 (by omega)) fun v2 a2 c2 p1 p2 p3 => ?_) (by omega)
      rw [if_pos (by omega)]
      refine ⟨_, a2, _, rfl, p1, by omega, tm _ ?_⟩
      have e1 : IntKind.i64.wrap (v * 256) = v * 256 := wid (by omega) (by omega)
      show 0 ≤ IntKind.i64.wrap (IntKind.i64.wrap (v * 256) + v2)
      rw [e1, wid (by omega) (by omega)]; omega
    · rw [if_neg g2, if_pos (by omega)]
      exact ⟨_, a', _, rfl, q1, by omega, tm _ q3.1⟩
theorem among_ok {x : Rw} {a c : Int} {es : Rw} {Q : Int → Prop} (hx : bytes x) (h0 : 0 ≤ a) (h1 : a ≤ 100000000) (he : 1 ≤ es.length) (hQ : ∀ r ∈ es, ∃ i, r = [.int .i64 i] ∧ Q i) : Drew x a 2 (spec_l1Cur_among x a c es) Q := by
  unfold spec_l1Cur_among
  refine Drew.mono (Drew.bind (n := 2) (m := 0) (pick_ok hx h0 h1 (by omega)) fun v a' c' q1 q2 q3 => ?_) (by omega)
  obtain ⟨n, rfl⟩ : ∃ n : Nat, v = n := ⟨v.toNat, by omega⟩
  have hn : n < es.length := by omega
  obtain ⟨i, hi, hq⟩ := hQ es[n] (List.getElem_mem hn)
  have e3 : ∀ {α : Type} (K : Int → Option α), row_i es (n : Int) K = K i := by
    intro α K
    unfold row_i
    rw [if_pos (by omega), Int.toNat_natCast, List.getElem?_eq_getElem hn, hi]
    rfl
  show Drew x a' 0 (row_i es (n : Int) _) Q
  rw [e3]
  exact ⟨_, a', _, rfl, q1, by omega, hq⟩
theorem one_ok {x : Rw} {a c m : Int} (hx : bytes x) (h0 : 0 ≤ a) (h1 : a ≤ 100000000) (hm : 1 ≤ m) : Drew x a 2 (spec_l1Cur_one x a c m) (fun _ => True) := by
  unfold spec_l1Cur_one
  refine Drew.mono (Drew.bind (n := 2) (m := 0) (pick_ok hx h0 h1 hm) fun v a' c' q1 q2 q3 => ?_) (by omega)
  split <;> exact ⟨_, a', _, rfl, q1, by omega, trivial⟩
/-- What meet has yet to add. -/
def due (f : Bool) (e : T) : Nat := cond f 0 (e.size + 1)
end Go.Proofs.Try

namespace Go.Proofs.Try
open Go Go.AX T
def IsT (S : Nat) (B : Int) (r : Rw) : Prop := ∃ t : T, r = t.rows ∧ t.size ≤ S ∧ sm B t
def zS : Nat → Nat
  | 0 => 1
  | d + 1 => 3 * (zS d + 2)
def zB : Nat → Int
  | 0 => 3
  | d + 1 => 3 * (zB d + 1000)
def zN : Nat → Int
  | 0 => 2
  | d + 1 => 2 + 3 * (8 + zN d)
theorem splus_sm {B : Int} : ∀ (b a : T) (C : Int), sm C a → sm B b → 0 ≤ B → 0 ≤ C → C + B * b.len ≤ 1000000000000 → sm (C + B * b.len) (splus a b)
  | nil, a, C, sa, _, _, _, _ => sm_mono sa (by simp [len])
  | cons f d m, a, C, sa, sb, hB, hC, hs => by
    have e : B * ((m.len + 1 : Nat) : Int) = B * m.len + B := by rw [Int.natCast_add, Int.mul_add]; omega
    simp only [len] at hs ⊢
    have hnn : 0 ≤ B * (m.len : Int) := Int.mul_nonneg hB (by omega)
    rw [e] at hs ⊢
    have := splus_sm m (addL (popT a f) f d) (C + B) (sm_addL (sm_pop sa) sb.1 sb.2.1 ⟨hC, hB, by omega⟩) sb.2.2 hB (by omega) (by omega)
    exact sm_mono this (by omega)
end Go.Proofs.Try

namespace Go.Proofs.Try
open Go Go.AX
theorem mkF_in {n d B : Int} (hn : -B ≤ n ∧ n ≤ B) (hd : 0 < d) (hd2 : d ≤ B) : (-B ≤ (mkF n d).1 ∧ (mkF n d).1 ≤ B) ∧ 1 ≤ (mkF n d).2 ∧ (mkF n d).2 ≤ B := by
  obtain ⟨g, g0, g1, g2, g3, g4⟩ := mk_ok (n := n) hd
  have h1 : ((mkF n d).1).natAbs ≤ n.natAbs := by
    have : ((mkF n d).1) = n.tdiv (Int.gcd n d : Int) := rfl
    rw [this, Int.natAbs_tdiv]
    exact Nat.div_le_self _ _
  have h2 : ((mkF n d).2).natAbs ≤ d.natAbs := by
    have : ((mkF n d).2) = d.tdiv (Int.gcd n d : Int) := rfl
    rw [this, Int.natAbs_tdiv]
    exact Nat.div_le_self _ _
  omega
/-- Where a walk is behind i letters. -/
def inW (i : Nat) (a l h : Int × Int) (p q : Bool) : Prop := okV i a ∧ (p = true → okV i l) ∧ (q = true → okV i h)
theorem mid_run {k i : Nat} {l h : Int × Int} {F : Int × Int → Option (Int × Int × Int × Int × Int × Int × Bool × Bool)} {r : Option (Int × Int × Int × Int × Int × Int × Bool × Bool)} (hk : 200 < k) (hi : i ≤ 20) (hl : okV i l) (hh : okV i h)
    (hF : ∀ a : Int × Int, okV (i + 1) a → F a = r → True) :
    ∃ a : Int × Int, okV (i + 1) a ∧ ((spec_shAdd k l.1 l.2 h.1 h.2).bind fun y => (spec_shMul k y.1 y.2 1 2).bind F) = F a := by
  have a1 := okV_num hl hi
  have a2 := okV_den hl hi
  have b1 := okV_num hh hi
  have b2 := okV_den hh hi
  obtain ⟨m1, m2⟩ := mid_ok hl hh
  have l1 := hl.1
  have h1 := hh.1
  have hb : (-1000000000000000 ≤ (addF l.1 l.2 h.1 h.2).1 ∧ (addF l.1 l.2 h.1 h.2).1 ≤ 1000000000000000) ∧ 1 ≤ (addF l.1 l.2 h.1 h.2).2 ∧ (addF l.1 l.2 h.1 h.2).2 ≤ 1000000000000000 := by
    unfold addF
    have a := prod_in (B := 30000000) (C := 2000000) (show -30000000 ≤ l.1 ∧ l.1 ≤ 30000000 by omega) (show 0 ≤ h.2 ∧ h.2 ≤ 2000000 by omega)
    have b := prod_in (B := 30000000) (C := 2000000) (show -30000000 ≤ h.1 ∧ h.1 ≤ 30000000 by omega) (show 0 ≤ l.2 ∧ l.2 ≤ 2000000 by omega)
    have c := prod_in (B := 2000000) (C := 2000000) (show -2000000 ≤ l.2 ∧ l.2 ≤ 2000000 by omega) (show 0 ≤ h.2 ∧ h.2 ≤ 2000000 by omega)
    have cp : 0 < l.2 * h.2 := Int.mul_pos (by omega) (by omega)
    exact mkF_in (by omega) cp (by omega)
  refine ⟨_, m1, ?_⟩
  rw [addV hk (by omega) (by omega) (by omega) (by omega), Option.bind_some, halfV hk (by omega) (by omega), Option.bind_some]
theorem beside_run {k i : Nat} {p : Int × Int} {c : Int} {F : Int × Int → Option (Int × Int × Int × Int × Int × Int × Bool × Bool)} (hk : 200 < k) (hi : i ≤ 20) (hp : okV i p) (hc : c = 1 ∨ c = -1) :
    ∃ a : Int × Int, okV (i + 1) a ∧ ((spec_shAdd k p.1 p.2 c 1).bind F) = F a := by
  have a1 := okV_num hp hi
  have a2 := okV_den hp hi
  have p1 := hp.1
  refine ⟨_, beside_ok hp hc, ?_⟩
  rw [addV hk (by omega) (by omega) (by omega) (by omega), Option.bind_some]
theorem stepW_ok {k i : Nat} {a l h : Int × Int} {p q b : Bool} (hk : 200 < k) (hi : i ≤ 19) (hw : inW i a l h p q) :
    ∃ (a' l' h' : Int × Int) (p' q' : Bool), spec_shWalk_step k a.1 a.2 l.1 l.2 h.1 h.2 p q b = some (a'.1, a'.2, l'.1, l'.2, h'.1, h'.2, p', q') ∧ inW (i + 1) a' l' h' p' q' := by
  obtain ⟨w1, w2, w3⟩ := hw
  have mo : ∀ {x : Int × Int}, okV i x → okV (i + 1) x := fun h => okV_mono h (by omega)
  unfold spec_shWalk_step
  cases p <;> cases q <;> cases b
  · obtain ⟨c, c1, c2⟩ := beside_run (k := k) (F := fun y12 => some (y12.1, y12.2, l.1, l.2, a.1, a.2, false, true)) hk (by omega) w1 (.inr rfl)
    exact ⟨c, l, a, false, true, c2, c1, (by simp), fun _ => mo w1⟩
  · obtain ⟨c, c1, c2⟩ := beside_run (k := k) (F := fun y12 => some (y12.1, y12.2, a.1, a.2, h.1, h.2, true, false)) hk (by omega) w1 (.inl rfl)
    exact ⟨c, a, h, true, false, c2, c1, fun _ => mo w1, (by simp)⟩
  · obtain ⟨c, c1, c2⟩ := beside_run (k := k) (F := fun y12 => some (y12.1, y12.2, l.1, l.2, a.1, a.2, false, true)) hk (by omega) w1 (.inr rfl)
    exact ⟨c, l, a, false, true, c2, c1, (by simp), fun _ => mo w1⟩
  · obtain ⟨c, c1, c2⟩ := mid_run (k := k) (r := none) (F := fun y24 => some (y24.1, y24.2, a.1, a.2, h.1, h.2, true, true)) hk (by omega) w1 (w3 rfl) (fun _ _ _ => trivial)
    exact ⟨c, a, h, true, true, c2, c1, fun _ => mo w1, fun _ => mo (w3 rfl)⟩
  · obtain ⟨c, c1, c2⟩ := mid_run (k := k) (r := none) (F := fun y24 => some (y24.1, y24.2, l.1, l.2, a.1, a.2, true, true)) hk (by omega) (w2 rfl) w1 (fun _ _ _ => trivial)
    exact ⟨c, l, a, true, true, c2, c1, fun _ => mo (w2 rfl), fun _ => mo w1⟩
  · obtain ⟨c, c1, c2⟩ := beside_run (k := k) (F := fun y12 => some (y12.1, y12.2, a.1, a.2, h.1, h.2, true, false)) hk (by omega) w1 (.inl rfl)
    exact ⟨c, a, h, true, false, c2, c1, fun _ => mo w1, (by simp)⟩
  · obtain ⟨c, c1, c2⟩ := mid_run (k := k) (r := none) (F := fun y24 => some (y24.1, y24.2, l.1, l.2, a.1, a.2, true, true)) hk (by omega) (w2 rfl) w1 (fun _ _ _ => trivial)
    exact ⟨c, l, a, true, true, c2, c1, fun _ => mo (w2 rfl), fun _ => mo w1⟩
  · obtain ⟨c, c1, c2⟩ := mid_run (k := k) (r := none) (F := fun y24 => some (y24.1, y24.2, a.1, a.2, h.1, h.2, true, true)) hk (by omega) w1 (w3 rfl) (fun _ _ _ => trivial)
    exact ⟨c, a, h, true, true, c2, c1, fun _ => mo w1, fun _ => mo (w3 rfl)⟩
theorem value_step {k n : Nat} {s : ByteArray} {K : Int → Int → Int → Int → Int → Int → Bool → Bool → Option (Int × Int)} {v a1 a2 l1 l2 h1 h2 : Int} {p q : Bool} :
    spec_shValue_l0_4 k s K (n + 1) v a1 a2 l1 l2 h1 h2 p q = (if v < (s.size : Int) then (byteD s v fun b => (spec_shWalk_step k a1 a2 l1 l2 h1 h2 p q (decide ((b.toNat : Int) = 43))).bind fun y => spec_shValue_l0_4 k s K n (IntKind.i64.wrap (v + 1)) y.1 y.2.1 y.2.2.1 y.2.2.2.1 y.2.2.2.2.1 y.2.2.2.2.2.1 y.2.2.2.2.2.2.1 y.2.2.2.2.2.2.2) else K a1 a2 l1 l2 h1 h2 q p) := by
  rw [spec_shValue_l0_4]
  have hb : ∀ (r : Option (Int × Int × Int × Int × Int × Int × Bool × Bool)), (r.bind fun y => (if y.2.2.2.2.2.2.1 = true then (if y.2.2.2.2.2.2.2 = true then (spec_shValue_l0_4 k s K n (IntKind.i64.wrap (v + 1)) y.1 y.2.1 y.2.2.1 y.2.2.2.1 y.2.2.2.2.1 y.2.2.2.2.2.1 true true) else (spec_shValue_l0_4 k s K n (IntKind.i64.wrap (v + 1)) y.1 y.2.1 y.2.2.1 y.2.2.2.1 y.2.2.2.2.1 y.2.2.2.2.2.1 true false)) else (if y.2.2.2.2.2.2.2 = true then (spec_shValue_l0_4 k s K n (IntKind.i64.wrap (v + 1)) y.1 y.2.1 y.2.2.1 y.2.2.2.1 y.2.2.2.2.1 y.2.2.2.2.2.1 false true) else (spec_shValue_l0_4 k s K n (IntKind.i64.wrap (v + 1)) y.1 y.2.1 y.2.2.1 y.2.2.2.1 y.2.2.2.2.1 y.2.2.2.2.2.1 false false))))
      = r.bind fun y => spec_shValue_l0_4 k s K n (IntKind.i64.wrap (v + 1)) y.1 y.2.1 y.2.2.1 y.2.2.2.1 y.2.2.2.2.1 y.2.2.2.2.2.1 y.2.2.2.2.2.2.1 y.2.2.2.2.2.2.2 := by
    intro r
    cases r with
    | none => rfl
    | some y =>
      obtain ⟨y1, y2, y3, y4, y5, y6, y7, y8⟩ := y
      simp only [Option.bind_some]
      cases y7 <;> cases y8 <;> rfl
  cases p <;> cases q <;>
  · simp only [cond_true, cond_false, hb]
    split
    · congr 1
      funext b
      by_cases g : (b.toNat : Int) = 43
      · rw [if_pos g, decide_eq_true g]
      · rw [if_neg g, decide_eq_false g]
    · rfl
/-- Whatever its bytes. -/
theorem value_loop {k : Nat} {s : ByteArray} {K : Int → Int → Int → Int → Int → Int → Bool → Bool → Option (Int × Int)} (hk : 200 < k) (hs : s.size ≤ 20) (hK : ∀ a b c d e f p q, K a b c d e f p q = some (a, b)) :
    ∀ (n i : Nat) (a l h : Int × Int) (p q : Bool), i ≤ s.size → s.size - i < n → inW i a l h p q → ∃ r : Int × Int, spec_shValue_l0_4 k s K n (i : Int) a.1 a.2 l.1 l.2 h.1 h.2 p q = some r ∧ okV s.size r
  | 0, i, _, _, _, _, _, h1, h2, _ => by omega
  | n + 1, i, a, l, h, p, q, h1, h2, hw => by
    rw [value_step]
    by_cases hi : i < s.size
    · rw [if_pos (by omega)]
      unfold byteD
      have hb : s[((i : Nat) : Int).toNat]? = some (s[i]'hi) := by rw [Int.toNat_natCast]; exact getElem?_pos s i hi
      rw [if_pos (by omega), hb]
      obtain ⟨a', l', h', p', q', e, hw'⟩ := stepW_ok (k := k) (b := decide (((s[i]'hi).toNat : Int) = 43)) hk (by omega) hw
      simp only
      rw [e, Option.bind_some, wrap_in (by omega) (by omega)]
      exact value_loop hk hs hK n (i + 1) a' l' h' p' q' (by omega) (by omega) hw'
    · rw [if_neg (by omega), hK]
      have : i = s.size := by omega
      subst this
      exact ⟨a, rfl, hw.1⟩
theorem value_ok {k : Nat} {s : ByteArray} (hk : 200 < k) (hs : s.size ≤ 20) : ∃ r : Int × Int, spec_shValue k s = some r ∧ okV s.size r := by
  unfold spec_shValue
  refine (show ∀ {x : Option (Int × Int)}, (∃ r : Int × Int, x = some r ∧ okV s.size r) → _ from fun h => h) ?_
  exact value_loop hk hs (fun a b c d e f p q => by cases p <;> cases q <;> rfl) k 0 (0, 1) (0, 0) (0, 0) false false (by omega) (by omega) ⟨okV_zero, by simp, by simp⟩
theorem okV_frP {i : Nat} {r : Int × Int} (h : okV i r) (hi : i ≤ 5) : frP r.1 r.2 = true := by
  have h1 := Int.le_of_dvd (Int.pow_pos (by decide)) h.2.1
  have h2 : (2 : Int) ^ i ≤ 2 ^ 5 := by
    have := Nat.pow_le_pow_right (n := 2) (by decide) hi
    exact_mod_cast this
  have h3 : (2 : Int) ^ 5 = 32 := by decide
  have h4 : (i : Int) * r.2 ≤ 5 * 32 := Int.mul_le_mul (by omega) (by omega) (by have := h.1; omega) (by decide)
  obtain ⟨q1, _, q3, q4⟩ := h
  simp only [frP, Bool.and_eq_true, decide_eq_true_eq]
  exact ⟨⟨q1, by omega⟩, ⟨by omega, by omega⟩, q4⟩
end Go.Proofs.Try

namespace Go.Proofs.Try
open Go Go.AX
abbrev L8 := List UInt8
def bA (l : L8) : ByteArray := ⟨l.toArray⟩
theorem bA_data (l : L8) : (bA l).data.toList = l := by simp [bA]
theorem bA_size (l : L8) : (bA l).size = l.length := by rw [Lib.size_eq, bA_data]
theorem bA_toList (l : L8) : (bA l).toList = l := by rw [ByteArray.toList_eq, bA_data]
theorem bA_inj {a b : ByteArray} (h : a.data.toList = b.data.toList) : a = b := by
  cases a; cases b; simp only [ByteArray.mk.injEq]; exact Array.toList_inj.1 h
theorem bA_app (a b : L8) : bA a ++ bA b = bA (a ++ b) := by
  apply bA_inj
  rw [ByteArray.data_append, Array.toList_append, bA_data, bA_data, bA_data]
theorem bA_nil : ByteArray.mk #[] = bA [] := rfl
theorem bA_43 : ByteArray.mk #[43] = bA [43] := rfl
theorem bA_42 : ByteArray.mk #[42] = bA [42] := rfl
theorem bA_41 : ByteArray.mk #[41] = bA [41] := rfl
theorem bA_45 : ByteArray.mk #[45] = bA [45] := rfl
theorem bA_47 : ByteArray.mk #[47] = bA [47] := rfl
theorem bA_48 : ByteArray.mk #[48] = bA [48] := rfl
theorem bA_94 : ByteArray.mk #[94, 40] = bA [94, 40] := rfl
theorem bA_119 : ByteArray.mk #[119] = bA [119] := rfl
theorem u8_lt {n : Int} (h0 : 0 ≤ n) (h1 : n ≤ 255) : IntKind.u8.wrap n = n := by
  simp only [IntKind.wrap, IntKind.bits, IntKind.signed]
  simp
  omega
theorem strD_one {n : Int} (h0 : 0 ≤ n) (h1 : n ≤ 9) : strD [[.int .u8 (IntKind.u8.wrap (IntKind.i64.wrap (48 + n)))]] = some (bA [UInt8.ofNat (48 + n.toNat)]) := by
  rw [wrap_in (by omega) (by omega), u8_lt (by omega) (by omega)]
  have : (48 + n).toNat = 48 + n.toNat := by omega
  simp only [strD, strN, Option.map_some, List.foldl_cons, List.foldl_nil, this]
  rfl
theorem dec_len {u : Nat} (hu : u ≤ 1000000000000000) : (Lib.decDigits u).length ≤ 21 := by
  have := Lib.itoa_length_le (u : Int) (by omega) (by omega)
  unfold Lib.itoa at this
  rwa [if_neg (by omega), show ((u : Int)).toNat = u by omega] at this
theorem dec_ne (u : Nat) : Lib.decDigits u ≠ [] := by
  rw [Lib.decDigits]
  split <;> simp
end Go.Proofs.Try

namespace Go.Proofs.Try
open Go Go.AX S
def Drew2 (x : Rw) (a n : Int) (r : Option (Int × Int × Rw × Int × Int)) (Q : Int → Int → Prop) : Prop :=
  ∃ u v a' c', r = some (u, v, x, a', c') ∧ 0 ≤ a' ∧ a' ≤ a + n ∧ Q u v
theorem of_ok {x : Rw} {a c : Int} {es : Rw} {Q : ByteArray → Prop} (hx : bytes x) (h0 : 0 ≤ a) (h1 : a ≤ 100000000) (he : 1 ≤ es.length) (hQ : ∀ r ∈ es, ∃ i, r = [.str i] ∧ Q i) : Drew x a 2 (spec_l1Cur_of x a c es) Q := by
  unfold spec_l1Cur_of
  refine Drew.mono (Drew.bind (n := 2) (m := 0) (pick_ok hx h0 h1 (by omega)) fun v a' c' q1 q2 q3 => ?_) (by omega)
  obtain ⟨n, rfl⟩ : ∃ n : Nat, v = n := ⟨v.toNat, by omega⟩
  have hn : n < es.length := by omega
  obtain ⟨i, hi, hq⟩ := hQ es[n] (List.getElem_mem hn)
  have e3 : ∀ {α : Type} (K : ByteArray → Option α), row_t es (n : Int) K = K i := by
    intro α K
    unfold row_t
    rw [if_pos (by omega), Int.toNat_natCast, List.getElem?_eq_getElem hn, hi]
    rfl
  show Drew x a' 0 (row_t es (n : Int) _) Q
  rw [e3]
  exact ⟨_, a', _, rfl, q1, by omega, hq⟩
theorem word_loop {x : Rw} (hx : bytes x) : ∀ (n : Nat) (l : L8) (m : Nat) (a c : Int), m < n → m ≤ 21 → 0 ≤ a → a + 2 * m ≤ 100000000 → l.length + m ≤ 100 →
    Drew x a (2 * m) (spec_l1Cur_word_l0 (fun (v20 : ByteArray) (v21 : Rw) (v22 : Int) (v23 : Int) => some (v20, v21, v22, v23)) n (bA l) (m : Int) x a c) (fun s => s.size ≤ l.length + m)
  | 0, _, m, _, _, h, _, _, _, _ => absurd h (Nat.not_lt_zero _)
  | n + 1, l, 0, a, c, _, _, h0, _, _ => by
    simp only [spec_l1Cur_word_l0]
    rw [if_neg (by omega)]
    exact ⟨_, a, _, rfl, h0, by omega, by show (bA l).size ≤ _; rw [bA_size]; omega⟩
  | n + 1, l, m + 1, a, c, h, hm, h0, h1, hl => by
    have ew : IntKind.i64.wrap (((m + 1 : Nat) : Int) - 1) = (m : Int) := by rw [wid (by omega) (by omega)]; omega
    simp only [spec_l1Cur_word_l0]
    rw [if_pos (by omega), ew]
    obtain ⟨v, a', c', e, q1, q2, ⟨b, rfl⟩⟩ := of_ok (x := x) (a := a) (c := c) (es := [[D.str (ByteArray.mk #[43])], [D.str (ByteArray.mk #[45])], [D.str (ByteArray.mk #[43])]]) (Q := fun i => ∃ b : UInt8, i = bA [b]) hx h0 (by omega) (by simp) (by
      intro r hr
      simp only [List.mem_cons, List.not_mem_nil, or_false] at hr
      rcases hr with rfl | rfl | rfl
      · exact ⟨_, rfl, 43, rfl⟩
      · exact ⟨_, rfl, 45, rfl⟩
      · exact ⟨_, rfl, 43, rfl⟩)
    rw [e, Option.bind_some]
    show Drew x a _ (if (bA l).size + (bA [b]).size ≤ 9223372036854775807 then _ else none) _
    rw [if_pos (by rw [bA_size, bA_size, List.length_singleton]; omega), bA_app]
    obtain ⟨s, a2, c2, e2, p1, p2, p3⟩ := word_loop hx n (l ++ [b]) m a' c' (by omega) (by omega) q1 (by omega) (by rw [List.length_append, List.length_singleton]; omega)
    exact ⟨s, a2, c2, e2, p1, by omega, by rw [List.length_append, List.length_singleton] at p3; omega⟩
theorem word_ok {k : Nat} {x : Rw} (hx : bytes x) (hk : 200 < k) {a c : Int} {m : Nat} (hm : m ≤ 21) (h0 : 0 ≤ a) (h1 : a ≤ 90000000) : Drew x a 50 (spec_l1Cur_word k x a c (m : Int)) (fun s => s.size ≤ m) := by
  unfold spec_l1Cur_word
  rw [wid (by omega) (by omega)]
  obtain ⟨v, a', c', e, q1, q2, q3⟩ := pick_ok (x := x) (a := a) (c := c) (m := (m : Int) + 1) hx h0 (by omega) (by omega)
  rw [e, Option.bind_some]
  obtain ⟨n, rfl⟩ : ∃ n : Nat, v = n := ⟨v.toNat, by omega⟩
  obtain ⟨s, a2, c2, e2, p1, p2, p3⟩ := word_loop hx k [] n a' c' (by omega) (by omega) q1 (by omega) (by simp only [List.length_nil]; omega)
  exact ⟨s, a2, c2, e2, p1, by omega, by simp only [List.length_nil] at p3; omega⟩
theorem fraction_ok {k : Nat} {x : Rw} (hx : bytes x) (hk : 300 < k) {a c : Int} (h0 : 0 ≤ a) (h1 : a ≤ 80000000) : Drew2 x a 60 (spec_l1Cur_fraction k x a c) (fun _ _ => True) := by
  unfold spec_l1Cur_fraction
  obtain ⟨v, a', c', e, q1, q2, q3⟩ := pick_ok (x := x) (a := a) (c := c) (m := 8) hx h0 (by omega) (by omega)
  rw [e, Option.bind_some]
  show Drew2 x a 60 (if v = 0 then _ else _) _
  split
  · obtain ⟨v1, a1, c1, e1, p1, p2, p3⟩ := pick_ok (x := x) (a := a') (c := c') (m := 41) hx q1 (by omega) (by omega)
    rw [e1, Option.bind_some]
    obtain ⟨v2, a2, c2, e2, r1, r2, r3⟩ := pick_ok (x := x) (a := a1) (c := c1) (m := 30) hx p1 (by omega) (by omega)
    rw [e2, Option.bind_some]
    simp only
    rw [wid (n := v1 - 20) (by omega) (by omega), wid (n := 1 + v2) (by omega) (by omega), shMake_eq (by omega) (by omega) (by omega) (by omega), Option.bind_some]
    exact ⟨_, _, a2, c2, rfl, r1, by omega, trivial⟩
  · split
    · obtain ⟨v1, a1, c1, e1, p1, p2, p3⟩ := pick_ok (x := x) (a := a') (c := c') (m := 9) hx q1 (by omega) (by omega)
      rw [e1, Option.bind_some]
      exact ⟨_, _, a1, c1, rfl, p1, by omega, trivial⟩
    · split
      · obtain ⟨v1, a1, c1, e1, p1, p2, _⟩ := among_ok (x := x) (a := a') (c := c') (es := [[D.int .i64 0], [D.int .i64 0], [D.int .i64 2], [D.int .i64 (-2)], [D.int .i64 1000000], [D.int .i64 (-999999)], [D.int .i64 (-9223372036854775808)], [D.int .i64 1000001]]) (Q := fun _ => True) hx q1 (by omega) (by simp) (by
          intro r hr
          simp only [List.mem_cons, List.not_mem_nil, or_false] at hr
          rcases hr with rfl | rfl | rfl | rfl | rfl | rfl | rfl | rfl <;> exact ⟨_, rfl, trivial⟩)
        rw [e1, Option.bind_some]
        obtain ⟨v2, a2, c2, e2, r1, r2, _⟩ := among_ok (x := x) (a := a1) (c := c1) (es := [[D.int .i64 1], [D.int .i64 1], [D.int .i64 1], [D.int .i64 3], [D.int .i64 1000000], [D.int .i64 0], [D.int .i64 (-1)], [D.int .i64 1000001]]) (Q := fun _ => True) hx p1 (by omega) (by simp) (by
          intro r hr
          simp only [List.mem_cons, List.not_mem_nil, or_false] at hr
          rcases hr with rfl | rfl | rfl | rfl | rfl | rfl | rfl | rfl <;> exact ⟨_, rfl, trivial⟩)
        rw [e2, Option.bind_some]
        exact ⟨_, _, a2, c2, rfl, r1, by omega, trivial⟩
      · split
        · obtain ⟨v1, a1, c1, e1, p1, p2, p3⟩ := pick_ok (x := x) (a := a') (c := c') (m := 2000) hx q1 (by omega) (by omega)
          rw [e1, Option.bind_some]
          obtain ⟨v2, a2, c2, e2, r1, r2, r3⟩ := pick_ok (x := x) (a := a1) (c := c1) (m := 2000) hx p1 (by omega) (by omega)
          rw [e2, Option.bind_some]
          simp only
          rw [wid (n := v1 - 1000) (by omega) (by omega), wid (n := 1 + v2) (by omega) (by omega), shMake_eq (by omega) (by omega) (by omega) (by omega), Option.bind_some]
          exact ⟨_, _, a2, c2, rfl, r1, by omega, trivial⟩
        · obtain ⟨v1, a1, c1, e1, p1, p2, ⟨m, rfl, hm⟩⟩ := among_ok (x := x) (a := a') (c := c') (es := [[D.int .i64 2], [D.int .i64 4], [D.int .i64 8], [D.int .i64 20]]) (Q := fun i => ∃ m : Nat, i = m ∧ m ≤ 20) hx q1 (by omega) (by simp) (by
            intro r hr
            simp only [List.mem_cons, List.not_mem_nil, or_false] at hr
            rcases hr with rfl | rfl | rfl | rfl
            · exact ⟨_, rfl, 2, rfl, by omega⟩
            · exact ⟨_, rfl, 4, rfl, by omega⟩
            · exact ⟨_, rfl, 8, rfl, by omega⟩
            · exact ⟨_, rfl, 20, rfl, by omega⟩)
          rw [e1, Option.bind_some]
          obtain ⟨s, a2, c2, e2, r1, r2, r3⟩ := word_ok (k := k) (x := x) (a := a1) (c := c1) (m := m) hx (by omega) (by omega) p1 (by omega)
          simp only
          rw [e2, Option.bind_some]
          obtain ⟨f, hf, _⟩ := value_ok (k := k) (s := s) (by omega) (by omega)
          simp only
          rw [hf, Option.bind_some]
          exact ⟨_, _, a2, c2, rfl, r1, by omega, trivial⟩
theorem sign_ok {x : Rw} (hx : bytes x) {a c : Int} (h0 : 0 ≤ a) (h1 : a ≤ 90000000) : Drew x a 2 (spec_l1Cur_among x a c [[D.int .i64 1], [D.int .i64 (-1)]]) (fun i => i = 1 ∨ i = -1) :=
  among_ok hx h0 (by omega) (by simp) (by
    intro r hr
    simp only [List.mem_cons, List.not_mem_nil, or_false] at hr
    rcases hr with rfl | rfl
    · exact ⟨_, rfl, .inl rfl⟩
    · exact ⟨_, rfl, .inr rfl⟩)
theorem few_ok {x : Rw} (hx : bytes x) {a c : Int} (h0 : 0 ≤ a) (h1 : a ≤ 90000000) : Drew x a 2 (spec_l1Cur_among x a c [[D.int .i64 2], [D.int .i64 3], [D.int .i64 5]]) (fun i => ∃ m : Nat, i = m ∧ m ≤ 5) :=
  among_ok hx h0 (by omega) (by simp) (by
    intro r hr
    simp only [List.mem_cons, List.not_mem_nil, or_false] at hr
    rcases hr with rfl | rfl | rfl
    · exact ⟨_, rfl, 2, rfl, by omega⟩
    · exact ⟨_, rfl, 3, rfl, by omega⟩
    · exact ⟨_, rfl, 5, rfl, by omega⟩)
/-- A coefficient of a drawn surreal. -/
abbrev coP (n d : Int) : Prop := frP n d = true ∧ n ≠ 0
theorem one_co {v : Int} (h : v = 1 ∨ v = -1) : coP v 1 := by rcases h with rfl | rfl <;> exact ⟨by decide, by decide⟩
end Go.Proofs.Try

namespace Go.Proofs.Try
open Go Go.AX S
def IsG (Z : Nat) (r : Rw) : Prop := ∃ t : S, r = t.rowsS ∧ t.sizeS ≤ Z ∧ gdS t
def gZ : Nat → Nat
  | 0 => 6
  | d + 1 => 3 * (gZ d + 1)
def gN : Nat → Int
  | 0 => 842
  | d + 1 => 2 + 3 * (280 + gN d)
end Go.Proofs.Try

namespace Go.Proofs.Try
open Go Go.AX S Fl
theorem small_co {n d : Int} (hn : -4 ≤ n ∧ n ≤ 9) (hd : 1 ≤ d ∧ d ≤ 4) : frP (mkF n d).1 (mkF n d).2 = true ∧ (n ≠ 0 → (mkF n d).1 ≠ 0) := by
  have h1 : n = -4 ∨ n = -3 ∨ n = -2 ∨ n = -1 ∨ n = 0 ∨ n = 1 ∨ n = 2 ∨ n = 3 ∨ n = 4 ∨ n = 5 ∨ n = 6 ∨ n = 7 ∨ n = 8 ∨ n = 9 := by omega
  have h2 : d = 1 ∨ d = 2 ∨ d = 3 ∨ d = 4 := by omega
  rcases h2 with rfl | rfl | rfl | rfl <;> rcases h1 with rfl | rfl | rfl | rfl | rfl | rfl | rfl | rfl | rfl | rfl | rfl | rfl | rfl | rfl <;> decide
theorem real_gd {n d : Int} (h : frP n d = true) : gdS (realS n d) ∧ (realS n d).sizeS ≤ 1 := by
  unfold realS
  split
  · exact ⟨trivial, by simp [sizeS]⟩
  · rename_i hn; exact ⟨⟨trivial, ⟨h, hn⟩, trivial⟩, by simp [sizeS]⟩
theorem numer_ok {x : Rw} (hx : bytes x) {a c : Int} (h0 : 0 ≤ a) (h1 : a ≤ 90000000) : Drew x a 2 (spec_l1Cur_among x a c ([[D.int .i64 1], [D.int .i64 1], [D.int .i64 (-1)], [D.int .i64 2], [D.int .i64 4], [D.int .i64 (-3)], [D.int .i64 9]] : Rw)) (fun i => (-4 ≤ i ∧ i ≤ 9) ∧ i ≠ 0) :=
  among_ok hx h0 (by omega) (by simp) (by
    intro r hr
    simp only [List.mem_cons, List.not_mem_nil, or_false] at hr
    rcases hr with rfl | rfl | rfl | rfl | rfl | rfl | rfl <;> exact ⟨_, rfl, by decide⟩)
theorem denom_ok {x : Rw} (hx : bytes x) {a c : Int} (h0 : 0 ≤ a) (h1 : a ≤ 90000000) : Drew x a 2 (spec_l1Cur_among x a c ([[D.int .i64 1], [D.int .i64 1], [D.int .i64 1], [D.int .i64 2], [D.int .i64 4]] : Rw)) (fun i => 1 ≤ i ∧ i ≤ 4) :=
  among_ok hx h0 (by omega) (by simp) (by
    intro r hr
    simp only [List.mem_cons, List.not_mem_nil, or_false] at hr
    rcases hr with rfl | rfl | rfl | rfl | rfl <;> exact ⟨_, rfl, by decide⟩)
theorem easy_loop {k : Nat} {x : Rw} {rec_ : Rw → Int → Int → Int → Option (Rw × Rw × Int × Int)} {d N L : Int} {Z M : Nat} (hL : L ≤ 60000000) (hx : bytes x) (hN : 0 ≤ N) (hk : M + 400 < k) (hcap : M + Z + 10 ≤ cap) (hZ : 1 ≤ Z)
    (hr : 0 < d → ∀ a c, 0 ≤ a → a ≤ L → Drew x a N (rec_ x a c (IntKind.i64.wrap (d - 1))) (IsG Z)) :
    ∀ (n v : Nat) (acc : S) (a c : Int), v < n → v ≤ 1000 → 0 ≤ a → a + (v : Int) * (20 + N) ≤ L → acc.sizeS + v * (Z + 1) ≤ M → gdS acc →
      Drew x a ((v : Int) * (20 + N)) (spec_l1Cur_easy_l0 k rec_ d (fun (v282 : Rw) (v283 : Int) (v284 : Int) (v328 : Rw) => (spec_l1Cur_easy_p3 v282 v283 v284 v328)) n (v : Int) x a c acc.rowsS) (IsG M)
  | 0, v, _, _, _, h, _, _, _, _, _ => absurd h (Nat.not_lt_zero _)
  | n + 1, 0, acc, a, c, _, _, h0, _, hs, ga => by
    simp only [spec_l1Cur_easy_l0]
    rw [if_neg (by omega)]
    exact ⟨_, a, _, rfl, h0, by simp, acc, rfl, by simpa using hs, ga⟩
  | n + 1, v + 1, acc, a, c, hv, hv2, h0, h1, hs, ga => by
    have h3 : cap = 1099511627776 := rfl
    have e1 : ((v + 1 : Nat) : Int) * (20 + N) = (v : Int) * (20 + N) + (20 + N) := by rw [Int.natCast_succ, Int.add_mul, Int.one_mul]
    have p1 : 0 ≤ (v : Int) * (20 + N) := Int.mul_nonneg (by omega) (by omega)
    have ew : IntKind.i64.wrap (((v + 1 : Nat) : Int) - 1) = (v : Int) := by rw [wid (by omega) (by omega)]; omega
    rw [Nat.succ_mul] at hs
    rw [e1] at h1 ⊢
    -- a coefficient, and the term is put in
    have go : ∀ (e : S) (a' c' : Int), e.sizeS ≤ Z → gdS e → 0 ≤ a' → a' + (v : Int) * (20 + N) + 4 ≤ L →
        Drew x a' ((v : Int) * (20 + N) + 4) ((spec_l1Cur_among x a' c' ([[D.int .i64 1], [D.int .i64 1], [D.int .i64 (-1)], [D.int .i64 2], [D.int .i64 4], [D.int .i64 (-3)], [D.int .i64 9]] : Rw)).bind fun y395 => ((spec_l1Cur_among y395.2.1 y395.2.2.1 y395.2.2.2 ([[D.int .i64 1], [D.int .i64 1], [D.int .i64 1], [D.int .i64 2], [D.int .i64 4]] : Rw)).bind fun y397 => ((spec_shMake k y395.1 y397.1).bind fun y399 => ((spec_suPut k acc.rowsS e.rowsS y399.1 y399.2).bind fun y401 => (if y401.2 = true then (spec_l1Cur_easy_l0 k rec_ d (fun (v282 : Rw) (v283 : Int) (v284 : Int) (v328 : Rw) => (spec_l1Cur_easy_p3 v282 v283 v284 v328)) n (v : Int) y397.2.1 y397.2.2.1 y397.2.2.2 y401.1) else (spec_l1Cur_easy_l0 k rec_ d (fun (v282 : Rw) (v283 : Int) (v284 : Int) (v328 : Rw) => (spec_l1Cur_easy_p3 v282 v283 v284 v328)) n (v : Int) y397.2.1 y397.2.2.1 y397.2.2.2 acc.rowsS)))))) (IsG M) := by
      intro e a' c' z1 z2 z3 z4
      obtain ⟨u, a2, c2, e2, q1, q2, q3⟩ := numer_ok (x := x) (a := a') (c := c') hx z3 (by omega)
      rw [e2, Option.bind_some]
      obtain ⟨w, a3, c3, e3, r1, r2, r3⟩ := denom_ok (x := x) (a := a2) (c := c2) hx q1 (by omega)
      simp only
      rw [e3, Option.bind_some, shMake_eq (by omega) (by omega) (by omega) (by omega), Option.bind_some]
      obtain ⟨f1, f2⟩ := small_co q3.1 r3
      simp only
      rw [suPut_eq (by omega) (by omega) ga z2 f1, Option.bind_some]
      have next : ∀ acc' : S, acc'.sizeS ≤ acc.sizeS + Z + 1 → gdS acc' → Drew x a' ((v : Int) * (20 + N) + 4) (spec_l1Cur_easy_l0 k rec_ d (fun (v282 : Rw) (v283 : Int) (v284 : Int) (v328 : Rw) => (spec_l1Cur_easy_p3 v282 v283 v284 v328)) n (v : Int) x a3 c3 acc'.rowsS) (IsG M) := by
        intro acc' y1 y2
        obtain ⟨r, a4, c4, e4, t1, t2, t3⟩ := easy_loop hL hx hN hk hcap hZ hr n v acc' a3 c3 (by omega) (by omega) r1 (by omega) (by omega) y2
        exact ⟨r, a4, c4, e4, t1, by omega, t3⟩
      cases hp : putS acc e (mkF u w).1 (mkF u w).2 with
      | none => exact next acc (by omega) ga
      | some t =>
        have hz := putS_size hp
        exact next t (by omega) (putS_gd ga z2 ⟨f1, f2 q3.2⟩ hp)
    simp only [spec_l1Cur_easy_l0]
    rw [if_pos (by omega), ew]
    obtain ⟨i, a2, c2, e2, q1, q2, q3⟩ := pick_ok (x := x) (a := a) (c := c) (m := 9) hx h0 (by omega) (by omega)
    rw [e2, Option.bind_some]
    obtain ⟨j, a3, c3, e3, r1, r2, r3⟩ := pick_ok (x := x) (a := a2) (c := c2) (m := 2) hx q1 (by omega) (by omega)
    simp only
    rw [e3, Option.bind_some]
    simp only
    rw [wid (n := i - 4) (by omega) (by omega), wid (n := 1 + j) (by omega) (by omega), shMake_eq (by omega) (by omega) (by omega) (by omega), Option.bind_some, sreal_eq, Option.bind_some]
    obtain ⟨f1, _⟩ := small_co (n := i - 4) (d := 1 + j) (by omega) (by omega)
    obtain ⟨g1, g2⟩ := real_gd f1
    by_cases hd : 0 < d
    · rw [if_pos hd]
      obtain ⟨b1, a4, c4, e4, s1, s2, _⟩ := one_ok (x := x) (a := a3) (c := c3) (m := 3) hx r1 (by omega) (by omega)
      rw [e4, Option.bind_some]
      cases b1 with
      | true =>
        simp only [if_true]
        obtain ⟨e, a5, c5, e5, s3, s4, ⟨t, rfl, t1, t2⟩⟩ := hr hd a4 c4 s1 (by omega)
        rw [e5, Option.bind_some]
        obtain ⟨r, a6, c6, e6, y1, y2, y3⟩ := go t a5 c5 t1 t2 s3 (by omega)
        exact ⟨r, a6, c6, e6, y1, by omega, y3⟩
      | false =>
        simp only [Bool.false_eq_true, if_false]
        obtain ⟨r, a6, c6, e6, y1, y2, y3⟩ := go _ a4 c4 (by omega) g1 s1 (by omega)
        exact ⟨r, a6, c6, e6, y1, by omega, y3⟩
    · rw [if_neg hd]
      obtain ⟨r, a6, c6, e6, y1, y2, y3⟩ := go _ a3 c3 (by omega) g1 r1 (by omega)
      exact ⟨r, a6, c6, e6, y1, by omega, y3⟩
theorem terms_ok {x : Rw} (hx : bytes x) {a c : Int} (h0 : 0 ≤ a) (h1 : a ≤ 90000000) : Drew x a 2 (spec_l1Cur_among x a c ([[D.int .i64 1], [D.int .i64 1], [D.int .i64 2], [D.int .i64 2], [D.int .i64 3]] : Rw)) (fun i => ∃ m : Nat, i = m ∧ m ≤ 3) :=
  among_ok hx h0 (by omega) (by simp) (by
    intro r hr
    simp only [List.mem_cons, List.not_mem_nil, or_false] at hr
    rcases hr with rfl | rfl | rfl | rfl | rfl
    · exact ⟨_, rfl, 1, rfl, by omega⟩
    · exact ⟨_, rfl, 1, rfl, by omega⟩
    · exact ⟨_, rfl, 2, rfl, by omega⟩
    · exact ⟨_, rfl, 2, rfl, by omega⟩
    · exact ⟨_, rfl, 3, rfl, by omega⟩)
theorem easy0_ok {k : Nat} {x : Rw} (hx : bytes x) (hk : 1000 < k) {a c : Int} (h0 : 0 ≤ a) (h1 : a ≤ 50000000) : Drew x a 62 (spec_l1Cur_easy k x a c 0) (IsG 6) := by
  have h3 : cap = 1099511627776 := rfl
  obtain ⟨j, rfl⟩ : ∃ j, k = j + 1 := ⟨k - 1, by omega⟩
  show Drew x a 62 (spec_l1Cur_easy_b j (spec_l1Cur_easy j) x a c 0) _
  unfold spec_l1Cur_easy_b
  obtain ⟨i, a2, c2, e2, q1, q2, ⟨m, rfl, hm⟩⟩ := terms_ok (x := x) (a := a) (c := c) hx h0 (by omega)
  rw [e2, Option.bind_some]
  have f1 : (m : Int) * (20 + 0) ≤ 60 := by omega
  obtain ⟨r, a3, c3, e3, t1, t2, t3⟩ := easy_loop (k := j) (rec_ := spec_l1Cur_easy j) (d := 0) (N := 0) (L := 60000000) (Z := 1) (M := 6) (by omega) hx (by omega) (by omega) (by omega) (by omega) (fun h => absurd h (by omega)) j m .nil a2 c2 (by omega) (by omega) q1 (by omega) (by simp only [sizeS]; omega) trivial
  exact ⟨r, a3, c3, e3, t1, by omega, t3⟩
theorem easy1_ok {k : Nat} {x : Rw} (hx : bytes x) (hk : 2000 < k) {a c : Int} (h0 : 0 ≤ a) (h1 : a ≤ 40000000) : Drew x a 300 (spec_l1Cur_easy k x a c 1) (IsG 21) := by
  have h3 : cap = 1099511627776 := rfl
  obtain ⟨j, rfl⟩ : ∃ j, k = j + 1 := ⟨k - 1, by omega⟩
  show Drew x a 300 (spec_l1Cur_easy_b j (spec_l1Cur_easy j) x a c 1) _
  unfold spec_l1Cur_easy_b
  obtain ⟨i, a2, c2, e2, q1, q2, ⟨m, rfl, hm⟩⟩ := terms_ok (x := x) (a := a) (c := c) hx h0 (by omega)
  rw [e2, Option.bind_some]
  have f1 : (m : Int) * (20 + 62) ≤ 246 := by omega
  obtain ⟨r, a3, c3, e3, t1, t2, t3⟩ := easy_loop (k := j) (rec_ := spec_l1Cur_easy j) (d := 1) (N := 62) (L := 50000000) (Z := 6) (M := 21) (by omega) hx (by omega) (by omega) (by omega) (by omega) (fun _ a c z1 z2 => easy0_ok hx (by omega) z1 z2) j m .nil a2 c2 (by omega) (by omega) q1 (by omega) (by simp only [sizeS]; omega) trivial
  exact ⟨r, a3, c3, e3, t1, by omega, t3⟩
def snocL : Fl → Int → Int → Fl
  | .nil, n, d => .cons n d .nil
  | .cons a b l, n, d => .cons a b (snocL l n d)
theorem snoc_rows : ∀ (l : Fl) (n d : Int), l.rowsL ++ [[D.int .i64 n, D.int .i64 d]] = (snocL l n d).rowsL
  | .nil, n, d => rfl
  | .cons a b l, n, d => by simp only [rowsL, snocL, List.cons_append]; rw [snoc_rows l n d]
theorem snoc_len : ∀ (l : Fl) (n d : Int), (snocL l n d).lenL = l.lenL + 1
  | .nil, n, d => rfl
  | .cons a b l, n, d => by simp only [lenL, snocL]; rw [snoc_len l n d]
theorem dp_loop {k : Nat} {x : Rw} (hx : bytes x) (hk : 3000 < k) : ∀ (n : Nat) (l : Fl) (m : Nat) (a c : Int), m < n → 0 ≤ a → a + 70 * m ≤ 30000000 → l.lenL + m ≤ 100 →
    ∃ (l' : Fl) (t : S), spec_DrawPolynomialAt_l0 k (fun (v31 : Rw) (v32 : Rw) (v33 : Int) (v34 : Int) => ((spec_l1Cur_easy k v32 v33 v34 1).bind fun y59 => some (v31, y59.1))) n l.rowsL (m : Int) x a c = some (l'.rowsL, t.rowsS) ∧ l'.lenL ≤ 100 ∧ t.sizeS ≤ 21
  | 0, _, m, _, _, h, _, _, _ => absurd h (Nat.not_lt_zero _)
  | n + 1, l, 0, a, c, _, h0, h1, h2 => by
    simp only [spec_DrawPolynomialAt_l0]
    rw [if_neg (by omega)]
    obtain ⟨r, a3, c3, e3, t1, t2, ⟨t, rfl, z1, z2⟩⟩ := easy1_ok (k := k) (x := x) (a := a) (c := c) hx (by omega) h0 (by omega)
    rw [e3, Option.bind_some]
    exact ⟨l, t, rfl, by omega, z1⟩
  | n + 1, l, m + 1, a, c, h, h0, h1, h2 => by
    have h3 : cap = 1099511627776 := rfl
    have ew : IntKind.i64.wrap (((m + 1 : Nat) : Int) - 1) = (m : Int) := by rw [wid (by omega) (by omega)]; omega
    simp only [spec_DrawPolynomialAt_l0]
    rw [if_pos (by omega), ew]
    obtain ⟨b1, a4, c4, e4, s1, s2, _⟩ := one_ok (x := x) (a := a) (c := c) (m := 30) hx h0 (by omega) (by omega)
    rw [e4, Option.bind_some]
    cases b1 with
    | true =>
      simp only [if_true]
      obtain ⟨u, w, a5, c5, e5, q1, q2, _⟩ := fraction_ok (x := x) (a := a4) (c := c4) (k := k) hx (by omega) s1 (by omega)
      rw [e5, Option.bind_some, if_pos (by rw [rowsL_len]; omega)]
      simp only
      rw [snoc_rows]
      exact dp_loop hx hk n (snocL l u w) m a5 c5 (by omega) q1 (by omega) (by rw [snoc_len]; omega)
    | false =>
      simp only [Bool.false_eq_true, if_false]
      obtain ⟨i, a5, c5, e5, q1, q2, q3⟩ := pick_ok (x := x) (a := a4) (c := c4) (m := 7) hx s1 (by omega) (by omega)
      rw [e5, Option.bind_some]
      unfold spec_shInt
      rw [Option.bind_some, if_pos (by rw [rowsL_len]; omega)]
      simp only
      rw [snoc_rows]
      exact dp_loop hx hk n _ m a5 c5 (by omega) q1 (by omega) (by rw [snoc_len]; omega)
theorem drawPoly_ok {k : Nat} {x : Rw} (hx : bytes x) (hk : 3000 < k) : ∃ (l : Fl) (t : S), spec_DrawPolynomialAt k x = some (l.rowsL, t.rowsS) ∧ l.lenL ≤ 100 ∧ t.sizeS ≤ 21 := by
  unfold spec_DrawPolynomialAt
  obtain ⟨v1, a1, c1, e1, p1, p2, ⟨m, rfl, hm⟩⟩ := among_ok (x := x) (a := 0) (c := 0) (es := [[D.int .i64 0], [D.int .i64 1], [D.int .i64 2], [D.int .i64 3], [D.int .i64 4], [D.int .i64 12], [D.int .i64 13]]) (Q := fun i => ∃ m : Nat, i = m ∧ m ≤ 13) hx (by omega) (by omega) (by simp) (by
    intro r hr
    simp only [List.mem_cons, List.not_mem_nil, or_false] at hr
    rcases hr with rfl | rfl | rfl | rfl | rfl | rfl | rfl
    · exact ⟨_, rfl, 0, rfl, by omega⟩
    · exact ⟨_, rfl, 1, rfl, by omega⟩
    · exact ⟨_, rfl, 2, rfl, by omega⟩
    · exact ⟨_, rfl, 3, rfl, by omega⟩
    · exact ⟨_, rfl, 4, rfl, by omega⟩
    · exact ⟨_, rfl, 12, rfl, by omega⟩
    · exact ⟨_, rfl, 13, rfl, by omega⟩)
  rw [e1, Option.bind_some]
  exact dp_loop hx hk k .nil m a1 c1 (by omega) p1 (by omega) (by simp only [lenL]; omega)
end Go.Proofs.Try

namespace Go.Proofs.Try
open Go Go.AX T
end Go.Proofs.Try

namespace Go.Proofs.Try
open Go Go.AX T S
def surT : T → S
  | .nil => .nil
  | .cons e c l => .cons (surT e) c 1 (surT l)
theorem surT_size (a : T) : (surT a).sizeS = a.size := by
  induction a with
  | nil => rfl
  | cons e c l ihe ihl => simp [surT, sizeS, T.size, ihe, ihl]
theorem surT_len (a : T) : (surT a).lenS = a.len := by
  induction a with
  | nil => rfl
  | cons e c l ihe ihl => simp [surT, lenS, T.len, ihl]
theorem surT_nodes (a : T) : nodesS (surT a) = nodesL a := by rw [nodesS_size, nodes_size, surT_size]
theorem surT_dp (a : T) : dpS (surT a) = dp a := by
  induction a with
  | nil => rfl
  | cons e c l ihe ihl => simp [surT, dpS, dp, ihe, ihl]
theorem cmpF_one (c d : Int) : cmpF c 1 d 1 = cmpI c d := by unfold cmpF; rw [Int.mul_one, Int.mul_one]
theorem surT_cmp : ∀ {p q : Option T} {a b : T}, formA p a = true → formA q b = true → cmpS (surT a) (surT b) = cmpT a b
  | _, _, .nil, .nil, _, _ => rfl
  | _, _, .nil, .cons f d m, _, hb => by
    simp only [formA, Bool.and_eq_true, decide_eq_true_eq] at hb
    simp only [surT, cmpS, cmpT, sg]
    unfold cmpI; rw [if_neg (by omega), if_pos (by omega)]
  | _, _, .cons e c l, .nil, ha, _ => by
    simp only [formA, Bool.and_eq_true, decide_eq_true_eq] at ha
    simp only [surT, cmpS, cmpT, sg]
    unfold cmpI; rw [if_neg (by omega), if_pos (by omega)]
  | _, _, .cons e c l, .cons f d m, ha, hb => by
    simp only [formA, Bool.and_eq_true, decide_eq_true_eq] at ha hb
    have ih1 := surT_cmp ha.1.1.2 hb.1.1.2
    have ih2 := surT_cmp ha.2 hb.2
    have hr := cmpT_range e f
    simp only [surT, cmpS, cmpT, ih1, ih2, cmpF_one, sg]
    by_cases q1 : cmpT e f = 1
    · rw [if_pos q1, if_neg (by omega), q1]; unfold cmpI; rw [if_neg (by omega), if_pos (by omega)]
    · by_cases q2 : cmpT e f = -1
      · rw [if_neg q1, if_pos q2, if_neg (by omega), q2]; unfold cmpI; rw [if_neg (by omega), if_pos (by omega)]
      · rw [if_neg q1, if_neg q2, if_pos (show cmpT e f = 0 by omega)]
theorem surT_form : ∀ {p : Option T} {a : T}, (∀ q, p = some q → formA none q = true) → formA p a = true → formS (p.map surT) (surT a) = true
  | _, .nil, _, _ => rfl
  | p, .cons e c l, hp, h => by
    have h0 := h
    simp only [formA, Bool.and_eq_true, decide_eq_true_eq] at h
    obtain ⟨⟨⟨⟨h1, h2⟩, h3⟩, h4⟩, h5⟩ := h
    have i1 := surT_form (p := none) (fun q hq => by cases hq) h3
    have i2 := surT_form (p := some e) (fun q hq => by cases hq; exact h3) h5
    have hf : frP c 1 = true := by
      unfold frP
      simp only [Bool.and_eq_true, decide_eq_true_eq]
      refine ⟨by omega, by omega, ?_⟩
      simp
    simp only [surT, formS, Bool.and_eq_true, hf, decide_eq_true_eq]
    refine ⟨⟨⟨⟨trivial, by omega⟩, i1⟩, ?_⟩, i2⟩
    cases p with
    | none => rfl
    | some q =>
      simp only [decide_eq_true_eq] at h4
      simp only [Option.map_some, decide_eq_true_eq]
      rw [surT_cmp (hp q rfl) h3]; exact h4
theorem surT_ok {a : T} (h : ordP a = true) : surP (surT a) = true := by
  simp only [ordP, Bool.and_eq_true, decide_eq_true_eq] at h
  simp only [surP, Bool.and_eq_true, decide_eq_true_eq, surT_nodes, surT_dp]
  exact ⟨h.1, surT_form (p := none) (fun q hq => by cases hq) h.2⟩
theorem toldS_eq (k : Nat) (a : S) (h : a.sizeS + 300 < k) (hc : a.sizeS ≤ cap) : impl_toldSurreal k a.rowsS true = some ((toldST a).1.rowsS, (toldST a).2) := by
  unfold impl_toldSurreal toldST
  simp only [cond_true]
  rw [IsSurreal_eq k a h hc, Option.bind_some]
  cases surP a with
  | false => rfl
  | true => rw [if_pos rfl, sclone_eq k a (by omega) hc]; rfl
end Go.Proofs.Try

namespace Go.Proofs.Try
open Go Go.AX T
end Go.Proofs.Try

namespace Go.Proofs.Try
open Go Go.AX T S
/-- The ordinal with the terms of a number. -/
def toL : S → Option T
  | .nil => some .nil
  | .cons e n d l => match toL e with
    | none => none
    | some e' => if d = 1 then (if n < 1 then none else (toL l).map (T.cons e' n)) else none
def resT : Option T → Rw × Bool
  | some r => (r.rows, true)
  | none => ([], false)
def posAll : T → Prop
  | .nil => True
  | .cons e c l => posAll e ∧ 1 ≤ c ∧ posAll l
theorem toL_back : ∀ {x : S} {a : T}, toL x = some a → x = surT a ∧ posAll a
  | .nil, a, h => by simp only [toL, Option.some.injEq] at h; subst h; exact ⟨rfl, trivial⟩
  | .cons e n d l, a, h => by
    simp only [toL] at h
    cases he : toL e with
    | none => rw [he] at h; cases h
    | some e' =>
      rw [he] at h
      simp only at h
      split at h
      · rename_i hd
        split at h
        · cases h
        · rename_i hn
          cases hl : toL l with
          | none => rw [hl] at h; cases h
          | some l' =>
            rw [hl] at h
            simp only [Option.map_some, Option.some.injEq] at h
            subst h
            obtain ⟨e1, e2⟩ := toL_back he
            obtain ⟨l1, l2⟩ := toL_back hl
            exact ⟨by rw [surT, ← e1, ← l1, hd], e2, by omega, l2⟩
      · cases h
theorem form_back : ∀ {p : Option T} {a : T}, (∀ q, p = some q → formA none q = true) → posAll a → formS (p.map surT) (surT a) = true → formA p a = true
  | _, .nil, _, _, _ => rfl
  | p, .cons e c l, hp, pa, h => by
    simp only [surT, formS, Bool.and_eq_true, decide_eq_true_eq] at h
    obtain ⟨⟨⟨⟨h1, h2⟩, h3⟩, h4⟩, h5⟩ := h
    have i1 := form_back (p := none) (fun q hq => by cases hq) pa.1 h3
    have i2 := form_back (p := some e) (fun q hq => by cases hq; exact i1) pa.2.2 h5
    have hf := frP_in h1
    simp only [formA, Bool.and_eq_true, decide_eq_true_eq]
    refine ⟨⟨⟨⟨pa.2.1, by omega⟩, i1⟩, ?_⟩, i2⟩
    cases p with
    | none => rfl
    | some q =>
      simp only [Option.map_some, decide_eq_true_eq] at h4
      simp only [decide_eq_true_eq]
      rw [← surT_cmp (hp q rfl) i1]; exact h4
theorem back_ok {a : T} (pa : posAll a) (h : surP (surT a) = true) : ordP a = true := by
  simp only [surP, Bool.and_eq_true, decide_eq_true_eq, surT_nodes, surT_dp] at h
  simp only [ordP, Bool.and_eq_true, decide_eq_true_eq]
  exact ⟨h.1, form_back (p := none) (fun q hq => by cases hq) pa h.2⟩
theorem rowsT_snoc (l e : T) (c : Int) : l.rows ++ [[D.sl e.rows, D.int .i64 c]] = (app l (T.cons e c .nil)).rows := by rw [rows_app]; rfl
end Go.Proofs.Try

namespace Go.Proofs.Try
open Go Go.AX T
/-- A term put in its place among falling ones. -/
def meetT (e : T) (c : Int) : T → T
  | nil => cons e c nil
  | cons x d l => if cmpT x e = 1 then cons x d (meetT e c l) else if cmpT x e = 0 then cons e (w (c + d)) l else cons e c (cons x d l)
/-- The coefficient at an exponent. -/
def coef : T → T → Int
  | nil, _ => 0
  | cons e c l, x => (if cmpT e x = 0 then c else 0) + coef l x
theorem falls_meet {p : Option T} {t e : T} {c : Int} (h : falls p t) (hp : ∀ q, p = some q → 0 < cmpT q e) : falls p (meetT e c t) := by
  induction t generalizing p with
  | nil => exact ⟨hp, trivial⟩
  | cons x d l _ ih =>
    simp only [meetT]
    split
    · rename_i q
      exact ⟨h.1, ih h.2 fun r hr => by cases hr; omega⟩
    · split
      · rename_i q; obtain rfl := cmpT_eq.1 q; exact ⟨h.1, h.2⟩
      · rename_i q q0
        refine ⟨hp, fun r hr => ?_, h.2⟩
        cases hr
        have := cmpT_range x e
        have := cmpT_neg x e
        omega
theorem coef_meet {t e x : T} {c : Int} (hw : ∀ y d l l', t = app l (cons y d l') → w (c + d) = c + d) : coef (meetT e c t) x = coef t x + (if cmpT e x = 0 then c else 0) := by
  induction t with
  | nil => simp [meetT, coef]
  | cons y d l _ ih =>
    have hy := hw y d nil l rfl
    have ih := ih fun z g m m' hm => hw z g (cons y d m) m' (by rw [hm]; rfl)
    simp only [meetT]
    split
    · simp only [coef, ih]; omega
    · split
      · rename_i q; obtain rfl := cmpT_eq.1 q
        simp only [coef, hy]
        split <;> omega
      · simp only [coef]; omega
end Go.Proofs.Try

namespace Go.Proofs.Try
open Go Go.AX T
/-- Coefficients above nothing. -/
def pos : T → Prop
  | nil => True
  | cons _ c l => 1 ≤ c ∧ pos l
theorem form_pos {p : Option T} {t : T} (h : formA p t = true) : pos t := by
  induction t generalizing p with
  | nil => trivial
  | cons e c l _ ih =>
    simp only [formA, Bool.and_eq_true, decide_eq_true_eq] at h
    exact ⟨h.1.1.1.1, ih h.2⟩
theorem coef_above {t x : T} : ∀ {e : T}, falls (some e) t → 0 ≤ cmpT x e → coef t x = 0 := by
  induction t with
  | nil => intro e _ _; rfl
  | cons y c l _ ih =>
    intro e h hx
    have h1 := h.1 e rfl
    have h2 : 0 < cmpT x y := by
      have r := cmpT_range x e
      rcases (show cmpT x e = 0 ∨ cmpT x e = 1 by omega) with q | q
      · obtain rfl := cmpT_eq.1 q; exact h1
      · exact cmp_lt_of (b := e) (by omega) (by have := cmpT_range e y; omega)
    have h3 := cmpT_neg x y
    simp only [coef]
    rw [if_neg (by omega), ih h.2 (by omega)]; rfl
theorem coef_nonneg {t x : T} (h : pos t) : 0 ≤ coef t x := by
  induction t with
  | nil => simp [coef]
  | cons e c l _ ih =>
    have := ih h.2
    have := h.1
    simp only [coef]
    split <;> omega
theorem coef_head {e l : T} {c : Int} (h : falls (some e) l) : coef (cons e c l) e = c := by
  simp only [coef, cmpT_refl, if_true]
  rw [coef_above h (by rw [cmpT_refl]; omega)]; omega
theorem coef_top {f m x : T} {d : Int} (h : falls (some f) m) (hx : 0 < cmpT x f) : coef (cons f d m) x = 0 := by
  have := cmpT_neg f x
  simp only [coef]
  rw [if_neg (by omega), coef_above h (by omega)]; rfl
/-- The first difference decides. -/
theorem cmp_of_coef {s t x : T} : ∀ {p q : Option T}, falls p s → falls q t → pos s → pos t → coef s x < coef t x → (∀ y, 0 < cmpT y x → coef s y = coef t y) → cmpT s t < 0 := by
  induction s generalizing t with
  | nil =>
    intro p q _ _ _ _ h _
    cases t with
    | nil => simp [coef] at h
    | cons => simp [cmpT]
  | cons e c l _ ih =>
    intro p q fs ft ps pt h hy
    cases t with
    | nil => have := coef_nonneg (x := x) ps; simp only [coef] at h this; omega
    | cons f d m =>
      have he := coef_head (c := c) fs.2
      have hf := coef_head (c := d) ft.2
      have n1 := cmpT_neg e f
      simp only [cmpT]
      rcases cmpT_range e f with r | r | r
      · rw [if_neg (by omega)]; omega
      · obtain rfl := cmpT_eq.1 r
        rw [if_pos r]
        by_cases g : 0 < cmpT e x
        · have := hy e g
          rw [he, hf] at this
          subst this
          rw [cmpI_refl, if_pos rfl]
          have key : ∀ y, coef (cons e c l) y = (if cmpT e y = 0 then c else 0) + coef l y := fun y => rfl
          have key2 : ∀ y, coef (cons e c m) y = (if cmpT e y = 0 then c else 0) + coef m y := fun y => rfl
          refine ih fs.2 ft.2 ps.2 pt.2 ?_ fun y hyx => ?_
          · rw [key, key2] at h; omega
          · have := hy y hyx; rw [key, key2] at this; omega
        · by_cases g0 : cmpT e x = 0
          · obtain rfl := cmpT_eq.1 g0
            rw [he, hf] at h
            have : cmpI c d = -1 := by unfold cmpI; rw [if_pos h]
            rw [this, if_neg (by decide)]; decide
          · exfalso
            have n2 := cmpT_neg e x
            have z1 : coef (cons e d m) x = 0 := coef_top ft.2 (by have := cmpT_range e x; omega)
            have := coef_nonneg (x := x) ps
            omega
      · exfalso
        have he' := coef_head (c := c) fs.2
        have z : coef (cons f d m) e = 0 := coef_top ft.2 (by omega)
        have pc := ps.1
        by_cases g : 0 < cmpT e x
        · have := hy e g; omega
        · by_cases g0 : cmpT e x = 0
          · obtain rfl := cmpT_eq.1 g0
            omega
          · have n2 := cmpT_neg e x
            have r2 := cmpT_range e x
            have z1 : coef (cons f d m) x = 0 := coef_top ft.2 (cmp_lt_of (b := e) (by omega) (Or.inl r))
            have := coef_nonneg (x := x) ps
            omega
theorem eq_of_coef {s t : T} : ∀ {p q : Option T}, falls p s → falls q t → pos s → pos t → (∀ y, coef s y = coef t y) → s = t := by
  induction s generalizing t with
  | nil =>
    intro p q _ ft _ pt h
    cases t with
    | nil => rfl
    | cons f d m =>
      have h1 := coef_head (c := d) ft.2
      have h2 := h f
      have h3 := pt.1
      simp only [coef] at h2 h1
      omega
  | cons e c l _ ih =>
    intro p q fs ft ps pt h
    have he := coef_head (c := c) fs.2
    have pc := ps.1
    cases t with
    | nil =>
      have h2 := h e
      rw [he] at h2
      simp only [coef] at h2
      omega
    | cons f d m =>
      have hf := coef_head (c := d) ft.2
      have pd := pt.1
      rcases cmpT_range e f with r | r | r
      · have z : coef (cons e c l) f = 0 := coef_top fs.2 (by have := cmpT_neg e f; omega)
        have := h f
        omega
      · obtain rfl := cmpT_eq.1 r
        have := h e
        rw [he, hf] at this
        subst this
        have : l = m := ih fs.2 ft.2 ps.2 pt.2 fun y => by
          have := h y
          simp only [coef] at this
          omega
        rw [this]
      · have z : coef (cons f d m) e = 0 := coef_top ft.2 (by omega)
        have := h e
        omega
end Go.Proofs.Try

namespace Go.Proofs.Try
open Go Go.AX T
theorem coef_goP {a f m x : T} {d : Int} (hw : ∀ y g l l', a = app l (cons y g l') → w (g + d) = g + d) : ∀ {p : Option T}, falls p a → falls (some f) m →
    coef (goP a f d m) x = (if 0 ≤ cmpT x f then coef a x else 0) + coef (cons f d m) x := by
  induction a with
  | nil => intro p _ _; simp [goP, coef]
  | cons e c l _ ih =>
    intro p ha hm
    have hc := hw e c nil l rfl
    have ih := ih (fun y g q q' hq => hw y g (cons e c q) q' (by rw [hq]; rfl)) ha.2 hm
    have r1 := cmpT_range e f
    have r2 := cmpT_range x f
    have n1 := cmpT_neg e x
    have n2 := cmpT_neg e f
    simp only [goP]
    by_cases q : cmpT e f = 1
    · rw [if_pos q]
      have key : coef (cons e c (goP l f d m)) x = (if cmpT e x = 0 then c else 0) + coef (goP l f d m) x := rfl
      have key2 : coef (cons e c l) x = (if cmpT e x = 0 then c else 0) + coef l x := rfl
      rw [key, key2, ih]
      by_cases g : cmpT e x = 0
      · obtain rfl := cmpT_eq.1 g
        rw [if_pos (by omega), if_pos (by omega), if_pos (by omega)]; omega
      · rw [if_neg g]
        split <;> omega
    · rw [if_neg q]
      have key2 : coef (cons e c l) x = (if cmpT e x = 0 then c else 0) + coef l x := rfl
      by_cases q0 : cmpT e f = 0
      · obtain rfl := cmpT_eq.1 q0
        rw [if_pos q0, hc, key2]
        have key : ∀ g : Int, coef (cons e g m) x = (if cmpT e x = 0 then g else 0) + coef m x := fun g => rfl
        rw [key, key]
        by_cases g : 0 ≤ cmpT x e
        · have z := coef_above (x := x) ha.2 g
          rw [if_pos g, z]
          split <;> omega
        · rw [if_neg g, if_neg (by omega), if_neg (by omega)]; omega
      · rw [if_neg q0, ih, key2]
        by_cases g : 0 ≤ cmpT x f
        · have h1 : ¬ cmpT e x = 0 := by
            intro h
            obtain rfl := cmpT_eq.1 h
            omega
          rw [if_pos g, if_pos g, if_neg h1]; omega
        · rw [if_neg g, if_neg g]
end Go.Proofs.Try

namespace Go.Proofs.Try
open Go Go.AX T
def joinT : T → T → T
  | a, nil => a
  | a, cons e c l => joinT (meetT e c a) l
theorem sm_at {B : Int} {t y : T} {g : Int} {l l' : T} (h : sm B t) (e : t = app l (cons y g l')) : -B ≤ g ∧ g ≤ B := by
  rw [e, sm_app] at h; exact h.2.2.1
theorem meetT_sm {B C : Int} {t e : T} {c : Int} (h : sm B t) (he : sm C e) (hc : -C ≤ c ∧ c ≤ C) (hB : 0 ≤ B ∧ 0 ≤ C ∧ B + C ≤ 1000000000000000) : sm (B + C) (meetT e c t) := by
  induction t with
  | nil => exact ⟨sm_mono he (by omega), by omega, trivial⟩
  | cons x d l _ ih =>
    obtain ⟨h1, h2, h3⟩ := h
    simp only [meetT]
    split
    · exact ⟨sm_mono h1 (by omega), by omega, ih h3⟩
    · split
      · refine ⟨sm_mono he (by omega), ?_, sm_mono h3 (by omega)⟩
        rw [show w (c + d) = c + d from wid (by omega) (by omega)]; omega
      · exact ⟨sm_mono he (by omega), by omega, sm_mono h1 (by omega), by omega, sm_mono h3 (by omega)⟩
theorem meetT_pos {t e : T} {c : Int} (h : pos t) (hc : 1 ≤ c) (hw : ∀ y d l l', t = app l (cons y d l') → w (c + d) = c + d) : pos (meetT e c t) := by
  induction t with
  | nil => exact ⟨hc, trivial⟩
  | cons x d l _ ih =>
    have hy := hw x d nil l rfl
    have h1 := h.1
    simp only [meetT]
    split
    · exact ⟨h.1, ih h.2 fun z g m m' hm => hw z g (cons x d m) m' (by rw [hm]; rfl)⟩
    · split
      · exact ⟨by rw [hy]; omega, h.2⟩
      · exact ⟨hc, h⟩
theorem join_all {B : Int} : ∀ (b a : T) (C : Int), sm C a → sm B b → 0 ≤ B → 0 ≤ C → C + B * b.len ≤ 1000000000000000 → falls none a → pos a → pos b →
    falls none (joinT a b) ∧ pos (joinT a b) ∧ sm (C + B * b.len) (joinT a b) ∧ ∀ x, coef (joinT a b) x = coef a x + coef b x
  | nil, a, C, sa, _, _, _, _, fa, pa, _ => ⟨fa, pa, sm_mono sa (by simp [len]), fun x => by simp [joinT, coef]⟩
  | cons e c l, a, C, sa, sb, hB, hC, hs, fa, pa, pb => by
    have e1 : B * ((l.len + 1 : Nat) : Int) = B * l.len + B := by rw [Int.natCast_add, Int.mul_add]; omega
    simp only [len] at hs ⊢
    have hnn : 0 ≤ B * (l.len : Int) := Int.mul_nonneg hB (by omega)
    rw [e1] at hs ⊢
    have hcB := sb.2.1
    have hw : ∀ y d m m', a = app m (cons y d m') → w (c + d) = c + d := fun y d m m' h => by
      have := sm_at sa h
      exact wid (by omega) (by omega)
    have hm := meetT_sm (B := C) (C := B) sa sb.1 sb.2.1 (by omega)
    obtain ⟨q1, q2, q3, q4⟩ := join_all l (meetT e c a) (C + B) hm sb.2.2 hB (by omega) (by omega) (falls_meet fa fun q hq => (by cases hq)) (meetT_pos pa pb.1 hw) pb.2
    refine ⟨q1, q2, sm_mono q3 (by omega), fun x => ?_⟩
    show coef (joinT (meetT e c a) l) x = _
    rw [q4, coef_meet hw]
    simp only [coef]; omega
theorem join_comm {a b : T} {B : Int} (sa : sm B a) (sb : sm B b) (hB : 0 ≤ B) (ha : B + B * a.len ≤ 1000000000000000) (hb : B + B * b.len ≤ 1000000000000000) (fa : falls none a) (fb : falls none b) (pa : pos a) (pb : pos b) : joinT a b = joinT b a := by
  obtain ⟨q1, q2, _, q4⟩ := join_all b a B sa sb hB hB hb fa pa pb
  obtain ⟨r1, r2, _, r4⟩ := join_all a b B sb sa hB hB ha fb pb pa
  exact eq_of_coef q1 r1 q2 r2 fun y => by rw [q4, r4]; omega
end Go.Proofs.Try

namespace Go.Proofs.Try
open Go Go.AX T
/-! ### what is left -/
def lessT : T → T → T
  | a, nil => a
  | nil, cons _ _ _ => nil
  | cons e c l, cons f d m => if cmpT e f = 0 then (if c = d then lessT l m else cons e (w (c - d)) l) else cons e c l
theorem lessT_nil (a : T) : lessT a nil = a := by cases a <;> rfl
theorem lessT_size (a b : T) : (lessT a b).size ≤ a.size := by
  induction a generalizing b with
  | nil => cases b <;> simp [lessT]
  | cons e c l _ ih =>
    cases b with
    | nil => simp [lessT]
    | cons f d m =>
      simp only [lessT]
      split
      · split
        · have := ih m; simp only [size]; omega
        · simp [size]
      · simp
theorem rows_cons_drop {a : T} {i : Nat} {e : T} {c : Int} {l : T} (h : drop a i = cons e c l) : a.rows.drop (i + 1) = l.rows := by rw [← rows_drop, drop_succ h]
theorem lessT_calm {a b : T} (ha : formA none a = true) (hb : formA none b = true) : calm (lessT a b) := by
  induction a generalizing b with
  | nil => cases b <;> trivial
  | cons e c l _ ih =>
    cases b with
    | nil => rw [lessT_nil]; exact form_calm ha
    | cons f d m =>
      have h1 := form_calm ha
      have h2 := form_calm hb
      simp only [formA, Bool.and_eq_true, decide_eq_true_eq] at ha hb
      simp only [lessT]
      split
      · split
        · exact ih (form_any ha.2) (form_any hb.2)
        · refine ⟨h1.1, ?_, h1.2.2⟩
          show _ ≤ w (c - d) ∧ w (c - d) ≤ _
          rw [show w (c - d) = c - d from wid (by omega) (by omega)]; omega
      · exact h1
end Go.Proofs.Try

namespace Go.Proofs.Try
open Go Go.AX T
theorem gt_of {e f : T} (h : ¬ cmpT e f = 1) (h0 : ¬ cmpT e f = 0) : cmpT e f < 0 := by
  rcases cmpT_range e f with q | q | q <;> omega
theorem gt_trans {e f g : T} (h1 : cmpT e f = 1) (h2 : cmpT f g = 1) : cmpT e g = 1 := by
  have q1 : cmpT f e < 0 := by rw [cmpT_neg e f]; omega
  have q2 : cmpT g f < 0 := by rw [cmpT_neg f g]; omega
  have := cmpT_trans q2 q1
  have q3 := cmpT_neg g e
  rcases cmpT_range e g with q | q | q <;> omega
theorem goP_low {m f g n : T} {h : Int} (hf : falls (some f) m) (hfg : cmpT f g < 0) : goP m g h n = cons g h n := by
  induction m generalizing f with
  | nil => rfl
  | cons x c l _ ih =>
    have h1 := hf.1 f rfl
    have h2 : cmpT x g < 0 := by
      have : cmpT x f < 0 := by rw [cmpT_neg f x]; omega
      exact cmpT_trans this hfg
    simp only [goP]
    rw [if_neg (by omega), if_neg (by omega)]
    exact ih hf.2 h2
theorem goP_A {a f g m n : T} {d h : Int} (hfg : cmpT f g = 1) : goP (goP a f d m) g h n = goP a f d (goP m g h n) := by
  induction a with
  | nil => simp only [goP, if_pos hfg]
  | cons e c l _ ih =>
    simp only [goP]
    split
    · rename_i q; simp only [goP]; rw [if_pos (gt_trans q hfg), ih]
    · split
      · rename_i q; obtain rfl := cmpT_eq.1 q; simp only [goP]; rw [if_pos hfg]
      · exact ih
theorem goP_BX {a f m n : T} {d h : Int} (ha : sm 1000000000000000 a) (hd : -1000000000000000 ≤ d ∧ d ≤ 1000000000000000) (hh : -1000000000000000 ≤ h ∧ h ≤ 1000000000000000) : goP (goP a f d m) f h n = goP a f (w (d + h)) n := by
  have r : cmpT f f = 0 := cmpT_refl f
  induction a with
  | nil => simp only [goP]; rw [if_neg (by omega), if_pos r]
  | cons e c l _ ih =>
    simp only [goP]
    split
    · rename_i q; simp only [goP]; rw [if_pos q, ih ha.2.2]
    · rename_i q0
      split
      · rename_i q; simp only [goP]; rw [if_neg q0, if_pos q]
        have hc := ha.2.1
        have e1 : w (c + d) = c + d := wid (by omega) (by omega)
        have e2 : w (d + h) = d + h := wid (by omega) (by omega)
        rw [e1, e2, Int.add_assoc]
      · exact ih ha.2.2
theorem goP_C {a f g m n : T} {d h : Int} : ∀ {p : Option T}, falls p a → falls (some f) m → cmpT f g < 0 → goP (goP a f d m) g h n = goP a g h n := by
  induction a with
  | nil =>
    intro p _ hm hfg
    simp only [goP]
    rw [if_neg (by omega), if_neg (by omega), goP_low hm hfg]
  | cons e c l _ ih =>
    intro p ha hm hfg
    have ih := ih ha.2 hm hfg
    by_cases q : cmpT e f = 1
    · simp only [goP, if_pos q]
      rw [ih]
    · by_cases q0 : cmpT e f = 0
      · obtain rfl := cmpT_eq.1 q0
        simp only [goP, if_neg q, if_pos q0]
        rw [if_neg (by omega), if_neg (by omega), if_neg (by omega), if_neg (by omega), goP_low hm hfg, goP_low ha.2 hfg]
      · have lt := gt_of q q0
        have lt2 := cmpT_trans lt hfg
        simp only [goP, if_neg q, if_neg q0]
        rw [if_neg (by omega), if_neg (by omega)]
        exact ih
theorem plusT_assocX {a b c : T} (sa : sm 1000000000000000 a) (sb : sm 1000000000000000 b) (sc : sm 1000000000000000 c) (fa : falls none a) (fb : falls none b) : plusT a (plusT b c) = plusT (plusT a b) c := by
  cases c with
  | nil => rfl
  | cons g h n =>
    cases b with
    | nil => rfl
    | cons f d m =>
      show plusT a (goP (cons f d m) g h n) = goP (goP a f d m) g h n
      by_cases q : cmpT f g = 1
      · rw [goP_A q]; simp only [goP, if_pos q]; rfl
      · by_cases q0 : cmpT f g = 0
        · obtain rfl := cmpT_eq.1 q0
          rw [goP_BX sa sb.2.1 sc.2.1]
          simp only [goP, if_neg q, if_pos q0]; rfl
        · have lt := gt_of q q0
          rw [goP_C fa fb.2 lt]
          simp only [goP, if_neg q, if_neg q0]
          rw [goP_low fb.2 lt]
          rfl
theorem plusT_assocB {a b c : T} (sa : sm 1000000000 a) (sb : sm 1000000000 b) (sc : sm 1000000000 c) (fa : falls none a) (fb : falls none b) : plusT a (plusT b c) = plusT (plusT a b) c :=
  plusT_assocX (sm_mono sa (by omega)) (sm_mono sb (by omega)) (sm_mono sc (by omega)) fa fb
theorem cmpT_cons_eq {e : T} {c : Int} {x y : T} : cmpT (cons e c x) (cons e c y) = cmpT x y := by
  simp only [cmpT, cmpT_refl, cmpI_refl, if_true]
theorem lessT_self {a : T} : lessT a a = nil := by
  induction a with
  | nil => rfl
  | cons e c l _ ih => simp only [lessT, cmpT_refl, if_true, ih]
theorem sub_goPB {a f m : T} {d : Int} (hd : 1 ≤ d ∧ d ≤ 1000000000) : ∀ {p : Option T}, falls p a → sm 1000000000 a → lessT (goP a f d m) a = cons f d m ∧ 0 ≤ cmpT (goP a f d m) a := by
  induction a with
  | nil => intro p _ _; exact ⟨rfl, by simp [goP, cmpT]⟩
  | cons e c l _ ih =>
    intro p hf hs
    have ih := ih hf.2 hs.2.2
    have hc := hs.2.1
    by_cases q : cmpT e f = 1
    · simp only [goP, if_pos q, lessT, cmpT_refl, if_true, cmpT_cons_eq]
      exact ih
    · by_cases q0 : cmpT e f = 0
      · obtain rfl := cmpT_eq.1 q0
        have e1 : w (c + d) = c + d := wid (by omega) (by omega)
        have e2 : w (c + d - c) = d := by rw [show w (c + d - c) = c + d - c from wid (by omega) (by omega)]; omega
        simp only [goP, if_neg q, if_pos q0, e1]
        refine ⟨?_, ?_⟩
        · simp only [lessT, cmpT_refl, if_true]
          rw [if_neg (by omega), e2]
        · have e3 : cmpI (c + d) c = 1 := by unfold cmpI; rw [if_neg (by omega), if_pos (by omega)]
          simp only [cmpT, cmpT_refl, e3]
          simp
      · have lt := gt_of q q0
        have e1 : cmpT f e = 1 := by rw [cmpT_neg e f]; rcases cmpT_range e f with z | z | z <;> omega
        have e2 : goP (cons e c l) f d m = cons f d m := by
          simp only [goP, if_neg q, if_neg q0]; exact goP_low hf.2 lt
        rw [e2]
        refine ⟨?_, ?_⟩
        · simp only [lessT]; rw [if_neg (by omega)]
        · simp only [cmpT, e1]; simp
theorem sub_plusB {a b : T} (fa : falls none a) (sa : sm 1000000000 a) (sb : sm 1000000000 b) (pb : ∀ f d m, b = cons f d m → 1 ≤ d) : lessT (plusT a b) a = b ∧ 0 ≤ cmpT (plusT a b) a := by
  cases b with
  | nil => exact ⟨lessT_self, by show 0 ≤ cmpT a a; rw [cmpT_refl]; omega⟩
  | cons f d m => exact sub_goPB ⟨pb f d m rfl, sb.2.1.2⟩ fa sa
end Go.Proofs.Try

namespace Go.Proofs.Try
open Go Go.AX T
theorem falls_weak {q e l : T} {p : Option T} (h : falls (some e) l) (hp : ∀ q, p = some q → 0 < cmpT q e) : falls p l := by
  cases l with
  | nil => trivial
  | cons x c m =>
    refine ⟨fun r hr => ?_, h.2⟩
    have h1 := hp r hr
    have h2 := h.1 e rfl
    have := cmpT_range e x
    exact cmp_lt_of h1 (by omega)
theorem falls_goP {a f m : T} {d : Int} {p : Option T} (ha : falls p a) (hp : ∀ q, p = some q → 0 < cmpT q f) (hm : falls (some f) m) : falls p (goP a f d m) := by
  induction a generalizing p with
  | nil => exact ⟨hp, hm⟩
  | cons e c l _ ih =>
    simp only [goP]
    split
    · rename_i q
      exact ⟨ha.1, ih ha.2 fun r hr => by cases hr; omega⟩
    · split
      · rename_i q; obtain rfl := cmpT_eq.1 q; exact ⟨ha.1, hm⟩
      · exact ih (falls_weak (q := e) ha.2 ha.1) hp
theorem falls_plusT {a b : T} (ha : falls none a) (hb : falls none b) : falls none (plusT a b) := by
  cases b with
  | nil => exact ha
  | cons f d m => exact falls_goP ha (fun q hq => by cases hq) hb.2
/-- Coefficients above nothing. -/
def posT : T → Prop
  | .nil => True
  | .cons _ c l => 1 ≤ c ∧ posT l
/-- Terms as those of a right ordinal, but for its nodes. -/
def okT (B : Int) (Z : Nat) (n : T) : Prop := falls none n ∧ posT n ∧ sm B n ∧ n.size ≤ Z
theorem ordP_okT {t : T} (h : ordP t = true) : okT 1000000 30 t := by
  refine ⟨form_falls (ordP_form h), ?_, form_sm (ordP_form h), ordP_size h⟩
  have key : ∀ (p : Option T) (t : T), formA p t = true → posT t := by
    intro p t
    induction t generalizing p with
    | nil => intro _; trivial
    | cons e c l _ ih =>
      intro h
      simp only [formA, Bool.and_eq_true, decide_eq_true_eq] at h
      exact ⟨h.1.1.1.1, ih _ h.2⟩
  exact key _ _ (ordP_form h)
theorem okT_calm {B : Int} {Z : Nat} {n : T} (h : okT B Z n) (hB : B ≤ 1000000000000000) : calm n := sm_calm h.2.2.1 hB
theorem okT_mono {B C : Int} {Z Y : Nat} {n : T} (h : okT B Z n) (hB : B ≤ C) (hZ : Z ≤ Y) : okT C Y n := ⟨h.1, h.2.1, sm_mono h.2.2.1 hB, by have := h.2.2.2; omega⟩
theorem less_parts {B : Int} (hB : B ≤ 1000000000000000) {a : T} : ∀ {b : T} {p : Option T}, falls p a → posT a → posT b → sm B a → 0 ≤ cmpT a b → falls none (lessT a b) ∧ posT (lessT a b) ∧ sm B (lessT a b) := by
  induction a with
  | nil =>
    intro b p _ _ _ _ _
    have : lessT .nil b = .nil := by cases b <;> rfl
    rw [this]
    exact ⟨trivial, trivial, trivial⟩
  | cons e c l _ ih =>
    intro b p fa pa pb sa h
    have f0 : ∀ x, falls none (.cons e x l) := fun x => ⟨fun _ h => (by cases h), fa.2⟩
    cases b with
    | nil => exact ⟨f0 c, pa, sa⟩
    | cons f d m =>
      simp only [lessT]
      simp only [cmpT] at h
      split
      · rename_i q1
        rw [if_pos q1] at h
        split
        · rename_i q2
          rw [if_pos (cmpI_eq.2 q2)] at h
          exact ih (p := some e) fa.2 pa.2 pb.2 sa.2.2 h
        · rename_i q2
          rw [if_neg (fun q => q2 (cmpI_eq.1 q))] at h
          have hcd : d < c := by
            unfold cmpI at h
            split at h
            · omega
            · omega
          have b1 := sa.2.1
          have b2 := pb.1
          have e1 : w (c - d) = c - d := wid (by omega) (by omega)
          rw [e1]
          exact ⟨f0 _, ⟨by omega, pa.2⟩, sa.1, by omega, sa.2.2⟩
      · exact ⟨f0 c, pa, sa⟩
theorem less_ok {B C : Int} {Z Y : Nat} {a b : T} (hB : B ≤ 1000000000000000) (ha : okT B Z a) (hb : okT C Y b) (h : 0 ≤ cmpT a b) : okT B Z (lessT a b) := by
  obtain ⟨h1, h2, h3⟩ := less_parts hB ha.1 ha.2.1 hb.2.1 ha.2.2.1 h
  have := lessT_size a b
  exact ⟨h1, h2, h3, by have := ha.2.2.2; omega⟩
theorem lessT_same (a : T) : lessT a a = .nil := by
  induction a with
  | nil => rfl
  | cons e c l _ ih => simp [lessT, cmpT_refl, ih]
theorem plusT_nilL (x : T) : plusT .nil x = x := by cases x <;> rfl
theorem posT_goP {a f m : T} {d : Int} (sa : sm 1000000000 a) (pa : posT a) (hd : 1 ≤ d ∧ d ≤ 1000000000) (pm : posT m) : posT (goP a f d m) := by
  induction a with
  | nil => exact ⟨hd.1, pm⟩
  | cons e c l _ ih =>
    have := ih sa.2.2 pa.2
    simp only [goP]
    split
    · exact ⟨pa.1, this⟩
    · split
      · have b1 := sa.2.1
        have b2 := pa.1
        refine ⟨?_, pm⟩
        rw [show w (c + d) = c + d from wid (by omega) (by omega)]; omega
      · exact this
theorem posT_plus {a b : T} (sa : sm 1000000000 a) (sb : sm 1000000000 b) (pa : posT a) (pb : posT b) : posT (plusT a b) := by
  cases b with
  | nil => exact pa
  | cons f d m => exact posT_goP sa pa ⟨pb.1, sb.2.1.2⟩ pb.2
/-- Exponents that are so. -/
def exOk (B : Int) : T → Prop
  | .nil => True
  | .cons e _ l => (falls none e ∧ posT e ∧ sm B e) ∧ exOk B l
theorem form_posT {p : Option T} {t : T} (h : formA p t = true) : posT t := by
  induction t generalizing p with
  | nil => trivial
  | cons e c l _ ih =>
    simp only [formA, Bool.and_eq_true, decide_eq_true_eq] at h
    exact ⟨h.1.1.1.1, ih h.2⟩
theorem form_exOk {p : Option T} {t : T} (h : formA p t = true) : exOk 1000000 t := by
  induction t generalizing p with
  | nil => trivial
  | cons e c l _ ih =>
    simp only [formA, Bool.and_eq_true, decide_eq_true_eq] at h
    exact ⟨⟨form_falls h.1.1.2, form_posT h.1.1.2, form_sm h.1.1.2⟩, ih h.2⟩
theorem exOk_mono {B C : Int} {t : T} (h : exOk B t) (hB : B ≤ C) : exOk C t := by
  induction t with
  | nil => trivial
  | cons e c l _ ih => exact ⟨⟨h.1.1, h.1.2.1, sm_mono h.1.2.2 hB⟩, ih h.2⟩
theorem exOk_app {B : Int} {a b : T} : exOk B (app a b) ↔ exOk B a ∧ exOk B b := by
  induction a with
  | nil => simp [app, exOk]
  | cons e c l _ ih => simp only [app, exOk, ih, and_assoc]
theorem exOk_goP {B : Int} {a f m : T} {d : Int} (ha : exOk B a) (hf : falls none f ∧ posT f ∧ sm B f) (hm : exOk B m) : exOk B (goP a f d m) := by
  induction a with
  | nil => exact ⟨hf, hm⟩
  | cons e c l _ ih =>
    simp only [goP]
    split
    · exact ⟨ha.1, ih ha.2⟩
    · split
      · exact ⟨ha.1, hm⟩
      · exact ih ha.2
theorem exOk_plus {B : Int} {a b : T} (ha : exOk B a) (hb : exOk B b) : exOk B (plusT a b) := by
  cases b with
  | nil => exact ha
  | cons f d m => exact exOk_goP ha hb.1 hb.2
/-- What is added on the right decides. -/
theorem plus_lt {a g n : T} {h : Int} {p : Option T} (fa : falls p a) (sa : sm 1000000000 a) (hh : 1 ≤ h ∧ h ≤ 1000000000) : cmpT (goP a g h n) a = 1 := by
  obtain ⟨k1, k2⟩ := sub_goPB (f := g) (m := n) hh fa sa
  rcases cmpT_range (goP a g h n) a with q | q | q
  · omega
  · rw [cmpT_eq.1 q, lessT_same] at k1; cases k1
  · exact q
theorem plus_mono {a : T} : ∀ {p : Option T} {f g m n : T} {d h : Int}, falls p a → sm 1000000000 a → (1 ≤ d ∧ d ≤ 1000000000) → (1 ≤ h ∧ h ≤ 1000000000) → cmpT (goP a f d m) (goP a g h n) = cmpT (cons f d m) (cons g h n) := by
  induction a with
  | nil => intros; rfl
  | cons e c l _ ih =>
    intro p f g m n d h fa sa hd hh
    have b1 := sa.2.1
    have wd : w (c + d) = c + d := wid (by omega) (by omega)
    have wh : w (c + h) = c + h := wid (by omega) (by omega)
    have n1 := cmpT_neg e f
    have n2 := cmpT_neg e g
    have n3 := cmpT_neg f g
    have r3 := cmpT_range f g
    have same : ∀ x y : T, cmpT (cons e c x) (cons e c y) = cmpT x y := fun x y => by simp [cmpT, cmpT_refl, cmpI_refl]
    have cI1 : cmpI c (c + h) = -1 := by unfold cmpI; rw [if_pos (by omega)]
    have cI2 : cmpI (c + d) c = 1 := by unfold cmpI; rw [if_neg (by omega), if_pos (by omega)]
    have cI3 : cmpI (c + d) (c + h) = cmpI d h := by
      unfold cmpI
      by_cases q1 : d < h
      · rw [if_pos (by omega), if_pos q1]
      · by_cases q2 : h < d
        · rw [if_neg (by omega), if_pos (by omega), if_neg q1, if_pos q2]
        · rw [if_neg (by omega), if_neg (by omega), if_neg q1, if_neg q2]
    rcases cmpT_range e f with rf | rf | rf <;> rcases cmpT_range e g with rg | rg | rg
    · -- both are greater
      have z1 : goP (cons e c l) f d m = cons f d m := by simp only [goP]; rw [if_neg (by omega), if_neg (by omega)]; exact goP_low fa.2 (by omega)
      have z2 : goP (cons e c l) g h n = cons g h n := by simp only [goP]; rw [if_neg (by omega), if_neg (by omega)]; exact goP_low fa.2 (by omega)
      rw [z1, z2]
    · have z1 : goP (cons e c l) f d m = cons f d m := by simp only [goP]; rw [if_neg (by omega), if_neg (by omega)]; exact goP_low fa.2 (by omega)
      obtain rfl := cmpT_eq.1 rg
      have z2 : goP (cons e c l) e h n = cons e (c + h) n := by simp only [goP]; rw [if_neg (by omega), if_pos rg, wh]
      rw [z1, z2]
      simp only [cmpT]
      rw [if_neg (by omega), if_neg (by omega)]
    · have z1 : goP (cons e c l) f d m = cons f d m := by simp only [goP]; rw [if_neg (by omega), if_neg (by omega)]; exact goP_low fa.2 (by omega)
      have z2 : goP (cons e c l) g h n = cons e c (goP l g h n) := by simp only [goP]; rw [if_pos rg]
      have fg : cmpT f g = 1 := gt_trans (e := f) (f := e) (by omega) rg
      rw [z1, z2]
      simp only [cmpT]
      rw [if_neg (by omega), if_neg (by omega)]; omega
    · obtain rfl := cmpT_eq.1 rf
      have z1 : goP (cons e c l) e d m = cons e (c + d) m := by simp only [goP]; rw [if_neg (by omega), if_pos rf, wd]
      have z2 : goP (cons e c l) g h n = cons g h n := by simp only [goP]; rw [if_neg (by omega), if_neg (by omega)]; exact goP_low fa.2 (by omega)
      rw [z1, z2]
      simp only [cmpT]
      rw [if_neg (by omega), if_neg (by omega)]
    · obtain rfl := cmpT_eq.1 rf
      obtain rfl := cmpT_eq.1 rg
      have z1 : ∀ (x : Int) (y : T), w (c + x) = c + x → goP (cons e c l) e x y = cons e (c + x) y := fun x y hx => by simp only [goP]; rw [if_neg (by omega), if_pos rf, hx]
      rw [z1 d m wd, z1 h n wh]
      simp only [cmpT, cI3]
    · obtain rfl := cmpT_eq.1 rf
      have z1 : goP (cons e c l) e d m = cons e (c + d) m := by simp only [goP]; rw [if_neg (by omega), if_pos rf, wd]
      have z2 : goP (cons e c l) g h n = cons e c (goP l g h n) := by simp only [goP]; rw [if_pos rg]
      rw [z1, z2]
      simp only [cmpT, cI2, cmpT_refl]
      rw [if_neg (show ¬ cmpT e g = 0 by omega)]
      simp; omega
    · have z1 : goP (cons e c l) f d m = cons e c (goP l f d m) := by simp only [goP]; rw [if_pos rf]
      have z2 : goP (cons e c l) g h n = cons g h n := by simp only [goP]; rw [if_neg (by omega), if_neg (by omega)]; exact goP_low fa.2 (by omega)
      have fg : cmpT g f = 1 := gt_trans (e := g) (f := e) (by omega) rf
      rw [z1, z2]
      simp only [cmpT]
      rw [if_neg (by omega), if_neg (by omega)]; omega
    · obtain rfl := cmpT_eq.1 rg
      have z1 : goP (cons e c l) f d m = cons e c (goP l f d m) := by simp only [goP]; rw [if_pos rf]
      have z2 : goP (cons e c l) e h n = cons e (c + h) n := by simp only [goP]; rw [if_neg (by omega), if_pos rg, wh]
      rw [z1, z2]
      simp only [cmpT, cI1, cmpT_refl]
      rw [if_neg (show ¬ cmpT f e = 0 by omega)]
      simp; omega
    · have z1 : goP (cons e c l) f d m = cons e c (goP l f d m) := by simp only [goP]; rw [if_pos rf]
      have z2 : goP (cons e c l) g h n = cons e c (goP l g h n) := by simp only [goP]; rw [if_pos rg]
      rw [z1, z2, same]
      exact ih fa.2 sa.2.2 hd hh
/-- A sum is monotone in what is added on the right. -/
theorem plusT_cmp {a x y : T} (fa : falls none a) (sa : sm 1000000000 a) (px : posT x) (py : posT y) (sx : sm 1000000000 x) (sy : sm 1000000000 y) : cmpT (plusT a x) (plusT a y) = cmpT x y := by
  cases x with
  | nil =>
    cases y with
    | nil => exact cmpT_refl _
    | cons g h n =>
      have := plus_lt (g := g) (n := n) fa sa ⟨py.1, sy.2.1.2⟩
      show cmpT a (goP a g h n) = _
      rw [cmpT_neg (goP a g h n) a, this]; rfl
  | cons f d m =>
    cases y with
    | nil =>
      have := plus_lt (g := f) (n := m) fa sa ⟨px.1, sx.2.1.2⟩
      show cmpT (goP a f d m) a = _
      rw [this]; rfl
    | cons g h n => exact plus_mono fa sa ⟨px.1, sx.2.1.2⟩ ⟨py.1, sy.2.1.2⟩
end Go.Proofs.Try

namespace Go.Proofs.Try
open Go Go.AX T
/-- A product with a right ordinal w^a1 c1 + a', term by term. -/
def tmG (a1 : T) (c1 : Int) (a' : T) : T → T
  | nil => nil
  | cons nil d m => app (cons a1 (w (c1 * d)) a') (tmG a1 c1 a' m)
  | cons (cons x y z) d m => cons (plusT a1 (cons x y z)) d (tmG a1 c1 a' m)
def timesT : T → T → T
  | nil, _ => nil
  | cons a1 c1 a', b => tmG a1 c1 a' b
theorem tmG_size (a1 : T) (c1 : Int) (a' : T) : ∀ b : T, (tmG a1 c1 a' b).size ≤ b.size * (a1.size + a'.size + 2)
  | nil => by simp [tmG, size]
  | cons nil d m => by
    have ih := tmG_size a1 c1 a' m
    simp only [tmG, size_app, size]
    rw [show 0 + m.size + 1 = m.size + 1 by omega, Nat.add_mul, Nat.one_mul]
    omega
  | cons (cons x y z) d m => by
    have ih := tmG_size a1 c1 a' m
    have h1 := plusT_size a1 (cons x y z)
    simp only [tmG]
    rw [show (cons (plusT a1 (cons x y z)) d (tmG a1 c1 a' m)).size = (plusT a1 (cons x y z)).size + (tmG a1 c1 a' m).size + 1 from rfl, show (cons (cons x y z) d m).size = (cons x y z).size + m.size + 1 from rfl, Nat.add_mul, Nat.add_mul, Nat.one_mul]
    have : (cons x y z).size ≤ (cons x y z).size * (a1.size + a'.size + 2) := Nat.le_mul_of_pos_right _ (by omega)
    omega
theorem posT_app {a b : T} : posT (app a b) ↔ posT a ∧ posT b := by
  induction a with
  | nil => simp [app, posT]
  | cons e c l _ ih => simp only [app, posT, ih, and_assoc]
theorem mul_in {a b B C : Int} (ha : 0 ≤ a ∧ a ≤ B) (hb : 0 ≤ b ∧ b ≤ C) : 0 ≤ a * b ∧ a * b ≤ B * C :=
  ⟨Int.mul_nonneg ha.1 hb.1, Int.mul_le_mul ha.2 hb.2 hb.1 (by omega)⟩
theorem tmG_sm {B C D : Int} {a1 a' : T} {c1 : Int} (s1 : sm B a1) (hc : 0 ≤ c1 ∧ c1 ≤ B) (s' : sm B a') (hB : 0 ≤ B ∧ 0 ≤ C ∧ B + C ≤ D ∧ B * C ≤ D ∧ D ≤ 1000000000000000) : ∀ b : T, sm C b → posT b → sm D (tmG a1 c1 a' b)
  | nil, _, _ => trivial
  | cons nil d m, hs, hp => by
    have ih := tmG_sm s1 hc s' hB m hs.2.2 hp.2
    have hm := mul_in hc ⟨by have := hp.1; omega, hs.2.1.2⟩
    simp only [tmG, sm_app]
    refine ⟨⟨sm_mono s1 (by omega), ?_, sm_mono s' (by omega)⟩, ih⟩
    rw [show w (c1 * d) = c1 * d from wid (by omega) (by omega)]; omega
  | cons (cons x y z) d m, hs, hp => by
    have ih := tmG_sm s1 hc s' hB m hs.2.2 hp.2
    have h1 := hs.2.1
    exact ⟨sm_mono (plusT_sm s1 hs.1 ⟨by omega, by omega, by omega⟩) (by omega), ⟨by omega, by omega⟩, ih⟩
theorem tmG_pos {B C : Int} {a1 a' : T} {c1 : Int} (hc : 1 ≤ c1 ∧ c1 ≤ B) (p' : posT a') (hB : B * C ≤ 1000000000000000) : ∀ b : T, sm C b → posT b → posT (tmG a1 c1 a' b)
  | nil, _, _ => trivial
  | cons nil d m, hs, hp => by
    have ih := tmG_pos (a1 := a1) hc p' hB m hs.2.2 hp.2
    have hm := mul_in (B := B) ⟨by omega, hc.2⟩ ⟨by have := hp.1; omega, hs.2.1.2⟩
    have h1 : 1 * 1 ≤ c1 * d := Int.mul_le_mul hc.1 hp.1 (by omega) (by omega)
    have e1 : w (c1 * d) = c1 * d := wid (by omega) (by omega)
    simp only [tmG, posT_app]
    exact ⟨⟨by omega, p'⟩, ih⟩
  | cons (cons x y z) d m, hs, hp => ⟨hp.1, tmG_pos hc p' hB m hs.2.2 hp.2⟩
theorem tmG_exOk {B C D : Int} {a1 a' : T} {c1 : Int} (f1 : falls none a1 ∧ posT a1 ∧ sm B a1) (e' : exOk D a') (hB : 0 ≤ B ∧ 0 ≤ C ∧ B ≤ 1000000000 ∧ C ≤ 1000000000 ∧ B + C ≤ D) : ∀ b : T, exOk C b → exOk D (tmG a1 c1 a' b)
  | nil, _ => trivial
  | cons nil d m, hb => by
    have ih := tmG_exOk (c1 := c1) f1 e' hB m hb.2
    simp only [tmG, exOk_app]
    exact ⟨⟨⟨f1.1, f1.2.1, sm_mono f1.2.2 (by omega)⟩, e'⟩, ih⟩
  | cons (cons x y z) d m, hb => by
    have ih := tmG_exOk (c1 := c1) f1 e' hB m hb.2
    have h1 := hb.1
    refine ⟨⟨falls_plusT f1.1 h1.1, posT_plus (sm_mono f1.2.2 (by omega)) (sm_mono h1.2.2 (by omega)) f1.2.1 h1.2.1, ?_⟩, ih⟩
    exact sm_mono (plusT_sm f1.2.2 h1.2.2 ⟨by omega, by omega, by omega⟩) (by omega)
theorem falls_low {m : T} (h : falls (some nil) m) : m = nil := by
  cases m with
  | nil => rfl
  | cons e c l => exfalso; have := h.1 nil rfl; cases e <;> simp [cmpT] at this
theorem tmG_falls {a1 a' : T} {c1 : Int} (f1 : falls none a1) (s1 : sm 1000000000 a1) (fa : falls (some a1) a') : ∀ (b : T) (q : Option T), (∀ r, q = some r → posT r ∧ sm 1000000000 r) → falls q b → exOk 1000000000 b → falls (q.map (plusT a1)) (tmG a1 c1 a' b)
  | nil, _, _, _, _ => trivial
  | cons nil d m, q, hq, hf, he => by
    have hm := falls_low hf.2
    subst hm
    simp only [tmG, T.app_nil]
    refine ⟨fun r hr => ?_, fa⟩
    cases q with
    | none => cases hr
    | some q =>
      have := plusT_cmp (y := nil) f1 s1 (hq q rfl).1 trivial (hq q rfl).2 trivial
      have h0 := hf.1 q rfl
      obtain rfl : plusT a1 q = r := Option.some.inj hr
      rw [show plusT a1 nil = a1 from rfl] at this
      omega
  | cons (cons x y z) d m, q, hq, hf, he => by
    have ih := tmG_falls (c1 := c1) f1 s1 fa m (some (cons x y z)) (fun r hr => by cases hr; exact ⟨he.1.2.1, he.1.2.2⟩) hf.2 he.2
    refine ⟨fun r hr => ?_, ih⟩
    cases q with
    | none => cases hr
    | some q =>
      have := plusT_cmp (y := cons x y z) f1 s1 (hq q rfl).1 he.1.2.1 (hq q rfl).2 he.1.2.2
      have h0 := hf.1 q rfl
      obtain rfl : plusT a1 q = r := Option.some.inj hr
      omega
/-! ### impl's product -/
/-! ### the reference's product -/
/-- What is less than all ahead of it is only added at the end. -/
theorem splus_at {acc p : T} (h : acc = nil ∨ ∃ l y c, acc = app l (cons y c nil) ∧ falls (some y) p) (hp : falls none p) : splus acc p = app acc p := by
  rcases h with rfl | ⟨l, y, c, rfl, h⟩
  · rw [splus_plus (a := nil) trivial hp, plusT_nilL]; rfl
  · exact splus_end h
theorem falls_app1 {p : Option T} {l x : T} (h : falls p (app l x)) : falls p l := by
  induction l generalizing p with
  | nil => trivial
  | cons e c l _ ih => exact ⟨h.1, ih h.2⟩
theorem falls_none {p : Option T} {l : T} (h : falls p l) : falls none l := by
  cases l with
  | nil => trivial
  | cons e c l => exact ⟨fun _ h => (by cases h), h.2⟩
end Go.Proofs.Try

namespace Go.Proofs.Try
open Go Go.AX T
theorem tm_head {a1 a' : T} {c1 : Int} (f : T) (d : Int) (m : T) : ∃ d' m', tmG a1 c1 a' (cons f d m) = cons (plusT a1 f) d' m' := by
  cases f with
  | nil => exact ⟨w (c1 * d), app a' (tmG a1 c1 a' m), rfl⟩
  | cons x y z => exact ⟨d, tmG a1 c1 a' m, rfl⟩
theorem plusT_c (a f : T) (d : Int) (m : T) : plusT a (cons f d m) = goP a f d m := rfl
theorem tm_dist {a1 a' : T} {c1 : Int} (f1 : falls none a1) (s1 : sm 1000000000 a1) (fa : falls (some a1) a') (hc1 : 0 ≤ c1 ∧ c1 ≤ 1000000000) {f : T} {d : Int} {m : T} (fc : falls none (cons f d m)) (sc : sm 1000000000 (cons f d m)) (ec : exOk 1000000000 (cons f d m)) (pc : posT (cons f d m)) :
    ∀ (b : T) (p : Option T), falls p b → sm 1000000000 b → exOk 1000000000 b → posT b → tmG a1 c1 a' (goP b f d m) = plusT (tmG a1 c1 a' b) (tmG a1 c1 a' (cons f d m))
  | nil, _, _, _, _, _ => by simp only [goP]; rw [show tmG a1 c1 a' nil = nil from rfl, plusT_nilL]
  | cons e c l, p, fb, sb, eb, pb => by
    obtain ⟨d', m', hX⟩ := tm_head (a1 := a1) (a' := a') (c1 := c1) f d m
    have hcmp := plusT_cmp (y := f) f1 s1 eb.1.2.1 ec.1.2.1 eb.1.2.2 ec.1.2.2
    by_cases q : cmpT e f = 1
    · have ih := tm_dist f1 s1 fa hc1 fc sc ec pc l (some e) fb.2 sb.2.2 eb.2 pb.2
      have hne : ∃ x y z, e = cons x y z := by
        cases e with
        | nil => cases f <;> simp [cmpT] at q
        | cons x y z => exact ⟨x, y, z, rfl⟩
      obtain ⟨x, y, z, rfl⟩ := hne
      simp only [goP, if_pos q, tmG]
      rw [ih, hX, plusT_c _ (plusT a1 f) d' m', plusT_c _ (plusT a1 f) d' m']
      have hg : cmpT (plusT a1 (cons x y z)) (plusT a1 f) = 1 := by omega
      simp only [goP, if_pos hg]
    · by_cases q0 : cmpT e f = 0
      · obtain rfl := cmpT_eq.1 q0
        have hb := sb.2.1
        have hd := sc.2.1
        have p1 := pb.1
        have p2 := pc.1
        simp only [goP, if_neg q, if_pos q0]
        cases e with
        | nil =>
          obtain rfl := falls_low fb.2
          obtain rfl := falls_low fc.2
          have e1 : w (c + d) = c + d := wid (by omega) (by omega)
          have m1 := mul_in hc1 (show 0 ≤ c ∧ c ≤ 1000000000 by omega)
          have m2 := mul_in hc1 (show 0 ≤ d ∧ d ≤ 1000000000 by omega)
          simp only [tmG, T.app_nil, plusT, goP, cmpT_refl]
          rw [if_neg (by omega), if_pos trivial, e1, show w (c1 * c) = c1 * c from wid (by omega) (by omega), show w (c1 * d) = c1 * d from wid (by omega) (by omega), Int.mul_add]
        | cons x y z =>
          simp only [tmG]
          rw [show ∀ t u v s, plusT (cons (plusT a1 (cons x y z)) t u) (cons (plusT a1 (cons x y z)) v s) = goP (cons (plusT a1 (cons x y z)) t u) (plusT a1 (cons x y z)) v s from fun _ _ _ _ => rfl]
          simp only [goP, cmpT_refl]
          rw [if_neg (by omega), if_pos trivial]
      · have lt := gt_of q q0
        have e1 : goP (cons e c l) f d m = cons f d m := by simp only [goP, if_neg q, if_neg q0]; exact goP_low fb.2 lt
        rw [e1, hX]
        obtain ⟨c', l', hY⟩ := tm_head (a1 := a1) (a' := a') (c1 := c1) e c l
        have hfy := tmG_falls (c1 := c1) f1 s1 fa (cons e c l) none (fun r h => (by cases h)) ⟨fun r h => (by cases h), fb.2⟩ eb
        rw [hY] at hfy ⊢
        rw [plusT_c _ (plusT a1 f) d' m']
        have hg : cmpT (plusT a1 e) (plusT a1 f) < 0 := by omega
        simp only [goP]
        rw [if_neg (by omega), if_neg (by omega), goP_low hfy.2 hg]
theorem times_dist {a b c : T} (fa : falls none a) (pa : posT a) (sa : sm 1000000000 a) (ea : exOk 1000000000 a) (fb : falls none b) (sb : sm 1000000000 b) (eb : exOk 1000000000 b) (pb : posT b) (fc : falls none c) (sc : sm 1000000000 c) (ec : exOk 1000000000 c) (pc : posT c) : timesT a (plusT b c) = plusT (timesT a b) (timesT a c) := by
  cases a with
  | nil => rfl
  | cons a1 c1 a' =>
    cases c with
    | nil => rfl
    | cons f d m => exact tm_dist ea.1.1 ea.1.2.2 fa.2 ⟨by have := pa.1; omega, sa.2.1.2⟩ fc sc ec pc b none fb sb eb pb
theorem falls_less {l : T} : ∀ {e m x : T} {y : Int} {z : T}, falls (some e) l → lessT l m = cons x y z → 0 < cmpT e x := by
  induction l with
  | nil => intro e m x y z _ h; cases m <;> simp [lessT] at h
  | cons a c l _ ih =>
    intro e m x y z hf h
    have h1 := hf.1 e rfl
    cases m with
    | nil => rw [lessT_nil] at h; injection h with h2; rw [← h2]; exact h1
    | cons f d m =>
      simp only [lessT] at h
      split at h
      · split at h
        · have := ih hf.2 h
          have q1 : cmpT x a < 0 := by rw [cmpT_neg a x]; omega
          have q2 : cmpT a e < 0 := by rw [cmpT_neg e a]; omega
          have := cmpT_trans q1 q2
          rw [cmpT_neg x e]; omega
        · injection h with h2; rw [← h2]; exact h1
      · injection h with h2; rw [← h2]; exact h1
/-- What is left, added again. -/
theorem plus_lessX {a : T} : ∀ {b : T} {p q : Option T}, falls p a → falls q b → posT a → posT b → sm 1000000000000000 a → sm 1000000000000000 b → 0 ≤ cmpT a b → plusT b (lessT a b) = a := by
  induction a with
  | nil =>
    intro b p q _ _ _ _ _ _ h
    cases b with
    | nil => rfl
    | cons f d m => simp [cmpT] at h
  | cons e c l _ ih =>
    intro b p q fa fb pa pb sa sb h
    cases b with
    | nil => rw [lessT_nil, plusT_nilL]
    | cons f d m =>
      simp only [cmpT] at h
      simp only [lessT]
      by_cases q1 : cmpT e f = 0
      · obtain rfl := cmpT_eq.1 q1
        rw [if_pos q1] at h ⊢
        by_cases q2 : c = d
        · subst q2
          rw [cmpI_refl, if_pos rfl] at h
          rw [if_pos rfl]
          have ih := ih fa.2 fb.2 pa.2 pb.2 sa.2.2 sb.2.2 h
          obtain ⟨h1, h2, h3⟩ := less_parts (B := 1000000000000000) (by omega) fa.2 pa.2 pb.2 sa.2.2 h
          cases hx : lessT l m with
          | nil =>
            rw [hx] at ih
            show cons e c m = cons e c l
            rw [show plusT m nil = m from rfl] at ih
            rw [ih]
          | cons x y z =>
            rw [hx] at ih
            have hxe : cmpT e x = 1 := by
              have := (falls_less fa.2 hx)
              have := cmpT_range e x
              omega
            simp only [plusT] at ih ⊢
            simp only [goP, if_pos hxe]
            rw [ih]
        · rw [if_neg (fun z => q2 (cmpI_eq.1 z))] at h
          have hcd : d < c := by
            unfold cmpI at h
            split at h
            · omega
            · omega
          rw [if_neg q2]
          have b1 := sa.2.1
          have b2 := sb.2.1
          have p2 := pb.1
          have e1 : w (c - d) = c - d := wid (by omega) (by omega)
          simp only [plusT, goP, cmpT_refl]
          rw [if_neg (by omega), if_pos trivial, e1, show w (d + (c - d)) = d + (c - d) from wid (by omega) (by omega)]
          rw [show d + (c - d) = c by omega]
      · rw [if_neg q1] at h ⊢
        have hfe : cmpT f e < 0 := by rw [cmpT_neg e f]; have := cmpT_range e f; omega
        simp only [plusT]
        simp only [goP]
        rw [if_neg (by omega), if_neg (by omega), goP_low fb.2 hfe]
theorem plus_less {a b : T} {p q : Option T} (fa : falls p a) (fb : falls q b) (pa : posT a) (pb : posT b) (sa : sm 1000000000 a) (sb : sm 1000000000 b) (h : 0 ≤ cmpT a b) : plusT b (lessT a b) = a :=
  plus_lessX fa fb pa pb (sm_mono sa (by omega)) (sm_mono sb (by omega)) h
end Go.Proofs.Try

namespace Go.Proofs.Try
open Go Go.AX T
def pwT (e : T) (n : Int) : T := if n = 0 then nil else cons e n nil
theorem exOk_less {B : Int} {a : T} : ∀ {b : T}, exOk B a → exOk B (lessT a b) := by
  induction a with
  | nil => intro b _; cases b <;> exact trivial
  | cons e c l _ ih =>
    intro b h
    cases b with
    | nil => rw [lessT_nil]; exact h
    | cons f d m =>
      simp only [lessT]
      split
      · split
        · exact ih h.2
        · exact h
      · exact h
/-- A right ordinal but for its nodes: terms and exponents. -/
def rt (B : Int) (Z : Nat) (n : T) : Prop := okT B Z n ∧ exOk B n
theorem ordP_rt {t : T} (h : ordP t = true) : rt 1000000 30 t := ⟨ordP_okT h, form_exOk (ordP_form h)⟩
/-- The next part of a quotient. -/
def nextT : T → T → T
  | cons s c l, cons t d m => if cmpT s t = 0 then (if 0 < cmpT (timesT (cons t d m) (pwT nil (w (c.tdiv d)))) (cons s c l) then pwT nil (w (w (c.tdiv d) - 1)) else pwT nil (w (c.tdiv d))) else pwT (lessT s t) c
  | _, _ => nil
theorem times_int {t m : T} {d k : Int} (hk : k ≠ 0) : timesT (cons t d m) (pwT nil k) = cons t (w (d * k)) m := by
  unfold pwT
  rw [if_neg hk]
  simp only [timesT, tmG, T.app_nil]
theorem times_pow {t e m : T} {d k : Int} (he : e ≠ nil) (hk : k ≠ 0) : timesT (cons t d m) (pwT e k) = cons (plusT t e) k nil := by
  unfold pwT
  rw [if_neg hk]
  cases e with
  | nil => exact absurd rfl he
  | cons x y z => simp only [timesT, tmG]
theorem cmp_gtI {c d : Int} (h : d < c) : cmpI c d = 1 := by unfold cmpI; rw [if_neg (by omega), if_pos h]
theorem cmp_ltI {c d : Int} (h : c < d) : cmpI c d = -1 := by unfold cmpI; rw [if_pos h]
theorem cmp_sameE {s l m : T} {c d : Int} : cmpT (cons s c l) (cons s d m) = if cmpI c d = 0 then cmpT l m else cmpI c d := by simp only [cmpT, cmpT_refl, if_true]
/-- One round: what is next, and what is left. -/
theorem div_round {a b : T} (ra : rt 1000000 30 a) (rb : rt 1000000 30 b) (hb : b ≠ nil) (h : 0 ≤ cmpT a b) :
    rt 1000000 31 (nextT a b) ∧ 0 ≤ cmpT a (timesT b (nextT a b)) ∧ rt 1000000 30 (lessT a (timesT b (nextT a b))) ∧ rt 1000000000000 1000 (timesT b (nextT a b)) ∧
    ((lessT a (timesT b (nextT a b))).len < a.len ∨ cmpT (lessT a (timesT b (nextT a b))) b < 0) := by
  obtain ⟨⟨fa, pa, sa, za⟩, ea⟩ := ra
  obtain ⟨⟨fb, pb, sb, zb⟩, eb⟩ := rb
  cases b with
  | nil => exact absurd rfl hb
  | cons t d m =>
    cases a with
    | nil => simp [cmpT] at h
    | cons s c l =>
      have ec := sa.2.1
      have ed := sb.2.1
      have c1 := pa.1
      have d1 := pb.1
      simp only [size] at za zb
      -- whatever is next: it is enough to know that it is right and no more than a
      have key : ∀ x : T, rt 1000000 31 x → 0 ≤ cmpT (cons s c l) (timesT (cons t d m) x) → ((lessT (cons s c l) (timesT (cons t d m) x)).len < (cons s c l).len ∨ cmpT (lessT (cons s c l) (timesT (cons t d m) x)) (cons t d m) < 0) →
          rt 1000000 31 x ∧ 0 ≤ cmpT (cons s c l) (timesT (cons t d m) x) ∧ rt 1000000 30 (lessT (cons s c l) (timesT (cons t d m) x)) ∧ rt 1000000000000 1000 (timesT (cons t d m) x) ∧
          ((lessT (cons s c l) (timesT (cons t d m) x)).len < (cons s c l).len ∨ cmpT (lessT (cons s c l) (timesT (cons t d m) x)) (cons t d m) < 0) := by
        intro x rx hx hl
        obtain ⟨⟨fx, px, sx, zx⟩, ex⟩ := rx
        have o1 : okT 1000000000000 1000 (timesT (cons t d m) x) := by
          refine ⟨?_, ?_, ?_, ?_⟩
          · exact tmG_falls (c1 := d) eb.1.1 (sm_mono eb.1.2.2 (by omega)) fb.2 x none (fun r h => by cases h) fx (exOk_mono ex (by omega))
          · exact tmG_pos (B := 1000000) (C := 1000000) ⟨d1, ed.2⟩ pb.2 (by omega) x sx px
          · exact tmG_sm (B := 1000000) (C := 1000000) (sm_mono eb.1.2.2 (by omega)) ⟨by omega, ed.2⟩ sb.2.2 (by omega) x sx px
          · have := tmG_size t d m x
            have h2 : x.size * (t.size + m.size + 2) ≤ 31 * 31 := Nat.mul_le_mul zx (by omega)
            show (tmG t d m x).size ≤ 1000
            omega
        refine ⟨⟨⟨fx, px, sx, zx⟩, ex⟩, hx, ⟨less_ok (C := 1000000000000) (Y := 1000) (by omega) ⟨fa, pa, sa, by simp only [size]; omega⟩ o1 hx, exOk_less ea⟩, ⟨o1, ?_⟩, hl⟩
        exact tmG_exOk (B := 1000000) (C := 1000000) (D := 1000000000000) ⟨eb.1.1, eb.1.2.1, eb.1.2.2⟩ (exOk_mono eb.2 (by omega)) (by omega) x ex
      by_cases q : cmpT s t = 0
      · obtain rfl := cmpT_eq.1 q
        have hint : ∀ k : Int, 1 ≤ k ∧ k ≤ 1000000 → rt 1000000 31 (pwT nil k) := by
          intro k hk
          unfold pwT
          rw [if_neg (by omega)]
          exact ⟨⟨⟨fun _ h => (by cases h), trivial⟩, ⟨hk.1, trivial⟩, ⟨trivial, by omega, trivial⟩, by simp [size]⟩, ⟨⟨trivial, trivial, trivial⟩, trivial⟩⟩
        rw [cmp_sameE] at h
        have hcd : d ≤ c := by
          rcases Int.lt_or_le c d with x | x
          · rw [cmp_ltI x] at h; simp at h
          · exact x
        have hdiv : c.tdiv d = c / d := Int.tdiv_eq_ediv_of_nonneg (by omega)
        have hk1 : 1 ≤ c / d := Int.le_ediv_of_mul_le (by omega) (by omega)
        have hk2 : c / d ≤ c := Int.ediv_le_self _ (by omega)
        have hmd := Int.mul_ediv_add_emod c d
        have hm0 := Int.emod_nonneg c (show d ≠ 0 by omega)
        have hm1 := Int.emod_lt_of_pos c (show 0 < d by omega)
        obtain ⟨k, hk⟩ : ∃ k, c / d = k := ⟨_, rfl⟩
        obtain ⟨dk, hdk⟩ : ∃ x, d * k = x := ⟨_, rfl⟩
        rw [hk] at hmd hk1 hk2
        rw [hdk] at hmd
        have wk : w (c.tdiv d) = k := by rw [hdiv, hk]; exact wid (by omega) (by omega)
        have wk1 : w (k - 1) = k - 1 := wid (by omega) (by omega)
        have wdk : w (d * k) = dk := by rw [hdk]; exact wid (by omega) (by omega)
        have hdk1 : d * (k - 1) = dk - d := by rw [Int.mul_sub, hdk]; omega
        have wdk1 : w (d * (k - 1)) = dk - d := by rw [hdk1]; exact wid (by omega) (by omega)
        simp only [nextT, if_pos q, wk, wk1]
        have ht := times_int (t := s) (m := m) (d := d) (k := k) (by omega)
        rw [wdk] at ht
        by_cases g : 0 < cmpT (timesT (cons s d m) (pwT nil k)) (cons s c l)
        · rw [if_pos g]
          rw [ht, cmp_sameE] at g
          have hdc : dk = c := by
            rcases Int.lt_or_le dk c with x | x
            · rw [cmp_ltI x] at g; simp at g
            · omega
          subst hdc
          rw [cmpI_refl, if_pos rfl] at g
          have hlm : cmpT l m < 0 := by rw [cmpT_neg m l]; omega
          have hk3 : 2 ≤ k := by
            rcases Int.lt_or_le k 2 with x | x
            · have : k = 1 := by omega
              subst this
              rw [Int.mul_one] at hdk
              subst hdk
              rw [cmpI_refl, if_pos rfl] at h
              omega
            · exact x
          have ht2 := times_int (t := s) (m := m) (d := d) (k := k - 1) (by omega)
          rw [wdk1] at ht2
          have hc2 : cmpI dk (dk - d) = 1 := cmp_gtI (by omega)
          refine key _ (hint (k - 1) (by omega)) ?_ (.inr ?_)
          · rw [ht2, cmp_sameE, hc2]; simp
          · rw [ht2]
            simp only [lessT, cmpT_refl, if_true]
            rw [if_neg (by omega), show w (dk - (dk - d)) = d from by rw [show dk - (dk - d) = d by omega]; exact wid (by omega) (by omega), cmp_sameE, cmpI_refl, if_pos rfl]
            exact hlm
        · rw [if_neg g]
          have hge : 0 ≤ cmpT (cons s c l) (timesT (cons s d m) (pwT nil k)) := by rw [cmpT_neg (timesT (cons s d m) (pwT nil k))]; omega
          refine key _ (hint k (by omega)) hge (.inr ?_)
          rw [ht] at hge ⊢
          rw [cmp_sameE] at hge
          simp only [lessT, cmpT_refl, if_true]
          by_cases x : c = dk
          · rw [if_pos x]
            cases hx : lessT l m with
            | nil => simp [cmpT]
            | cons e y z =>
              have := falls_less fa.2 hx
              have hes : cmpT e s < 0 := by rw [cmpT_neg s e]; omega
              simp only [cmpT]
              rw [if_neg (by omega)]
              exact hes
          · rw [if_neg x, cmp_sameE, show w (c - dk) = c - dk from wid (by omega) (by omega), cmp_ltI (by omega)]
            simp
      · have hst : cmpT s t = 1 := by
          simp only [cmpT] at h
          rw [if_neg q] at h
          have := cmpT_range s t
          omega
        have hps := plus_less ea.1.1 eb.1.1 ea.1.2.1 eb.1.2.1 (sm_mono ea.1.2.2 (by omega)) (sm_mono eb.1.2.2 (by omega)) (by omega : 0 ≤ cmpT s t)
        have hne : lessT s t ≠ nil := by
          intro z
          rw [z] at hps
          have : t = s := hps
          rw [this, cmpT_refl] at hst
          omega
        simp only [nextT, if_neg q]
        have ht := times_pow (t := t) (m := m) (d := d) (k := c) hne (by omega)
        rw [hps] at ht
        refine key _ ?_ ?_ (.inl ?_)
        · unfold pwT
          rw [if_neg (by omega)]
          obtain ⟨g1, g2, g3⟩ := less_parts (B := 1000000) (by omega) ea.1.1 ea.1.2.1 eb.1.2.1 ea.1.2.2 (by omega : 0 ≤ cmpT s t)
          have := lessT_size s t
          exact ⟨⟨⟨fun _ h => (by cases h), trivial⟩, ⟨c1, trivial⟩, ⟨g3, ec, trivial⟩, by simp only [size]; omega⟩, ⟨⟨g1, g2, g3⟩, trivial⟩⟩
        · rw [ht, cmp_sameE, cmpI_refl, if_pos rfl]
          cases l <;> simp [cmpT]
        · rw [ht]
          simp only [lessT, cmpT_refl, if_true, lessT_nil, len]
          omega
end Go.Proofs.Try
