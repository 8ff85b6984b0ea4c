/- What the printed functions compute: plain data. -/
import Derived.Test.YtbjompalpjeikaaEQ1
set_option linter.unusedVariables false
set_option linter.unusedSimpArgs false
namespace Go.Proofs.Try
open Go Go.AX

theorem wid {n : Int} (h1 : -9223372036854775808 ≤ n) (h2 : n < 9223372036854775808) : IntKind.i64.wrap n = n := wrap_in h1 h2
/-- An ordinal: its terms, exponents and coefficients. -/
inductive T where
  | nil
  | cons (e : T) (c : Int) (l : T)
namespace T
def rows : T → Rw
  | nil => []
  | cons e c l => [.sl (rows e), .int .i64 c] :: rows l
def size : T → Nat
  | nil => 0
  | cons e _ l => size e + size l + 1
def len : T → Nat
  | nil => 0
  | cons _ _ l => len l + 1
def drop : T → Nat → T
  | t, 0 => t
  | nil, _ + 1 => nil
  | cons _ _ l, n + 1 => drop l n
def app : T → T → T
  | nil, b => b
  | cons e c l, b => cons e c (app l b)
@[simp] theorem drop_zero (t : T) : drop t 0 = t := by cases t <;> rfl
@[simp] theorem drop_nil (n : Nat) : drop nil n = nil := by cases n <;> rfl
@[simp] theorem rows_len (t : T) : (rows t).length = len t := by
  induction t with
  | nil => rfl
  | cons e c l _ ih => simp [rows, len, ih]
theorem len_size (t : T) : len t ≤ size t := by
  induction t with
  | nil => simp [len]
  | cons e c l _ ih => simp [len, size]; omega
@[simp] theorem rows_app (a b : T) : rows (app a b) = rows a ++ rows b := by
  induction a with
  | nil => rfl
  | cons e c l _ ih => simp [app, rows, ih]
theorem rows_drop (t : T) (i : Nat) : rows (drop t i) = (rows t).drop i := by
  induction t generalizing i with
  | nil => cases i <;> simp [drop, rows]
  | cons e c l _ ih => cases i with
    | zero => simp [drop]
    | succ i => simp [drop, rows, ih]
theorem rowsWide (t : T) : ∀ cs ∈ rows t, cs.length = 2 := by
  induction t with
  | nil => intro cs h; cases h
  | cons e c l _ ih =>
    intro cs h
    simp only [rows, List.mem_cons] at h
    rcases h with rfl | h
    · rfl
    · exact ih cs h
theorem rowsWide_drop (t : T) (i : Nat) : ∀ cs ∈ (rows t).drop i, cs.length = 2 := fun cs h => rowsWide t cs (List.mem_of_mem_drop h)
theorem drop_len (t : T) (i : Nat) : len (drop t i) = len t - i := by rw [← rows_len, rows_drop, List.length_drop, rows_len]
theorem drop_succ {t : T} {i : Nat} {e : T} {c : Int} {l : T} (h : drop t i = cons e c l) : drop t (i + 1) = l := by
  induction t generalizing i with
  | nil => simp at h
  | cons e' c' l' _ ih =>
    cases i with
    | zero => simp only [drop, cons.injEq] at h ⊢; simp [h.2.2]
    | succ i => exact ih h
theorem drop_size {t : T} {i : Nat} : size (drop t i) ≤ size t := by
  induction t generalizing i with
  | nil => simp
  | cons e c l _ ih =>
    cases i with
    | zero => simp
    | succ i => simp only [drop, size]; have := ih (i := i); omega
theorem drop_cons_size {t : T} {i : Nat} {e : T} {c : Int} {l : T} (h : drop t i = cons e c l) : size e + size l + 1 ≤ size t := by
  have := drop_size (t := t) (i := i); rw [h] at this; exact this
theorem drop_lt {t : T} {i : Nat} {e : T} {c : Int} {l : T} (h : drop t i = cons e c l) : i < len t := by
  have := drop_len t i; rw [h] at this; simp only [len] at this; omega
theorem drop_ge {t : T} {i : Nat} (h : drop t i = nil) : len t ≤ i := by
  have := drop_len t i; rw [h] at this; simp only [len] at this; omega
theorem drop_of_ge {t : T} {i : Nat} (h : len t ≤ i) : drop t i = nil := by
  have := drop_len t i
  cases hd : drop t i with
  | nil => rfl
  | cons e c l => rw [hd] at this; simp only [len] at this; omega
theorem rows_get {t : T} {i : Nat} {e : T} {c : Int} {l : T} (h : drop t i = cons e c l) : (rows t)[i]? = some [.sl (rows e), .int .i64 c] := by
  have := rows_drop t i
  rw [h] at this
  have h2 : ((rows t).drop i)[0]? = some [.sl (rows e), .int .i64 c] := by rw [← this]; rfl
  rwa [List.getElem?_drop, Nat.add_zero] at h2
@[simp] theorem app_nil (t : T) : app t nil = t := by
  induction t with
  | nil => rfl
  | cons e c l _ ih => simp [app, ih]
theorem app_assoc (a b c : T) : app (app a b) c = app a (app b c) := by
  induction a with
  | nil => rfl
  | cons e k l _ ih => simp [app, ih]
theorem size_app (a b : T) : (app a b).size = a.size + b.size := by
  induction a with
  | nil => simp [app, size]
  | cons e c l _ ih => simp [app, size, ih]; omega
theorem len_app (a b : T) : (app a b).len = a.len + b.len := by
  induction a with
  | nil => simp [app, len]
  | cons e c l _ ih => simp [app, len, ih]; omega
theorem rows_inj : ∀ {a b : T}, rows a = rows b → a = b
  | nil, nil, _ => rfl
  | nil, cons _ _ _, h => by simp [rows] at h
  | cons _ _ _, nil, h => by simp [rows] at h
  | cons e c l, cons f d m, h => by
    simp only [rows, List.cons.injEq, D.sl.injEq, D.int.injEq, true_and, and_true] at h
    obtain ⟨⟨h1, h2⟩, h3⟩ := h
    rw [rows_inj h1, h2, rows_inj h3]
end T
open T
theorem row_rows {α : Type} {t : T} {i : Int} {n : Nat} (hi : i = n) {e : T} {c : Int} {l : T} (h : drop t n = cons e c l) (F : Rw → List D → Option α) : (if 0 ≤ i then (match (rows t)[i.toNat]? with | some cs => F (rows t) cs | none => none) else none) = F (rows t) [.sl (rows e), .int .i64 c] := by
  subst hi
  rw [if_pos (by omega), Int.toNat_natCast, rows_get h]

/-! ### the order -/
def cmpI (a b : Int) : Int := if a < b then -1 else if b < a then 1 else 0
def cmpT : T → T → Int
  | nil, nil => 0
  | nil, cons _ _ _ => -1
  | cons _ _ _, nil => 1
  | cons e c l, cons f d m => if cmpT e f = 0 then (if cmpI c d = 0 then cmpT l m else cmpI c d) else cmpT e f
theorem cmpI_refl (a : Int) : cmpI a a = 0 := by simp [cmpI]
theorem cmpI_eq {a b : Int} : cmpI a b = 0 ↔ a = b := by unfold cmpI; split <;> (try split) <;> simp <;> omega
theorem cmpI_neg (a b : Int) : cmpI b a = - cmpI a b := by unfold cmpI; split <;> split <;> (try split) <;> omega
theorem cmpT_range (a b : T) : cmpT a b = -1 ∨ cmpT a b = 0 ∨ cmpT a b = 1 := by
  induction a generalizing b with
  | nil => cases b <;> simp [cmpT]
  | cons e c l ihe ihl =>
    cases b with
    | nil => simp [cmpT]
    | cons f d m =>
      simp only [cmpT]
      split
      · split
        · exact ihl m
        · unfold cmpI; split <;> (try split) <;> simp
      · exact ihe f
theorem cmpT_refl (a : T) : cmpT a a = 0 := by
  induction a with
  | nil => rfl
  | cons e c l ihe ihl => simp [cmpT, ihe, ihl, cmpI_refl]
theorem cmpT_eq {a b : T} : cmpT a b = 0 ↔ a = b := by
  induction a generalizing b with
  | nil => cases b <;> simp [cmpT]
  | cons e c l ihe ihl =>
    cases b with
    | nil => simp [cmpT]
    | cons f d m =>
      simp only [cmpT, cons.injEq]
      constructor
      · intro h
        split at h
        · rename_i h1
          split at h
          · rename_i h2; exact ⟨ihe.1 h1, cmpI_eq.1 h2, ihl.1 h⟩
          · rename_i h2; exact absurd h h2
        · rename_i h1; exact absurd h h1
      · rintro ⟨rfl, rfl, rfl⟩
        rw [if_pos (cmpT_refl e), if_pos (cmpI_refl c)]; exact cmpT_refl l
theorem cmpT_neg (a b : T) : cmpT b a = - cmpT a b := by
  induction a generalizing b with
  | nil => cases b <;> simp [cmpT]
  | cons e c l ihe ihl =>
    cases b with
    | nil => simp [cmpT]
    | cons f d m =>
      simp only [cmpT, ihe f, ihl m, cmpI_neg c d]
      split <;> split <;> (try split) <;> (try split) <;> omega
theorem cmpI_trans {a b c : Int} (h1 : cmpI a b < 0) (h2 : cmpI b c < 0) : cmpI a c < 0 := by
  unfold cmpI at *
  split at h1 <;> (try split at h1) <;> split at h2 <;> (try split at h2) <;> split <;> (try split) <;> omega
theorem cmpT_trans {a b c : T} (h1 : cmpT a b < 0) (h2 : cmpT b c < 0) : cmpT a c < 0 := by
  induction a generalizing b c with
  | nil =>
    cases b with
    | nil => simp [cmpT] at h1
    | cons f d m => cases c with
      | nil => simp [cmpT] at h2
      | cons g k n => simp [cmpT]
  | cons e x l ihe ihl =>
    cases b with
    | nil => simp [cmpT] at h1
    | cons f y m =>
      cases c with
      | nil => simp [cmpT] at h2
      | cons g z n =>
        simp only [cmpT] at h1 h2 ⊢
        by_cases q1 : cmpT e f = 0
        · rw [if_pos q1] at h1
          obtain rfl := cmpT_eq.1 q1
          by_cases q2 : cmpT e g = 0
          · rw [if_pos q2] at h2 ⊢
            by_cases q3 : cmpI x y = 0
            · rw [if_pos q3] at h1
              obtain rfl := cmpI_eq.1 q3
              by_cases q4 : cmpI x z = 0
              · rw [if_pos q4] at h2 ⊢; exact ihl h1 h2
              · rw [if_neg q4] at h2 ⊢; exact h2
            · rw [if_neg q3] at h1
              by_cases q4 : cmpI y z = 0
              · rw [if_pos q4] at h2
                obtain rfl := cmpI_eq.1 q4
                rw [if_neg q3]; exact h1
              · rw [if_neg q4] at h2
                have := cmpI_trans h1 h2
                rw [if_neg (by omega)]; exact this
          · rw [if_neg q2] at h2 ⊢; exact h2
        · rw [if_neg q1] at h1
          by_cases q2 : cmpT f g = 0
          · obtain rfl := cmpT_eq.1 q2
            rw [if_neg q1]; exact h1
          · rw [if_neg q2] at h2
            have := ihe h1 h2
            rw [if_neg (by omega)]; exact this

/-! ### what is right -/
def nodesL : T → Nat
  | nil => 0
  | cons e _ l => 2 + nodesL e + nodesL l
def dp : T → Nat
  | nil => 0
  | cons e _ l => max (1 + dp e) (dp l)
/-- Coefficients in their range, exponents that fall; p: the exponent ahead. -/
def formA : Option T → T → Bool
  | _, nil => true
  | p, cons e c l => decide (1 ≤ c) && decide (c ≤ 1000000) && formA none e && (match p with | none => true | some q => decide (0 < cmpT q e)) && formA (some e) l
def ordP (t : T) : Bool := decide (1 + nodesL t ≤ 60) && decide (dp t ≤ 6) && formA none t
theorem nodes_size (t : T) : nodesL t = 2 * size t := by
  induction t with
  | nil => rfl
  | cons e c l ihe ihl => simp only [nodesL, size, ihe, ihl]; omega
theorem ordP_size {t : T} (h : ordP t = true) : size t ≤ 30 := by
  simp only [ordP, Bool.and_eq_true, decide_eq_true_eq] at h
  have := nodes_size t
  omega
end Go.Proofs.Try

namespace Go.Proofs.Try
theorem bind_of {α β : Type} {o : Option α} {y : α} {K : α → Option β} {r : Option β} (h : o = some y) (hk : K y = r) : o.bind K = r := by rw [h]; exact hk
theorem ite_pos {α : Type} {c : Prop} [Decidable c] {a b r : α} (h : c) (hk : a = r) : (if c then a else b) = r := by rw [if_pos h]; exact hk
theorem ite_neg {α : Type} {c : Prop} [Decidable c] {a b r : α} (h : ¬ c) (hk : b = r) : (if c then a else b) = r := by rw [if_neg h]; exact hk
theorem cond_tt {α : Type} {a b r : α} (h : a = r) : cond true a b = r := h
theorem cond_ff {α : Type} {a b r : α} (h : b = r) : cond false a b = r := h
end Go.Proofs.Try

namespace Go.Proofs.Try
open Go Go.AX
/-- A surreal number: its terms, exponents and coefficients (fractions). -/
inductive S where
  | nil
  | cons (e : S) (c c₂ : Int) (l : S)
namespace S
def rowsS : S → Rw
  | nil => []
  | cons e c c₂ l => [.sl (rowsS e), .int .i64 c, .int .i64 c₂] :: rowsS l
def sizeS : S → Nat
  | nil => 0
  | cons e _ _ l => sizeS e + sizeS l + 1
def lenS : S → Nat
  | nil => 0
  | cons _ _ _ l => lenS l + 1
def dropS : S → Nat → S
  | t, 0 => t
  | nil, _ + 1 => nil
  | cons _ _ _ l, n + 1 => dropS l n
def appS : S → S → S
  | nil, b => b
  | cons e c c₂ l, b => cons e c c₂ (appS l b)
@[simp] theorem drop_zeroS (t : S) : dropS t 0 = t := by cases t <;> rfl
@[simp] theorem drop_nilS (n : Nat) : dropS nil n = nil := by cases n <;> rfl
@[simp] theorem rowsS_len (t : S) : (rowsS t).length = lenS t := by
  induction t with
  | nil => rfl
  | cons e c c₂ l _ ih => simp [rowsS, lenS, ih]
theorem len_sizeS (t : S) : lenS t ≤ sizeS t := by
  induction t with
  | nil => simp [lenS]
  | cons e c c₂ l _ ih => simp [lenS, sizeS]; omega
@[simp] theorem rows_appS (a b : S) : rowsS (appS a b) = rowsS a ++ rowsS b := by
  induction a with
  | nil => rfl
  | cons e c c₂ l _ ih => simp [appS, rowsS, ih]
theorem rows_dropS (t : S) (i : Nat) : rowsS (dropS t i) = (rowsS t).drop i := by
  induction t generalizing i with
  | nil => cases i <;> simp [dropS, rowsS]
  | cons e c c₂ l _ ih => cases i with
    | zero => simp [dropS]
    | succ i => simp [dropS, rowsS, ih]
theorem rowsWideS (t : S) : ∀ cs ∈ rowsS t, cs.length = 3 := by
  induction t with
  | nil => intro cs h; cases h
  | cons e c c₂ l _ ih =>
    intro cs h
    simp only [rowsS, List.mem_cons] at h
    rcases h with rfl | h
    · rfl
    · exact ih cs h
theorem rowsWide_dropS (t : S) (i : Nat) : ∀ cs ∈ (rowsS t).drop i, cs.length = 3 := fun cs h => rowsWideS t cs (List.mem_of_mem_drop h)
theorem drop_lenS (t : S) (i : Nat) : lenS (dropS t i) = lenS t - i := by rw [← rowsS_len, rows_dropS, List.length_drop, rowsS_len]
theorem drop_succS {t : S} {i : Nat} {e : S} {c c₂ : Int} {l : S} (h : dropS t i = cons e c c₂ l) : dropS t (i + 1) = l := by
  induction t generalizing i with
  | nil => simp at h
  | cons e' c' c₂' l' _ ih =>
    cases i with
    | zero => simp only [dropS, cons.injEq] at h ⊢; simp [h.2.2]
    | succ i => exact ih h
theorem drop_sizeS {t : S} {i : Nat} : sizeS (dropS t i) ≤ sizeS t := by
  induction t generalizing i with
  | nil => simp
  | cons e c c₂ l _ ih =>
    cases i with
    | zero => simp
    | succ i => simp only [dropS, sizeS]; have := ih (i := i); omega
theorem drop_cons_sizeS {t : S} {i : Nat} {e : S} {c c₂ : Int} {l : S} (h : dropS t i = cons e c c₂ l) : sizeS e + sizeS l + 1 ≤ sizeS t := by
  have := drop_sizeS (t := t) (i := i); rw [h] at this; exact this
theorem drop_ltS {t : S} {i : Nat} {e : S} {c c₂ : Int} {l : S} (h : dropS t i = cons e c c₂ l) : i < lenS t := by
  have := drop_lenS t i; rw [h] at this; simp only [lenS] at this; omega
theorem drop_geS {t : S} {i : Nat} (h : dropS t i = nil) : lenS t ≤ i := by
  have := drop_lenS t i; rw [h] at this; simp only [lenS] at this; omega
theorem drop_of_geS {t : S} {i : Nat} (h : lenS t ≤ i) : dropS t i = nil := by
  have := drop_lenS t i
  cases hd : dropS t i with
  | nil => rfl
  | cons e c c₂ l => rw [hd] at this; simp only [lenS] at this; omega
theorem rows_getS {t : S} {i : Nat} {e : S} {c c₂ : Int} {l : S} (h : dropS t i = cons e c c₂ l) : (rowsS t)[i]? = some [.sl (rowsS e), .int .i64 c, .int .i64 c₂] := by
  have := rows_dropS t i
  rw [h] at this
  have h2 : ((rowsS t).drop i)[0]? = some [.sl (rowsS e), .int .i64 c, .int .i64 c₂] := by rw [← this]; rfl
  rwa [List.getElem?_drop, Nat.add_zero] at h2
@[simp] theorem app_nilS (t : S) : appS t nil = t := by
  induction t with
  | nil => rfl
  | cons e c c₂ l _ ih => simp [appS, ih]
theorem app_assocS (a b c : S) : appS (appS a b) c = appS a (appS b c) := by
  induction a with
  | nil => rfl
  | cons e k k₂ l _ ih => simp [appS, ih]
theorem size_appS (a b : S) : (appS a b).sizeS = a.sizeS + b.sizeS := by
  induction a with
  | nil => simp [appS, sizeS]
  | cons e c c₂ l _ ih => simp [appS, sizeS, ih]; omega
theorem len_appS (a b : S) : (appS a b).lenS = a.lenS + b.lenS := by
  induction a with
  | nil => simp [appS, lenS]
  | cons e c c₂ l _ ih => simp [appS, lenS, ih]; omega
theorem rows_injS : ∀ {a b : S}, rowsS a = rowsS b → a = b
  | nil, nil, _ => rfl
  | nil, cons _ _ _ _, h => by simp [rowsS] at h
  | cons _ _ _ _, nil, h => by simp [rowsS] at h
  | cons e c c₂ l, cons f d d₂ m, h => by
    simp only [rowsS, List.cons.injEq, D.sl.injEq, D.int.injEq, true_and, and_true] at h
    obtain ⟨⟨h1, h2⟩, h3⟩ := h
    rw [rows_injS h1, h2.1, h2.2, rows_injS h3]
end S
open S
@[simp] theorem cell_S {α : Type} (x : Rw) (c c₂ : Int) (K : Rw → Int → Int → Option α) : cell_sii [.sl x, .int .i64 c, .int .i64 c₂] K = K x c c₂ := rfl
theorem row_S {α : Type} {t : S} {i : Int} {n : Nat} (hi : i = n) {e : S} {c c₂ : Int} {l : S} (h : dropS t n = cons e c c₂ l) (K : Rw → Int → Int → Option α) : row_sii t.rowsS i K = K e.rowsS c c₂ := by
  subst hi
  unfold row_sii
  rw [if_pos (by omega), Int.toNat_natCast, rows_getS h]; rfl
@[simp] theorem row_S0 {α : Type} (e : S) (c c₂ : Int) (l : S) (K : Rw → Int → Int → Option α) : row_sii (cons e c c₂ l).rowsS 0 K = K e.rowsS c c₂ := row_S (n := 0) rfl rfl K
theorem lenSI (t : S) : ((t.rowsS.length : Nat) : Int) = (t.lenS : Int) := by rw [rowsS_len]
end Go.Proofs.Try

namespace Go.Proofs.Try
open Go Go.AX S
theorem fr_snocLenS (l e : S) (c c₂ : Int) : (appS l (cons e c c₂ nil)).lenS = l.lenS + 1 := by rw [len_appS]; rfl
theorem toSur_loop {rec_ : Rw → Option Rw} {a : S} {K : Rw → Option Rw} (hr : ∀ e : S, e.sizeS < a.sizeS → rec_ e.rowsS = some e.rowsS) :
    ∀ (t : S) (i : Nat) (done : S), t.sizeS ≤ a.sizeS → done.lenS = i → laws_toSurrealTermS_l0 rec_ a.rowsS K t.rowsS i (done.rowsS ++ List.replicate t.lenS [D.sl ([]), D.int .i64 0, D.int .i64 0]) = K (appS done t).rowsS
  | nil, i, done, _, hd => by
    simp only [rowsS, laws_toSurrealTermS_l0, lenS, List.replicate_zero, List.append_nil, rows_appS]
  | cons e c c₂ l, i, done, hs, hd => by
    simp only [sizeS] at hs
    simp only [rowsS, laws_toSurrealTermS_l0, cell_S, laws_toSurrealTerm, laws_toFraction, lenS]
    rw [hr e (by omega)]
    have hlen : (done.rowsS ++ List.replicate (l.lenS + 1) [D.sl ([]), D.int .i64 0, D.int .i64 0]).length = i + (l.lenS + 1) := by rw [List.length_append, rowsS_len, hd, List.length_replicate]
    simp only [Option.bind_some]
    rw [if_pos ⟨by omega, by rw [hlen]; omega⟩]
    have hrow : ∀ {α : Type} (K : Rw → Int → Int → Option α), row_sii (done.rowsS ++ List.replicate (l.lenS + 1) [D.sl ([]), D.int .i64 0, D.int .i64 0]) (i : Int) K = K [] 0 0 := by
      intro α K
      unfold row_sii
      rw [if_pos (by omega), Int.toNat_natCast, List.getElem?_append_right (by rw [rowsS_len]; omega), rowsS_len, hd, Nat.sub_self, List.replicate_succ]
      rfl
    rw [hrow]
    have hset : (done.rowsS ++ List.replicate (l.lenS + 1) [D.sl ([]), D.int .i64 0, D.int .i64 0]).set (i : Int).toNat [D.sl e.rowsS, D.int .i64 c, .int .i64 c₂] = (appS done (cons e c c₂ nil)).rowsS ++ List.replicate l.lenS [D.sl ([]), D.int .i64 0, D.int .i64 0] := by
      rw [Int.toNat_natCast, List.set_append_right (h := by rw [rowsS_len]; omega), rowsS_len, hd, Nat.sub_self, List.replicate_succ, rows_appS]
      simp [rowsS]
    rw [hset, toSur_loop hr l (i + 1) (appS done (cons e c c₂ nil)) (by omega) (by rw [fr_snocLenS, hd]), app_assocS]
    rfl
theorem toSur_eq : ∀ (k : Nat) (a : S), a.sizeS < k → a.sizeS ≤ cap → laws_toSurreal k a.rowsS = some a.rowsS
  | 0, _, h, _ => absurd h (Nat.not_lt_zero _)
  | k + 1, a, h, hc => by
    have h3 : cap = 1099511627776 := rfl
    have hl := a.len_sizeS
    simp only [laws_toSurreal, laws_toSurreal_b, laws_toSurrealTermS]
    rw [if_pos (by rw [lenSI]; omega), if_pos (by rw [rowsS_len]; omega), lenSI, Int.toNat_natCast]
    have := toSur_loop (rec_ := laws_toSurreal k) (a := a) (K := fun v29 => some v29) (fun e he => toSur_eq k e (by omega) (by omega)) a 0 nil (Nat.le_refl _) rfl
    simp only [rowsS, List.nil_append, appS] at this
    rw [this]; rfl
theorem eqFrac_refl (n d : Int) : laws_eqFraction n d n d = some true := by unfold laws_eqFraction; rw [if_pos rfl, if_pos rfl]
theorem eqSur_loop {rec_ : Rw → Rw → Option Bool} {a : S} (hr : ∀ e : S, e.sizeS < a.sizeS → rec_ e.rowsS e.rowsS = some true) : ∀ (t : S) (i : Nat), dropS a i = t → laws_eqSurrealTermS_l0 rec_ a.rowsS a.rowsS (some true) t.rowsS i = some true
  | nil, i, _ => rfl
  | cons e c c₂ l, i, hd => by
    have hs := drop_cons_sizeS hd
    simp only [rowsS, laws_eqSurrealTermS_l0, cell_S, laws_eqSurrealTerm]
    have he : laws_eqFraction c c₂ c c₂ = some true := by unfold laws_eqFraction; rw [if_pos rfl, if_pos rfl]
    rw [row_S rfl hd, hr e (by omega), Option.bind_some, if_pos rfl, he, Option.bind_some, if_pos rfl, Option.bind_some, if_pos rfl]
    exact eqSur_loop hr l (i + 1) (drop_succS hd)
theorem eqSur_refl : ∀ (k : Nat) (a : S), a.sizeS < k → a.sizeS ≤ cap → laws_eqSurreal k a.rowsS a.rowsS = some true
  | 0, _, h, _ => absurd h (Nat.not_lt_zero _)
  | k + 1, a, h, hc => by
    have hl := a.len_sizeS
    simp only [laws_eqSurreal, laws_eqSurreal_b, laws_eqSurrealTermS]
    rw [if_pos True.intro, if_pos (by rw [rowsS_len]; omega), eqSur_loop (a := a) (fun e he => eqSur_refl k e (by omega) (by omega)) a 0 (drop_zeroS a)]
    rfl
/-- Slices no longer, and numerators no greater, than a machine has. -/
def fitS : S → Prop
  | nil => True
  | cons e c c₂ l => fitS e ∧ (e.lenS : Int) ≤ 9223372036854775807 ∧ fitS l ∧ (-9223372036854775808 ≤ c ∧ c ≤ 9223372036854775807)
theorem szSur_loop {rec_ : Rw → Int → Option Int} {a : S} {K : Int → Option Int} (hr : ∀ (e : S) (v : Int), e.sizeS < a.sizeS → fitS e → (e.lenS : Int) ≤ 9223372036854775807 → 0 ≤ v → v ≤ 1048576 → ∃ r : Int, rec_ e.rowsS v = some r ∧ r ≤ v ∧ -1 ≤ r ∧ (0 ≤ r → r + e.sizeS ≤ v)) :
    ∀ (t : S) (v : Int), t.sizeS ≤ a.sizeS → fitS t → 0 ≤ v → v ≤ 1048576 → (laws_szSurrealTermS_l0 rec_ a.rowsS K t.rowsS v = some (-1)) ∨ ∃ r : Int, laws_szSurrealTermS_l0 rec_ a.rowsS K t.rowsS v = K r ∧ 0 ≤ r ∧ r + t.sizeS ≤ v + t.lenS
  | nil, v, _, _, h0, h1 => Or.inr ⟨v, rfl, h0, by simp [sizeS, lenS]⟩
  | cons e c c₂ l, v, hs, hf, h0, h1 => by
    simp only [sizeS] at hs
    obtain ⟨r, e1, q1, q2, q3⟩ := hr e v (by omega) hf.1 hf.2.1 h0 h1
    simp only [rowsS, laws_szSurrealTermS_l0, cell_S, laws_szSurrealTerm]
    rw [e1, Option.bind_some]
    by_cases g : r < 0
    · left; rw [if_pos g, Option.bind_some, if_pos (by omega)]
    · rw [if_neg g, Option.bind_some, if_neg g]
      rcases szSur_loop hr l r (by omega) hf.2.2.1 (by omega) (by omega) with h | ⟨u, h, p1, p2⟩
      · left; exact h
      · right; exact ⟨u, h, p1, by simp only [sizeS, lenS]; omega⟩
theorem szSur_eq : ∀ (k : Nat) (a : S) (v : Int), a.sizeS < k → fitS a → (a.lenS : Int) ≤ 9223372036854775807 → 0 ≤ v → v ≤ 1048576 → ∃ r : Int, laws_szSurreal k a.rowsS v = some r ∧ r ≤ v ∧ -1 ≤ r ∧ (0 ≤ r → r + a.sizeS ≤ v)
  | 0, _, _, h, _, _, _, _ => absurd h (Nat.not_lt_zero _)
  | k + 1, a, v, h, hf, hl, h0, h1 => by
    have h3 : cap = 1099511627776 := rfl
    simp only [laws_szSurreal, laws_szSurreal_b, laws_szSurrealTermS]
    have e1 : IntKind.i64.wrap (v - (a.rowsS.length : Int)) = v - (a.lenS : Int) := by rw [lenSI, wid (by omega) (by omega)]
    rw [e1]
    by_cases g : v - (a.lenS : Int) < 0
    · rw [if_pos g, Option.bind_some, if_pos (by omega)]
      exact ⟨-1, rfl, by omega, by omega, fun h => by omega⟩
    · rw [if_neg g, if_pos (by rw [rowsS_len]; omega)]
      rcases szSur_loop (rec_ := laws_szSurreal k) (a := a) (K := fun v22 => some v22) (fun e v he hf hl h0 h1 => szSur_eq k e v (by omega) hf hl h0 h1) a (v - (a.lenS : Int)) (Nat.le_refl _) hf (by omega) (by omega) with q | ⟨r, q, p1, p2⟩
      · rw [q, Option.bind_some, if_pos (by omega)]
        exact ⟨-1, rfl, by omega, by omega, fun h => by omega⟩
      · rw [q, Option.bind_some, if_neg (by omega)]
        exact ⟨r, rfl, by omega, by omega, fun _ => by omega⟩
end Go.Proofs.Try

namespace Go.Proofs.Try
open Go Go.AX S
theorem fr_drop_appS (l r : S) : dropS (appS l r) l.lenS = r := by
  induction l with
  | nil => simp [appS, lenS]
  | cons e c c₂ l _ ih => exact ih
def mkS : S → Int → S
  | nil, _ => nil
  | cons e _ _ l, k => cons (mkS e k) (k + 2 * sizeS e) (k + 2 * sizeS e + 1) (mkS l (k + 2 * sizeS e + 2))
theorem mkS_len (t : S) (k : Int) : (mkS t k).lenS = t.lenS := by
  induction t generalizing k with
  | nil => rfl
  | cons e c c₂ l _ ih => simp [mkS, lenS, ih]
theorem mkS_size (t : S) (k : Int) : (mkS t k).sizeS = t.sizeS := by
  induction t generalizing k with
  | nil => rfl
  | cons e c c₂ l ihe ih => simp [mkS, sizeS, ihe, ih]
theorem set_rowsS (l e e' r : S) (c c₂ c' c₂' : Int) : (appS l (cons e c c₂ r)).rowsS.set l.lenS [D.sl e'.rowsS, D.int .i64 c', D.int .i64 c₂'] = (appS l (cons e' c' c₂' r)).rowsS := by
  rw [rows_appS, rows_appS, ← rowsS_len l, List.set_append_right (h := Nat.le_refl _), Nat.sub_self]; rfl
theorem markSur_loop {rec_ : Rw → Int → Option (Int × Rw)} {K0 : Int → Rw → Option (Int × Rw)} {N : Nat} (hr : ∀ (e : S) (k : Int), e.sizeS < N → 0 ≤ k → k + 2 * e.sizeS ≤ 4000000000000000000 → rec_ e.rowsS k = some (k + 2 * e.sizeS, (mkS e k).rowsS)) :
    ∀ (t done : S) (n : Nat) (k : Int), t.sizeS ≤ N → t.lenS < n → 0 ≤ k → k + 2 * t.sizeS ≤ 4000000000000000000 → done.lenS + t.lenS ≤ 4000000000000000000 → laws_markSurrealTermS_l0 rec_ K0 n (appS done t).rowsS k done.lenS = K0 (k + 2 * t.sizeS) (appS done (mkS t k)).rowsS
  | _, _, 0, _, _, h, _, _, _ => absurd h (Nat.not_lt_zero _)
  | nil, done, n + 1, k, _, _, _, _, _ => by
    simp only [laws_markSurrealTermS_l0]
    rw [if_neg (by rw [app_nilS, lenSI]; omega)]
    simp [sizeS, mkS]
  | cons e c c₂ l, done, n + 1, k, hs, hn, h0, hk, hl => by
    simp only [sizeS] at hs hk
    simp only [lenS] at hn hl
    have hlen : ((appS done (cons e c c₂ l)).rowsS.length : Int) = done.lenS + l.lenS + 1 := by rw [lenSI, len_appS]; simp only [lenS]; omega
    have hd : ∀ (e' : S) (c' c₂' : Int), dropS (appS done (cons e' c' c₂' l)) done.lenS = cons e' c' c₂' l := fun e' c' c₂' => fr_drop_appS done _
    simp only [laws_markSurrealTermS_l0]
    rw [if_pos (by omega), if_pos (by omega), row_S rfl (hd e c c₂), hr e k (by omega) h0 (by omega), Option.bind_some, Int.toNat_natCast]
    simp only
    rw [set_rowsS, row_S rfl (hd (mkS e k) c c₂), set_rowsS, row_S rfl (hd (mkS e k) (k + 2 * e.sizeS) c₂), set_rowsS, wid (by omega) (by omega), wid (by omega) (by omega), wid (by omega) (by omega)]
    have e1 : appS done (cons (mkS e k) (k + 2 * e.sizeS) (k + 2 * e.sizeS + 1) l) = appS (appS done (cons (mkS e k) (k + 2 * e.sizeS) (k + 2 * e.sizeS + 1) nil)) l := by rw [app_assocS]; rfl
    have e2 : ((done.lenS : Int) + 1) = ((appS done (cons (mkS e k) (k + 2 * e.sizeS) (k + 2 * e.sizeS + 1) nil)).lenS : Int) := by rw [fr_snocLenS]; rfl
    rw [e1, e2, show k + 2 * (e.sizeS : Int) + 1 + 1 = k + 2 * e.sizeS + 2 by omega, markSur_loop hr l _ n (k + 2 * e.sizeS + 2) (by omega) (by omega) (by omega) (by omega) (by rw [fr_snocLenS]; omega), app_assocS]
    have e3 : k + 2 * (e.sizeS : Int) + 2 + 2 * (l.sizeS : Int) = k + 2 * ((cons e c c₂ l).sizeS : Int) := by simp only [sizeS]; omega
    rw [e3]; rfl
theorem markSurS_eq : ∀ (K : Nat) (t : S) (k : Int), t.sizeS + 1 < K → 0 ≤ k → k + 2 * t.sizeS ≤ 4000000000000000000 → laws_markSurrealTermS K t.rowsS k = some (k + 2 * t.sizeS, (mkS t k).rowsS)
  | 0, _, _, h, _, _ => absurd h (Nat.not_lt_zero _)
  | K + 1, nil, k, h, _, _ => by
    obtain ⟨m, rfl⟩ : ∃ m, K = m + 1 := ⟨K - 1, by omega⟩
    simp only [laws_markSurrealTermS, laws_markSurrealTermS_b, laws_markSurrealTermS_2, laws_markSurrealTermS_2_l0]
    simp [rowsS, mkS, sizeS]
  | K + 1, cons e c c₂ l, k, h, h0, hk => by
    have hl := (cons e c c₂ l).len_sizeS
    simp only [laws_markSurrealTermS, laws_markSurrealTermS_b]
    rw [if_neg (by simp [rowsS])]
    have := markSur_loop (rec_ := laws_markSurrealTermS K) (K0 := fun (v30 : Int) (v31 : Rw) => (if v31.length = (cons e c c₂ l).rowsS.length then some (v30, v31) else none)) (N := (cons e c c₂ l).sizeS) (fun e' k' he h0' hk' => markSurS_eq K e' k' (by omega) h0' hk') (cons e c c₂ l) nil K k (Nat.le_refl _) (by omega) h0 hk (by simp only [lenS] at hl ⊢; omega)
    refine this.trans ?_
    show (if (mkS (cons e c c₂ l) k).rowsS.length = (cons e c c₂ l).rowsS.length then _ else _) = _
    rw [if_pos (by rw [rowsS_len, rowsS_len, mkS_len])]
    rfl
theorem markSur_eq (K : Nat) (t : S) (k : Int) (h : t.sizeS + 1 < K) (h0 : 0 ≤ k) (hk : k + 2 * t.sizeS ≤ 4000000000000000000) : laws_markSurreal K t.rowsS k = some (k + 2 * t.sizeS, (mkS t k).rowsS) := by
  unfold laws_markSurreal
  cases t with
  | nil =>
    obtain ⟨m, rfl⟩ : ∃ m, K = m + 1 := ⟨K - 1, by omega⟩
    simp [rowsS, mkS, sizeS, laws_markSurreal_2, laws_markSurrealTermS_2, laws_markSurrealTermS_2_l0]
  | cons e c c₂ l =>
    rw [if_neg (by simp [rowsS]), markSurS_eq K _ k h h0 hk, Option.bind_some]
    simp only
    rw [if_pos (by rw [rowsS_len, rowsS_len, mkS_len])]
theorem heldSur_loop {rec_ : Rw → Int → Option Int} {a : Rw} {K0 : Int → Option Int} {N : Nat} (hr : ∀ (e : S) (k : Int), e.sizeS < N → 0 ≤ k → k + 2 * e.sizeS ≤ 4000000000000000000 → rec_ (mkS e k).rowsS k = some (k + 2 * e.sizeS)) :
    ∀ (t : S) (k : Int), t.sizeS ≤ N → 0 ≤ k → k + 2 * t.sizeS ≤ 4000000000000000000 → laws_heldSurrealTermS_l0 rec_ a K0 (mkS t k).rowsS k = K0 (k + 2 * t.sizeS)
  | nil, k, _, _, _ => by simp [mkS, rowsS, laws_heldSurrealTermS_l0, sizeS]
  | cons e c c₂ l, k, hs, h0, hk => by
    simp only [sizeS] at hs hk
    simp only [mkS, rowsS, laws_heldSurrealTermS_l0, cell_S]
    rw [hr e k (by omega) h0 (by omega), Option.bind_some, if_neg (by omega), if_pos rfl, wid (by omega) (by omega), if_pos rfl, wid (by omega) (by omega), show k + 2 * (e.sizeS : Int) + 1 + 1 = k + 2 * e.sizeS + 2 by omega, heldSur_loop hr l _ (by omega) (by omega) (by omega)]
    congr 1; simp only [sizeS]; omega
theorem heldSurS_eq : ∀ (K : Nat) (t : S) (k : Int), t.sizeS < K → t.sizeS ≤ cap → 0 ≤ k → k + 2 * t.sizeS ≤ 4000000000000000000 → laws_heldSurrealTermS K (mkS t k).rowsS k = some (k + 2 * t.sizeS)
  | 0, _, _, h, _, _, _ => absurd h (Nat.not_lt_zero _)
  | K + 1, t, k, h, hc, h0, hk => by
    have hl := t.len_sizeS
    simp only [laws_heldSurrealTermS, laws_heldSurrealTermS_b]
    rw [if_pos (by rw [rowsS_len, mkS_len]; omega), heldSur_loop (N := t.sizeS) (fun e' k' he h0' hk' => heldSurS_eq K e' k' (by omega) (by omega) h0' hk') t k (Nat.le_refl _) h0 hk]
theorem heldSur_eq (K : Nat) (t : S) (k : Int) (h : t.sizeS < K) (hc : t.sizeS ≤ cap) (h0 : 0 ≤ k) (hk : k + 2 * t.sizeS ≤ 4000000000000000000) : laws_heldSurreal K (mkS t k).rowsS k = some (k + 2 * t.sizeS) := by
  unfold laws_heldSurreal
  rw [heldSurS_eq K t k h hc h0 hk, Option.bind_some, if_neg (by omega)]
end Go.Proofs.Try

namespace Go.Proofs.Try
open Go Go.AX
theorem gcd_step (a b : Int) : Int.gcd b (a.tmod b) = Int.gcd a b := by
  show Nat.gcd b.natAbs (a.tmod b).natAbs = Nat.gcd a.natAbs b.natAbs
  rw [Int.natAbs_tmod, Nat.gcd_comm b.natAbs, ← Nat.gcd_rec, Nat.gcd_comm]
theorem halve (a b : Nat) (h : 0 < b) : b % (a % b) ≤ b / 2 ∨ a % b = 0 := by
  by_cases h0 : a % b = 0
  · exact .inr h0
  · left
    have h1 := Nat.mod_lt a h
    by_cases h2 : a % b ≤ b / 2
    · have := Nat.mod_lt b (show 0 < a % b by omega); omega
    · have h3 : b % (a % b) = b - a % b := by
        rw [Nat.mod_eq_sub_mod (by omega), Nat.mod_eq_of_lt (by omega)]
      omega
theorem igcd_loop {K : Int → Option Int} : ∀ (f n : Nat) (a b : Int), b.natAbs < 2 ^ f → 2 * f + 1 ≤ n → ∃ g : Int, impl_gcd_l0 K n a b = K g ∧ g.natAbs = Int.gcd a b
  | f, 0, _, _, _, h => absurd h (by omega)
  | 0, n + 1, a, b, hb, _ => by
    have : b = 0 := by omega
    subst this
    exact ⟨a, by simp only [impl_gcd_l0, if_true], by simp⟩
  | f + 1, n + 1, a, b, hb, hn => by
    obtain ⟨m, rfl⟩ : ∃ m, n = m + 1 := ⟨n - 1, by omega⟩
    simp only [impl_gcd_l0]
    by_cases h0 : b = 0
    · subst h0
      rw [if_pos rfl]
      exact ⟨a, rfl, by simp⟩
    · rw [if_neg h0, if_pos h0]
      by_cases h1 : a.tmod b = 0
      · rw [if_pos h1]
        exact ⟨b, rfl, by rw [← gcd_step, h1]; simp⟩
      · rw [if_neg h1, if_pos h1]
        have hh := halve a.natAbs b.natAbs (by omega)
        have hz : a.natAbs % b.natAbs ≠ 0 := by rw [← Int.natAbs_tmod]; omega
        have e1 : (b.tmod (a.tmod b)).natAbs = b.natAbs % (a.natAbs % b.natAbs) := by rw [Int.natAbs_tmod, Int.natAbs_tmod]
        have hp : 2 ^ (f + 1) = 2 * 2 ^ f := by rw [Nat.pow_succ, Nat.mul_comm]
        obtain ⟨g, e, hg⟩ := igcd_loop f m (a.tmod b) (b.tmod (a.tmod b)) (by rw [e1]; omega) (by omega)
        exact ⟨g, e, by rw [hg, gcd_step, gcd_step]⟩
theorem sgcd_loop {K : Int → Option Int} : ∀ (f n : Nat) (a b : Int), b.natAbs < 2 ^ f → 2 * f + 1 ≤ n → ∃ g : Int, spec_shGcd_l0 K n a b = K g ∧ g.natAbs = Int.gcd a b
  | f, 0, _, _, _, h => absurd h (by omega)
  | 0, n + 1, a, b, hb, _ => by
    have : b = 0 := by omega
    subst this
    exact ⟨a, by simp only [spec_shGcd_l0, if_true], by simp⟩
  | f + 1, n + 1, a, b, hb, hn => by
    obtain ⟨m, rfl⟩ : ∃ m, n = m + 1 := ⟨n - 1, by omega⟩
    simp only [spec_shGcd_l0]
    by_cases h0 : b = 0
    · subst h0
      rw [if_pos rfl]
      exact ⟨a, rfl, by simp⟩
    · rw [if_neg h0, if_pos h0]
      by_cases h1 : a.tmod b = 0
      · rw [if_pos h1]
        exact ⟨b, rfl, by rw [← gcd_step, h1]; simp⟩
      · rw [if_neg h1, if_pos h1]
        have hh := halve a.natAbs b.natAbs (by omega)
        have hz : a.natAbs % b.natAbs ≠ 0 := by rw [← Int.natAbs_tmod]; omega
        have e1 : (b.tmod (a.tmod b)).natAbs = b.natAbs % (a.natAbs % b.natAbs) := by rw [Int.natAbs_tmod, Int.natAbs_tmod]
        have hp : 2 ^ (f + 1) = 2 * 2 ^ f := by rw [Nat.pow_succ, Nat.mul_comm]
        obtain ⟨g, e, hg⟩ := sgcd_loop f m (a.tmod b) (b.tmod (a.tmod b)) (by rw [e1]; omega) (by omega)
        exact ⟨g, e, by rw [hg, gcd_step, gcd_step]⟩
theorem gcd_le (a b : Int) : Int.gcd a b ≤ max a.natAbs b.natAbs := by
  show Nat.gcd a.natAbs b.natAbs ≤ _
  by_cases h : a.natAbs = 0
  · rw [h, Nat.gcd_zero_left]; omega
  · have := Nat.gcd_le_left b.natAbs (show 0 < a.natAbs by omega); omega
theorem lt64 {b : Int} (hb : -4000000000000000000 ≤ b ∧ b ≤ 4000000000000000000) : b.natAbs < 2 ^ 64 := by
  have : (2 : Nat) ^ 64 = 18446744073709551616 := by decide
  omega
theorem dvd_cop {d n g : Int} (h : Int.gcd n d = 1) (hd : d ∣ n * g) : d ∣ g := by
  have h1 : d.natAbs ∣ n.natAbs * g.natAbs := by rw [← Int.natAbs_mul]; exact Int.natAbs_dvd_natAbs.2 hd
  have h2 : Nat.Coprime d.natAbs n.natAbs := by
    show Nat.gcd d.natAbs n.natAbs = 1
    rw [Nat.gcd_comm]; exact h
  exact Int.natAbs_dvd_natAbs.1 (h2.dvd_of_dvd_mul_left h1)
theorem igcd_eq {k : Nat} {a b : Int} (hk : 200 < k) (ha : -4000000000000000000 ≤ a ∧ a ≤ 4000000000000000000) (hb : -4000000000000000000 ≤ b ∧ b ≤ 4000000000000000000) : impl_gcd k a b = some (Int.gcd a b : Int) := by
  unfold impl_gcd
  obtain ⟨g, e, hg⟩ := igcd_loop (K := fun v9 => (impl_size v9).bind fun y14 => some y14) 64 k a b (lt64 hb) (by omega)
  have hl := gcd_le a b
  rw [e]
  unfold impl_size
  rw [Option.bind_some, wid (by omega) (by omega)]
  congr 1
  split <;> omega
theorem sgcd_eq {k : Nat} {a b : Int} (hk : 200 < k) (ha : -4000000000000000000 ≤ a ∧ a ≤ 4000000000000000000) (hb : -4000000000000000000 ≤ b ∧ b ≤ 4000000000000000000) : spec_shGcd k a b = some (Int.gcd a b : Int) := by
  unfold spec_shGcd
  obtain ⟨g, e, hg⟩ := sgcd_loop (K := fun v9 => (spec_l1Abs v9).bind fun y14 => some y14) 64 k a b (lt64 hb) (by omega)
  have hl := gcd_le a b
  rw [e]
  unfold spec_l1Abs spec_l1Most
  rw [wid (by omega) (by omega)]
  split
  · simp only [Option.bind_some]; congr 1; omega
  · simp only [Option.bind_some]; congr 1; omega
/-- A fraction that is right. -/
def frP (n d : Int) : Bool := (decide (1 ≤ d) && decide (d ≤ 1000000)) && ((decide (-1000000 ≤ n) && decide (n ≤ 1000000)) && decide (Int.gcd n d = 1))
theorem iIn_eq (n a b : Int) : impl_in n a b = some (decide (a ≤ n) && decide (n ≤ b)) := by
  unfold impl_in
  by_cases h1 : a ≤ n <;> by_cases h2 : n ≤ b <;> simp [h1, h2]
theorem sIn_eq (n a b : Int) : spec_l1In n a b = some (decide (a ≤ n) && decide (n ≤ b)) := by
  unfold spec_l1In
  by_cases h1 : a ≤ n <;> by_cases h2 : n ≤ b <;> simp [h1, h2]
theorem IsFraction_eq {k : Nat} (hk : 200 < k) (n d : Int) : impl_IsFraction k n d = some (frP n d) := by
  unfold impl_IsFraction frP
  rw [iIn_eq, iIn_eq]
  simp only [Option.bind_some]
  cases h1 : (decide (1 ≤ d) && decide (d ≤ 1000000)) with
  | false => simp
  | true =>
    cases h2 : (decide (-1000000 ≤ n) && decide (n ≤ 1000000)) with
    | false => simp
    | true =>
      simp only [Bool.and_eq_true, decide_eq_true_eq] at h1 h2
      rw [if_pos rfl, if_pos rfl, igcd_eq hk (by omega) (by omega), Option.bind_some]
      by_cases h3 : Int.gcd n d = 1
      · rw [if_pos (by omega), h3]; rfl
      · rw [if_neg (by omega)]; simp [h3]
theorem shGood_eq {k : Nat} (hk : 200 < k) (n d : Int) : spec_shGood k n d = some (frP n d) := by
  unfold spec_shGood frP
  rw [sIn_eq, sIn_eq]
  simp only [Option.bind_some]
  cases h1 : (decide (1 ≤ d) && decide (d ≤ 1000000)) with
  | false => simp
  | true =>
    cases h2 : (decide (-1000000 ≤ n) && decide (n ≤ 1000000)) with
    | false => simp
    | true =>
      simp only [Bool.and_eq_true, decide_eq_true_eq] at h1 h2
      rw [if_pos rfl, if_pos rfl, sgcd_eq hk (by omega) (by omega), Option.bind_some]
      by_cases h3 : Int.gcd n d = 1
      · rw [if_pos (by omega), h3]; rfl
      · rw [if_neg (by omega)]; simp [h3]
theorem frP_in {n d : Int} (h : frP n d = true) : (1 ≤ d ∧ d ≤ 1000000) ∧ (-1000000 ≤ n ∧ n ≤ 1000000) ∧ Int.gcd n d = 1 := by
  simp only [frP, Bool.and_eq_true, decide_eq_true_eq] at h
  exact h
/-! ### their order -/
def cmpF (n d m g : Int) : Int := cmpI (n * g) (m * d)
theorem prod_in {a b B C : Int} (ha : -B ≤ a ∧ a ≤ B) (hb : 0 ≤ b ∧ b ≤ C) : -(B * C) ≤ a * b ∧ a * b ≤ B * C := by
  have hB : 0 ≤ B := by omega
  have h1 : a * b ≤ B * b := Int.mul_le_mul_of_nonneg_right ha.2 hb.1
  have h2 : B * b ≤ B * C := Int.mul_le_mul_of_nonneg_left hb.2 hB
  have h3 : -B * b ≤ a * b := Int.mul_le_mul_of_nonneg_right ha.1 hb.1
  rw [Int.neg_mul] at h3
  omega
theorem cmp_inB {n d m g : Int} (h1 : frP n d = true) (h2 : frP m g = true) : (-1000000000000 ≤ n * g ∧ n * g ≤ 1000000000000) ∧ (-1000000000000 ≤ m * d ∧ m * d ≤ 1000000000000) := by
  obtain ⟨a1, a2, _⟩ := frP_in h1
  obtain ⟨b1, b2, _⟩ := frP_in h2
  have q1 := prod_in (B := 1000000) (C := 1000000) a2 ⟨by omega, b1.2⟩
  have q2 := prod_in (B := 1000000) (C := 1000000) b2 ⟨by omega, a1.2⟩
  omega
theorem icompare_eq (a b : Int) : impl_compare a b = some (cmpI a b) := by unfold impl_compare cmpI; split <;> (try split) <;> rfl
theorem cmpFractions_eq {n d m g : Int} (h1 : frP n d = true) (h2 : frP m g = true) : impl_cmpFractions n d m g = some (cmpF n d m g) := by
  have := cmp_inB h1 h2
  unfold impl_cmpFractions cmpF
  rw [wid (by omega) (by omega), wid (by omega) (by omega), icompare_eq]; rfl
theorem l1Sign_eq (a : Int) : spec_l1Sign a = some (cmpI a 0) := by unfold spec_l1Sign cmpI; split <;> (try split) <;> (try split) <;> first | rfl | (exfalso; omega)
theorem cmpI_sub (a b : Int) : cmpI (a - b) 0 = cmpI a b := by
  unfold cmpI
  by_cases h1 : a < b
  · rw [if_pos (by omega), if_pos h1]
  · rw [if_neg (by omega), if_neg h1]
    by_cases h2 : b < a
    · rw [if_pos (by omega), if_pos h2]
    · rw [if_neg (by omega), if_neg h2]
theorem shCmp_eq {n d m g : Int} (h1 : frP n d = true) (h2 : frP m g = true) : spec_shCmp n d m g = some (cmpF n d m g) := by
  have := cmp_inB h1 h2
  unfold spec_shCmp cmpF
  rw [wid (n := n * g) (by omega) (by omega), wid (n := m * d) (by omega) (by omega), wid (by omega) (by omega), l1Sign_eq, cmpI_sub]; rfl
theorem cmpF_eq {n d m g : Int} (h1 : frP n d = true) (h2 : frP m g = true) : cmpF n d m g = 0 ↔ n = m ∧ d = g := by
  obtain ⟨a1, a2, a3⟩ := frP_in h1
  obtain ⟨b1, b2, b3⟩ := frP_in h2
  unfold cmpF
  rw [cmpI_eq]
  constructor
  · intro h
    have d1 : d ∣ g := by
      have : d ∣ n * g := ⟨m, by rw [h, Int.mul_comm]⟩
      exact dvd_cop a3 this
    have d2 : g ∣ d := by
      have : g ∣ m * d := ⟨n, by rw [← h, Int.mul_comm]⟩
      exact dvd_cop b3 this
    have e1 := Int.le_of_dvd (by omega) d1
    have e2 := Int.le_of_dvd (by omega) d2
    have e : d = g := by omega
    subst e
    exact ⟨Int.eq_of_mul_eq_mul_right (by omega) h, rfl⟩
  · rintro ⟨rfl, rfl⟩; rfl
theorem cmpF_neg (n d m g : Int) : cmpF m g n d = - cmpF n d m g := cmpI_neg _ _
end Go.Proofs.Try

namespace Go.Proofs.Try
open Go Go.AX S
def sg (n : Int) : Int := cmpI n 0
def cmpS : S → S → Int
  | nil, nil => 0
  | nil, cons _ m _ _ => - sg m
  | cons _ n _ _, nil => sg n
  | cons e n d l, cons f m g r => if cmpS e f = 1 then sg n else if cmpS e f = -1 then - sg m else if cmpF n d m g = 0 then cmpS l r else cmpF n d m g
/-- Fractions that are right, and not 0. -/
def gdS : S → Prop
  | nil => True
  | cons e n d l => gdS e ∧ (frP n d = true ∧ n ≠ 0) ∧ gdS l
theorem gd_drop {t : S} (h : gdS t) : ∀ {i : Nat}, gdS (dropS t i) := by
  induction t with
  | nil => intro i; simp [gdS]
  | cons e n d l _ ih => intro i; cases i with
    | zero => simpa using h
    | succ i => exact ih h.2.2
theorem cmpI_range (a b : Int) : cmpI a b = -1 ∨ cmpI a b = 0 ∨ cmpI a b = 1 := by unfold cmpI; split <;> (try split) <;> simp
theorem sg_range (n : Int) : sg n = -1 ∨ sg n = 0 ∨ sg n = 1 := cmpI_range n 0
theorem cmpS_range (a b : S) : cmpS a b = -1 ∨ cmpS a b = 0 ∨ cmpS a b = 1 := by
  induction a generalizing b with
  | nil =>
    cases b with
    | nil => simp [cmpS]
    | cons f m g r => have := sg_range m; simp only [cmpS]; omega
  | cons e n d l ihe ihl =>
    cases b with
    | nil => exact sg_range n
    | cons f m g r =>
      have h1 := sg_range n
      have h2 := sg_range m
      simp only [cmpS]
      split
      · exact h1
      · split
        · omega
        · split
          · exact ihl r
          · exact cmpI_range _ _
theorem cmpS_neg (a b : S) : cmpS b a = - cmpS a b := by
  induction a generalizing b with
  | nil => cases b <;> simp [cmpS]
  | cons e n d l ihe ihl =>
    cases b with
    | nil => simp [cmpS]
    | cons f m g r =>
      simp only [cmpS, ihe f, ihl r, cmpF_neg n d m g]
      have := cmpS_range e f
      split <;> split <;> (try split) <;> (try split) <;> (try split) <;> omega
theorem cmpS_refl (a : S) : cmpS a a = 0 := by have := cmpS_neg a a; omega
theorem sg_nz {n : Int} (h : n ≠ 0) : sg n ≠ 0 := by unfold sg cmpI; split <;> (try split) <;> omega
theorem cmpS_eq : ∀ {a b : S}, gdS a → gdS b → (cmpS a b = 0 ↔ a = b)
  | nil, nil, _, _ => by simp [cmpS]
  | nil, cons f m g r, _, gb => by
    have := sg_nz gb.2.1.2
    simp only [cmpS, reduceCtorEq, iff_false]; omega
  | cons e n d l, nil, ga, _ => by
    have := sg_nz ga.2.1.2
    simp only [cmpS, reduceCtorEq, iff_false]; omega
  | cons e n d l, cons f m g r, ga, gb => by
    have i1 := cmpS_eq ga.1 gb.1
    have i2 := cmpS_eq ga.2.2 gb.2.2
    have i3 := cmpF_eq ga.2.1.1 gb.2.1.1
    have h1 := sg_nz ga.2.1.2
    have h2 := sg_nz gb.2.1.2
    have hr := cmpS_range e f
    simp only [cmpS, S.cons.injEq]
    constructor
    · intro h
      split at h
      · omega
      · split at h
        · omega
        · split at h
          · rename_i q1 q2 q3
            obtain ⟨z1, z2⟩ := i3.1 q3
            exact ⟨i1.1 (by omega), z1, z2, i2.1 h⟩
          · rename_i q; exact absurd h q
    · rintro ⟨z1, z2, z3, z4⟩
      have y1 := i1.2 z1
      rw [if_neg (by omega), if_neg (by omega), if_pos (i3.2 ⟨z2, z3⟩)]
      exact i2.2 z4
theorem cmpF_lt {n d m g : Int} : cmpF n d m g = 1 ↔ m * d < n * g := by
  unfold cmpF cmpI
  split
  · omega
  · split <;> simp <;> omega
theorem cmpF_trans {n d m g u v : Int} (hd : 0 < d) (hg : 0 < g) (hv : 0 < v) (h1 : cmpF n d m g = 1) (h2 : cmpF m g u v = 1) : cmpF n d u v = 1 := by
  rw [cmpF_lt] at *
  have q1 : m * d * v < n * g * v := Int.mul_lt_mul_of_pos_right h1 hv
  have q2 : u * g * d < m * v * d := Int.mul_lt_mul_of_pos_right h2 hd
  have e1 : m * d * v = m * v * d := by rw [Int.mul_assoc, Int.mul_comm d v, ← Int.mul_assoc]
  have e2 : u * g * d = u * d * g := by rw [Int.mul_assoc, Int.mul_comm g d, ← Int.mul_assoc]
  have e3 : n * g * v = n * v * g := by rw [Int.mul_assoc, Int.mul_comm g v, ← Int.mul_assoc]
  have q3 : u * d * g < n * v * g := by omega
  exact Int.lt_of_mul_lt_mul_right q3 (by omega)
theorem sg_one {n : Int} : sg n = 1 ↔ 0 < n := by unfold sg cmpI; split <;> (try split) <;> omega
theorem sg_neg {n : Int} : sg n = -1 ↔ n < 0 := by unfold sg cmpI; split <;> (try split) <;> omega
/-- Signs and fractions. -/
theorem cmpF_sign {n d m g : Int} (hd : 0 < d) (hg : 0 < g) (hn : 0 < n) (hm : m < 0) : cmpF n d m g = 1 := by
  rw [cmpF_lt]
  have := Int.mul_pos hn hg
  have := Int.mul_neg_of_neg_of_pos hm hd
  omega
theorem cmpF_pos {n d m g : Int} (hd : 0 < d) (hg : 0 < g) (h : cmpF n d m g = 1) (hm : 0 < m) : 0 < n := by
  rw [cmpF_lt] at h
  have h1 := Int.mul_pos hm hd
  rcases Int.lt_or_le 0 n with x | x
  · exact x
  · have := Int.mul_nonpos_of_nonpos_of_nonneg x (show 0 ≤ g by omega); omega
theorem cmpF_ng {n d m g : Int} (hd : 0 < d) (hg : 0 < g) (h : cmpF n d m g = 1) (hn : n < 0) : m < 0 := by
  rw [cmpF_lt] at h
  have h1 := Int.mul_neg_of_neg_of_pos hn hg
  rcases Int.lt_or_le m 0 with x | x
  · exact x
  · have := Int.mul_nonneg x (show 0 ≤ d by omega); omega
theorem order_loop {rec_ : Rw → Rw → Option Int} {a b : S} (ga : gdS a) (gb : gdS b) (hc : a.sizeS ≤ cap) (hr : ∀ e f : S, e.sizeS < a.sizeS → gdS e → gdS f → rec_ e.rowsS f.rowsS = some (cmpS e f)) :
    ∀ (t : S) (i n : Nat), dropS a i = t → i ≤ a.lenS → i ≤ b.lenS → t.lenS + 1 ≤ n → impl_order_l0 rec_ a.rowsS b.rowsS (some 0) n i = some (cmpS t (dropS b i))
  | _, _, 0, _, _, _, h => absurd h (by omega)
  | nil, i, n + 1, hd, hi, hj, hn => by
    have h1 := drop_geS hd
    simp only [impl_order_l0]
    rw [if_neg (by rw [lenSI]; omega)]
    cases hb : dropS b i with
    | nil =>
      have h2 := drop_geS hb
      rw [if_neg (by rw [lenSI]; omega)]; rfl
    | cons f m g r =>
      have h2 := drop_ltS hb
      have := sg_range m
      rw [if_pos (by rw [lenSI]; omega), if_pos (by rw [lenSI]; omega), row_S rfl hb, icompare_eq, Option.bind_some, show cmpI m 0 = sg m from rfl, wid (by omega) (by omega)]
      simp only [cmpS]; congr 1; omega
  | cons e x d l, i, n + 1, hd, hi, hj, hn => by
    have h1 := drop_ltS hd
    have hs := drop_cons_sizeS hd
    have hl := a.len_sizeS
    have h3 : cap = 1099511627776 := rfl
    have g1 := gd_drop ga (i := i)
    rw [hd] at g1
    simp only [lenS] at hn
    simp only [impl_order_l0]
    rw [if_pos (by rw [lenSI]; omega), if_neg (by rw [lenSI]; omega)]
    cases hb : dropS b i with
    | nil =>
      have h2 := drop_geS hb
      rw [if_pos (by rw [lenSI]; omega), row_S rfl hd, icompare_eq]; rfl
    | cons f m g r =>
      have h2 := drop_ltS hb
      have g2 := gd_drop gb (i := i)
      rw [hb] at g2
      have := sg_range m
      rw [if_neg (by rw [lenSI]; omega), row_S rfl hd, row_S rfl hb, hr e f (by omega) g1.1 g2.1, Option.bind_some, icompare_eq, icompare_eq, cmpFractions_eq g1.2.1.1 g2.2.1.1]
      simp only [Option.bind_some, cmpS]
      by_cases q1 : cmpS e f = 1
      · rw [if_pos q1, if_pos q1]; rfl
      · rw [if_neg q1, if_neg q1]
        by_cases q2 : cmpS e f = -1
        · rw [if_pos q2, if_pos q2, show cmpI m 0 = sg m from rfl, wid (by omega) (by omega)]; congr 1; omega
        · rw [if_neg q2, if_neg q2]
          by_cases q3 : cmpF x d m g = 0
          · rw [if_pos q3, if_pos q3, wid (by omega) (by omega)]
            have := order_loop ga gb hc hr l (i + 1) n (drop_succS hd) (by omega) (by omega) (by omega)
            rw [drop_succS hb] at this
            exact this
          · rw [if_neg q3, if_neg q3]
theorem order_eq : ∀ (k : Nat) (a b : S), a.sizeS + 1 < k → a.sizeS ≤ cap → gdS a → gdS b → impl_order k a.rowsS b.rowsS = some (cmpS a b)
  | 0, _, _, h, _, _, _ => absurd h (Nat.not_lt_zero _)
  | k + 1, a, b, h, hc, ga, gb => by
    have hl := a.len_sizeS
    simp only [impl_order, impl_order_b, impl_order_p2]
    have := order_loop (rec_ := impl_order k) ga gb hc (fun e f he ge gf => order_eq k e f (by omega) (by omega) ge gf) a 0 k (drop_zeroS a) (by omega) (by omega) (by omega)
    rw [drop_zeroS] at this
    exact this
theorem suCmp_loop {rec_ : Rw → Rw → Option Int} {a b : S} (ga : gdS a) (gb : gdS b) (hc : a.sizeS ≤ cap) (hr : ∀ e f : S, e.sizeS < a.sizeS → gdS e → gdS f → rec_ e.rowsS f.rowsS = some (cmpS e f)) :
    ∀ (t : S) (i : Nat), dropS a i = t → i ≤ a.lenS → i ≤ b.lenS → spec_suCmp_l0 rec_ a.rowsS b.rowsS (spec_suCmp_p2 a.rowsS b.rowsS) t.rowsS i = some (cmpS t (dropS b i))
  | nil, i, hd, hi, hj => by
    have h1 := drop_geS hd
    have hia : a.lenS = i := by omega
    simp only [rowsS, spec_suCmp_l0]
    unfold spec_suCmp_p2 spec_suCmp_p3
    rw [if_pos ⟨by rw [lenSI]; omega, by rw [lenSI, lenSI]; omega, rowsWideS b⟩, lenSI, Int.toNat_natCast, hia, ← rows_dropS]
    cases hb : dropS b i with
    | nil => rfl
    | cons f m g r =>
      have := sg_range m
      unfold spec_suSign
      rw [if_neg (by rw [lenSI]; simp only [lenS]; omega), row_S0, l1Sign_eq]
      simp only [Option.bind_some, cmpS]
      rw [show cmpI m 0 = sg m from rfl, wid (by omega) (by omega)]; congr 1; omega
  | cons e x d l, i, hd, hi, hj => by
    have h1 := drop_ltS hd
    have hs := drop_cons_sizeS hd
    have g1 := gd_drop ga (i := i)
    rw [hd] at g1
    simp only [rowsS, spec_suCmp_l0, cell_S]
    cases hb : dropS b i with
    | nil =>
      have h2 := drop_geS hb
      rw [if_pos (by rw [lenSI]; omega), l1Sign_eq]; rfl
    | cons f m g r =>
      have h2 := drop_ltS hb
      have g2 := gd_drop gb (i := i)
      rw [hb] at g2
      have := sg_range m
      have hrng := cmpS_range e f
      have hF := cmpF_eq g1.2.1.1 g2.2.1.1
      rw [if_neg (by rw [lenSI]; omega), row_S rfl hb, hr e f (by omega) g1.1 g2.1, Option.bind_some, l1Sign_eq, l1Sign_eq, shCmp_eq g1.2.1.1 g2.2.1.1]
      simp only [Option.bind_some, cmpS]
      by_cases q1 : cmpS e f = 1
      · rw [if_pos (by omega), if_pos q1]; rfl
      · rw [if_neg (by omega), if_neg q1]
        by_cases q2 : cmpS e f = -1
        · rw [if_pos (by omega), if_pos q2, show cmpI m 0 = sg m from rfl, wid (by omega) (by omega)]; congr 1; omega
        · rw [if_neg (by omega), if_neg q2]
          by_cases q3 : cmpF x d m g = 0
          · obtain ⟨z1, z2⟩ := hF.1 q3
            rw [if_pos q3, if_neg (by simp [z1, z2])]
            have := suCmp_loop ga gb hc hr l (i + 1) (drop_succS hd) (by omega) (by omega)
            rw [drop_succS hb] at this
            exact this
          · have : ¬ (x = m ∧ d = g) := fun z => q3 (hF.2 z)
            rw [if_neg q3, if_pos (by simp only [Bool.and_true, Bool.not_eq_true', Bool.and_eq_false_iff, decide_eq_false_iff_not]; exact Decidable.not_and_iff_or_not.1 this)]
theorem suCmp_eq : ∀ (k : Nat) (a b : S), a.sizeS < k → a.sizeS ≤ cap → gdS a → gdS b → spec_suCmp k a.rowsS b.rowsS = some (cmpS a b)
  | 0, _, _, h, _, _, _ => absurd h (Nat.not_lt_zero _)
  | k + 1, a, b, h, hc, ga, gb => by
    have hl := a.len_sizeS
    simp only [spec_suCmp, spec_suCmp_b]
    rw [if_pos (by rw [rowsS_len]; omega)]
    have := suCmp_loop (rec_ := spec_suCmp k) ga gb hc (fun e f he ge gf => suCmp_eq k e f (by omega) (by omega) ge gf) a 0 (drop_zeroS a) (by omega) (by omega)
    rw [drop_zeroS] at this
    exact this
end Go.Proofs.Try

namespace Go.Proofs.Try
open Go Go.AX S
theorem two_if {α : Type} {p : Bool} {c : Int} {X F : α} : (if p = true then (if c = 0 then F else X) else F) = if (p && decide (c ≠ 0)) = true then X else F := by
  cases p <;> by_cases h : c = 0 <;> simp [h]
/-! ### what is right -/
def nodesS : S → Nat
  | nil => 0
  | cons e _ _ l => 2 + nodesS e + nodesS l
def dpS : S → Nat
  | nil => 0
  | cons e _ _ l => max (1 + dpS e) (dpS l)
/-- Coefficients in their range, exponents that fall; p: the exponent aheadS. -/
def formS : Option S → S → Bool
  | _, nil => true
  | p, cons e c c₂ l => frP c c₂ && decide (c ≠ 0) && formS none e && (match p with | none => true | some q => decide (0 < cmpS q e)) && formS (some e) l
def surP (t : S) : Bool := decide (1 + nodesS t ≤ 60) && decide (dpS t ≤ 6) && formS none t
theorem nodesS_size (t : S) : nodesS t = 2 * sizeS t := by
  induction t with
  | nil => rfl
  | cons e c c₂ l ihe ihl => simp only [nodesS, sizeS, ihe, ihl]; omega
theorem surP_size {t : S} (h : surP t = true) : sizeS t ≤ 30 := by
  simp only [surP, Bool.and_eq_true, decide_eq_true_eq] at h
  have := nodesS_size t
  omega
theorem sform_gd {p : Option S} {t : S} (h : formS p t = true) : gdS t := by
  induction t generalizing p with
  | nil => trivial
  | cons e c c₂ l ihe ihl =>
    simp only [formS, Bool.and_eq_true] at h
    exact ⟨ihe h.1.1.2, ⟨h.1.1.1.1, by have := h.1.1.1.2; simpa using this⟩, ihl h.2⟩
/-- The exponent of the term aheadS of the i-th. -/
def aheadS (t : S) : Nat → Option S
  | 0 => none
  | i + 1 => match dropS t i with
    | cons e _ _ _ => some e
    | nil => none
theorem aheadS_succ {t : S} {i : Nat} {e : S} {c c₂ : Int} {l : S} (h : dropS t i = cons e c c₂ l) : aheadS t (i + 1) = some e := by simp [aheadS, h]
theorem aheadS_some {t : S} {i : Nat} (h0 : 0 < i) (h : i ≤ t.lenS) : ∃ q c c₂ l, dropS t (i - 1) = cons q c c₂ l ∧ aheadS t i = some q := by
  obtain ⟨j, rfl⟩ : ∃ j, i = j + 1 := ⟨i - 1, by omega⟩
  cases hq : dropS t j with
  | nil => have := drop_geS hq; omega
  | cons q c c₂ l => exact ⟨q, c, c₂, l, hq, aheadS_succ hq⟩
theorem dpS_drop {t : S} : ∀ {i : Nat}, dpS (dropS t i) ≤ dpS t := by
  induction t with
  | nil => intro i; simp
  | cons e c c₂ l _ ih => intro i; cases i with
    | zero => simp
    | succ i => have := ih (i := i); simp only [dropS, dpS]; omega
/-- What a check of a tree tells. -/
def TellsS (r : Bool × Int) (n : Int) (ok : Prop) (m : Int) : Prop := (r.1 = true ↔ ok) ∧ (r.1 = true → r.2 = m) ∧ 0 ≤ r.2 ∧ r.2 ≤ 61 ∧ n ≤ r.2
theorem sat2_loop {k : Nat} {rec_ : Rw → Int → Int → Int → Int → Option (Bool × Int)} {a : S} {d1 d2 deep : Int} (hd : 0 ≤ deep ∧ deep ≤ 6) (hk : a.sizeS + 300 ≤ k) (hc : a.sizeS ≤ cap)
    (hr : ∀ (e : S) (x y n : Int), e.sizeS < a.sizeS → 0 ≤ n → n ≤ 60 → ∃ r, rec_ e.rowsS x y (deep + 1) n = some r ∧ TellsS r n (n + 1 + nodesS e ≤ 60 ∧ deep + 1 + dpS e ≤ 6 ∧ formS none e = true) (n + 1 + nodesS e)) :
    ∀ (t : S) (i : Nat) (m : Int), dropS a i = t → i ≤ a.lenS → (∀ q, aheadS a i = some q → gdS q) → 0 ≤ m → m ≤ 60 → ∃ r, impl_surrealAt_2_l0 k rec_ a.rowsS d1 d2 deep (fun v => impl_surrealAt_2_p3 v) t.rowsS i m = some r ∧ TellsS r m (m + nodesS t ≤ 60 ∧ deep + dpS t ≤ 6 ∧ formS (aheadS a i) t = true) (m + nodesS t)
  | nil, i, m, hdr, hi, _, h0, h60 => by
    refine ⟨(true, m), rfl, ?_⟩
    simp only [TellsS, nodesS, dpS, formS]
    refine ⟨⟨fun _ => ⟨by omega, by omega, trivial⟩, fun _ => trivial⟩, fun _ => by omega, h0, by omega, by omega⟩
  | cons e c c₂ l, i, m, hdr, hi, hcalm, h0, h60 => by
    have hs := drop_cons_sizeS hdr
    simp only [rowsS, impl_surrealAt_2_l0, cell_S]
    rw [wid (n := m + 1) (by omega) (by omega)]
    by_cases h1 : 60 < m + 1
    · rw [if_pos h1]
      refine ⟨_, rfl, ?_⟩
      simp only [TellsS, nodesS]
      refine ⟨⟨fun h => (by cases h), fun h => by omega⟩, fun h => (by cases h), by omega, by omega, by omega⟩
    · rw [if_neg h1, IsFraction_eq (by omega), Option.bind_some, two_if]
      by_cases h2 : (frP c c₂ && decide (c ≠ 0)) = true
      · rw [if_pos h2, wid (n := deep + 1) (by omega) (by omega)]
        obtain ⟨r1, e1, t1, t2, t3, t4, t5⟩ := hr e c c₂ (m + 1) (by omega) (by omega) (by omega)
        rw [e1, Option.bind_some]
        obtain ⟨b1, m1⟩ := r1
        dsimp only at t1 t2 t3 t4 t5 ⊢
        cases b1 with
        | false =>
          rw [if_neg (by simp)]
          refine ⟨_, rfl, ?_⟩
          simp only [TellsS]
          refine ⟨⟨fun h => (by cases h), fun h => ?_⟩, fun h => (by cases h), t3, t4, by omega⟩
          obtain ⟨q1, q2, q3⟩ := h
          simp only [nodesS, dpS, formS, Bool.and_eq_true] at q1 q2 q3
          exact t1.2 ⟨by omega, by omega, q3.1.1.2⟩
        | true =>
          obtain ⟨u1, u2, u3⟩ := t1.1 rfl
          obtain rfl := t2 rfl
          rw [if_pos rfl]
          have go : ∀ (hp : (match aheadS a i with | none => true | some q => decide (0 < cmpS q e)) = true), ∃ r, impl_surrealAt_2_l0 k rec_ a.rowsS d1 d2 deep (fun v => impl_surrealAt_2_p3 v) l.rowsS (i + 1) (m + 1 + 1 + nodesS e) = some r ∧ TellsS r m (m + nodesS (cons e c c₂ l) ≤ 60 ∧ deep + dpS (cons e c c₂ l) ≤ 6 ∧ formS (aheadS a i) (cons e c c₂ l) = true) (m + nodesS (cons e c c₂ l)) := by
            intro hp
            obtain ⟨r, er, s1, s2, s3, s4, s5⟩ := sat2_loop hd hk hc hr l (i + 1) (m + 1 + 1 + nodesS e) (drop_succS hdr) (drop_ltS hdr) (by rw [aheadS_succ hdr]; intro q hq; cases hq; exact sform_gd u3) (by omega) (by omega)
            refine ⟨r, er, ?_⟩
            rw [aheadS_succ hdr] at s1
            simp only [TellsS, nodesS, dpS, formS, Bool.and_eq_true]
            refine ⟨s1.trans ⟨fun q => ⟨by have := q.1; omega, by have := q.2.1; omega, ⟨⟨(by simpa using h2), u3⟩, hp⟩, q.2.2⟩, fun q => ⟨by have := q.1; omega, by have := q.2.1; omega, q.2.2.2⟩⟩, fun q => by rw [s2 q]; omega, s3, s4, by omega⟩
          by_cases h3 : (0 : Int) < (i : Int)
          · obtain ⟨q, qc, qc₂, ql, hq, ha⟩ := aheadS_some (t := a) (i := i) (by omega) hi
            have hqs := drop_cons_sizeS hq
            rw [if_pos h3, wid (n := (i : Int) - 1) (by omega) (by have := a.len_sizeS; have : cap = 1099511627776 := rfl; omega), row_S (n := i - 1) (by omega) hq, order_eq k q e (by omega) (by omega) (hcalm q ha) (sform_gd u3), Option.bind_some]
            by_cases h4 : cmpS q e ≤ 0
            · rw [if_pos h4]
              refine ⟨_, rfl, ?_⟩
              simp only [TellsS]
              refine ⟨⟨fun h => (by cases h), fun h => ?_⟩, fun h => (by cases h), t3, t4, by omega⟩
              obtain ⟨_, _, q3⟩ := h
              simp only [formS, ha, Bool.and_eq_true, decide_eq_true_eq] at q3
              have := q3.1.2
              omega
            · rw [if_neg h4]
              exact go (by rw [ha]; simp; omega)
          · rw [if_neg h3]
            have : i = 0 := by omega
            subst this
            exact go rfl
      · rw [if_neg h2]
        refine ⟨_, rfl, ?_⟩
        simp only [TellsS]
        refine ⟨⟨fun h => (by cases h), fun h => ?_⟩, fun h => (by cases h), by omega, by omega, by omega⟩
        obtain ⟨_, _, q3⟩ := h
        simp only [formS, Bool.and_eq_true] at q3 h2
        exact absurd q3.1.1.1 h2
theorem sat2_eq : ∀ (k : Nat) (a : S) (x y deep n : Int), a.sizeS + 300 < k → a.sizeS ≤ cap → 0 ≤ deep → deep ≤ 7 → 0 ≤ n → n ≤ 60 →
    ∃ r, impl_surrealAt_2 k a.rowsS x y deep n = some r ∧ TellsS r n (n + 1 + nodesS a ≤ 60 ∧ deep + dpS a ≤ 6 ∧ formS none a = true) (n + 1 + nodesS a)
  | 0, _, _, _, _, _, h, _, _, _, _, _ => absurd h (Nat.not_lt_zero _)
  | k + 1, a, x, y, deep, n, h, hc, h0, h7, n0, n60 => by
    have hl := a.len_sizeS
    simp only [impl_surrealAt_2, impl_surrealAt_2_b]
    rw [wid (n := n + 1) (by omega) (by omega)]
    by_cases h1 : 60 < n + 1
    · rw [if_pos h1]
      refine ⟨_, rfl, ?_⟩
      simp only [TellsS]
      exact ⟨⟨fun h => (by cases h), fun h => by omega⟩, fun h => (by cases h), by omega, by omega, by omega⟩
    · rw [if_neg h1]
      by_cases h2 : 6 < deep
      · rw [if_pos h2]
        refine ⟨_, rfl, ?_⟩
        simp only [TellsS]
        exact ⟨⟨fun h => (by cases h), fun h => by omega⟩, fun h => (by cases h), by omega, by omega, by omega⟩
      · rw [if_neg h2, if_pos (by rw [rowsS_len]; omega)]
        obtain ⟨r, e, s1, s2, s3, s4, s5⟩ := sat2_loop (k := k) (rec_ := impl_surrealAt_2 k) (a := a) (d1 := x) (d2 := y) (deep := deep) (by omega) (by omega) hc (fun e y z m he m0 m60 => sat2_eq k e y z (deep + 1) m (by omega) (by omega) (by omega) (by omega) m0 m60) a 0 (n + 1) (drop_zeroS a) (by omega) (by intro q hq; cases hq) (by omega) (by omega)
        exact ⟨r, e, s1, s2, s3, s4, by omega⟩
theorem sat1_loop {k : Nat} {a : S} (hk : a.sizeS + 300 < k) (hc : a.sizeS ≤ cap) :
    ∀ (t : S) (i : Nat) (m : Int), dropS a i = t → i ≤ a.lenS → (∀ q, aheadS a i = some q → gdS q) → 0 ≤ m → m ≤ 60 → ∃ r : Bool × Int, impl_surrealAt_l0 k a.rowsS 0 (fun v => impl_surrealAt_p3 a.rowsS v) t.rowsS i m = some (r.1, a.rowsS, r.2) ∧ (r.1 = true ↔ m + nodesS t ≤ 60 ∧ dpS t ≤ 6 ∧ formS (aheadS a i) t = true) ∧ (r.1 = true → r.2 = m + nodesS t)
  | nil, i, m, hdr, hi, _, h0, h60 => by
    refine ⟨(true, m), rfl, ?_⟩
    simp only [nodesS, dpS, formS]
    exact ⟨⟨fun _ => ⟨by omega, by omega, trivial⟩, fun _ => trivial⟩, fun _ => by omega⟩
  | cons e c c₂ l, i, m, hdr, hi, hcalm, h0, h60 => by
    have hs := drop_cons_sizeS hdr
    simp only [rowsS, impl_surrealAt_l0, cell_S]
    rw [wid (n := m + 1) (by omega) (by omega)]
    by_cases h1 : 60 < m + 1
    · rw [if_pos h1]
      exact ⟨(false, _), rfl, ⟨fun h => (by cases h), fun h => by simp only [nodesS] at h; omega⟩, fun h => (by cases h)⟩
    · rw [if_neg h1, IsFraction_eq (by omega), Option.bind_some, two_if]
      by_cases h2 : (frP c c₂ && decide (c ≠ 0)) = true
      · rw [if_pos h2, wid (n := 0 + 1) (by omega) (by omega)]
        obtain ⟨r1, e1, t1, t2, t3, t4, t5⟩ := sat2_eq k e c c₂ (0 + 1) (m + 1) (by omega) (by omega) (by omega) (by omega) (by omega) (by omega)
        rw [e1, Option.bind_some]
        obtain ⟨b1, m1⟩ := r1
        dsimp only at t1 t2 t3 t4 t5 ⊢
        cases b1 with
        | false =>
          rw [if_neg (by simp)]
          refine ⟨(false, _), rfl, ⟨fun h => (by cases h), fun h => ?_⟩, fun h => (by cases h)⟩
          obtain ⟨q1, q2, q3⟩ := h
          simp only [nodesS, dpS, formS, Bool.and_eq_true] at q1 q2 q3
          exact t1.2 ⟨by omega, by omega, q3.1.1.2⟩
        | true =>
          obtain ⟨u1, u2, u3⟩ := t1.1 rfl
          obtain rfl := t2 rfl
          rw [if_pos rfl]
          have go : ∀ (hp : (match aheadS a i with | none => true | some q => decide (0 < cmpS q e)) = true), ∃ r : Bool × Int, impl_surrealAt_l0 k a.rowsS 0 (fun v => impl_surrealAt_p3 a.rowsS v) l.rowsS (i + 1) (m + 1 + 1 + nodesS e) = some (r.1, a.rowsS, r.2) ∧ (r.1 = true ↔ m + nodesS (cons e c c₂ l) ≤ 60 ∧ dpS (cons e c c₂ l) ≤ 6 ∧ formS (aheadS a i) (cons e c c₂ l) = true) ∧ (r.1 = true → r.2 = m + nodesS (cons e c c₂ l)) := by
            intro hp
            obtain ⟨r, er, s1, s2⟩ := sat1_loop hk hc l (i + 1) (m + 1 + 1 + nodesS e) (drop_succS hdr) (drop_ltS hdr) (by rw [aheadS_succ hdr]; intro q hq; cases hq; exact sform_gd u3) (by omega) (by omega)
            refine ⟨r, er, ?_⟩
            rw [aheadS_succ hdr] at s1
            simp only [nodesS, dpS, formS, Bool.and_eq_true]
            exact ⟨s1.trans ⟨fun q => ⟨by have := q.1; omega, by have := q.2.1; omega, ⟨⟨(by simpa using h2), u3⟩, hp⟩, q.2.2⟩, fun q => ⟨by have := q.1; omega, by have := q.2.1; omega, q.2.2.2⟩⟩, fun q => by rw [s2 q]; omega⟩
          by_cases h3 : (0 : Int) < (i : Int)
          · obtain ⟨q, qc, qc₂, ql, hq, ha⟩ := aheadS_some (t := a) (i := i) (by omega) hi
            have hqs := drop_cons_sizeS hq
            rw [if_pos h3, wid (n := (i : Int) - 1) (by omega) (by have := a.len_sizeS; have : cap = 1099511627776 := rfl; omega), row_S (n := i - 1) (by omega) hq, order_eq k q e (by omega) (by omega) (hcalm q ha) (sform_gd u3), Option.bind_some]
            by_cases h4 : cmpS q e ≤ 0
            · rw [if_pos h4]
              refine ⟨(false, _), rfl, ⟨fun h => (by cases h), fun h => ?_⟩, fun h => (by cases h)⟩
              obtain ⟨_, _, q3⟩ := h
              simp only [formS, ha, Bool.and_eq_true, decide_eq_true_eq] at q3
              have := q3.1.2
              omega
            · rw [if_neg h4]
              exact go (by rw [ha]; simp; omega)
          · rw [if_neg h3]
            have : i = 0 := by omega
            subst this
            exact go rfl
      · rw [if_neg h2]
        refine ⟨(false, _), rfl, ⟨fun h => (by cases h), fun h => ?_⟩, fun h => (by cases h)⟩
        obtain ⟨_, _, q3⟩ := h
        simp only [formS, Bool.and_eq_true] at q3 h2
        exact absurd q3.1.1.1 h2
theorem sat1_eq (k : Nat) (a : S) (hk : a.sizeS + 300 < k) (hc : a.sizeS ≤ cap) : ∃ r : Bool × Int, impl_surrealAt k a.rowsS 0 0 = some (r.1, a.rowsS, r.2) ∧ (r.1 = true ↔ surP a = true) ∧ (r.1 = true → r.2 = 1 + nodesS a) := by
  have hl := a.len_sizeS
  unfold impl_surrealAt
  rw [wid (n := 0 + 1) (by omega) (by omega), if_neg (by omega), if_neg (by omega), if_pos (by rw [rowsS_len]; omega)]
  obtain ⟨r, e, s, v⟩ := sat1_loop hk hc a 0 (0 + 1) (drop_zeroS a) (by omega) (by intro q hq; cases hq) (by omega) (by omega)
  refine ⟨r, e, s.trans ?_, fun q => by rw [v q]; omega⟩
  simp only [surP, Bool.and_eq_true, decide_eq_true_eq, aheadS]
  exact ⟨fun q => ⟨⟨by have := q.1; omega, q.2.1⟩, q.2.2⟩, fun q => ⟨by have := q.1.1; omega, q.1.2, q.2⟩⟩
theorem IsSurreal_eq (k : Nat) (a : S) (hk : a.sizeS + 300 < k) (hc : a.sizeS ≤ cap) : impl_IsSurreal k a.rowsS = some (surP a) := by
  obtain ⟨r, e, s, _⟩ := sat1_eq k a hk hc
  unfold impl_IsSurreal
  rw [e, Option.bind_some]
  cases hb : surP a with
  | true => rw [if_pos (s.2 hb)]
  | false => rw [if_neg (fun q => by rw [s.1 q] at hb; cases hb)]
theorem sclone_loop {rec_ : Rw → Option Rw} {a : S} {K : Rw → Option Rw} (hr : ∀ e : S, e.sizeS < a.sizeS → rec_ e.rowsS = some e.rowsS) : ∀ (t : S) (acc : Rw), t.sizeS ≤ a.sizeS → acc.length + t.lenS ≤ cap → impl_cloneSurreal_l0 rec_ a.rowsS K t.rowsS acc = K (acc ++ t.rowsS)
  | nil, acc, _, _ => by simp [rowsS, impl_cloneSurreal_l0]
  | cons e c c₂ l, acc, hs, hl => by
    simp only [sizeS, lenS] at hs hl
    simp only [rowsS, impl_cloneSurreal_l0, cell_S, hr e (by omega), Option.bind_some]
    rw [if_pos (by omega), sclone_loop hr l _ (by omega) (by simp; omega)]
    simp
theorem sclone_eq : ∀ (k : Nat) (a : S), a.sizeS < k → a.sizeS ≤ cap → impl_cloneSurreal k a.rowsS = some a.rowsS
  | 0, _, h, _ => absurd h (Nat.not_lt_zero _)
  | k + 1, a, h, hc => by
    have hl := a.len_sizeS
    simp only [impl_cloneSurreal, impl_cloneSurreal_b]
    rw [if_pos (by rw [rowsS_len]; omega), sclone_loop (fun e he => sclone_eq k e (by omega) (by omega)) a [] (Nat.le_refl _) (by simp; omega)]
    simp
def toldST (t : S) : S × Bool := if surP t then (t, true) else (nil, false)
theorem sown_loop {rec_ : Rw → Option Rw} {a : S} {K : Rw → Option Rw} (hr : ∀ e : S, e.sizeS < a.sizeS → rec_ e.rowsS = some e.rowsS) : ∀ (t : S) (acc : Rw), t.sizeS ≤ a.sizeS → acc.length + t.lenS ≤ cap → spec_suOwn_l0 rec_ a.rowsS K t.rowsS acc = K (acc ++ t.rowsS)
  | nil, acc, _, _ => by simp [rowsS, spec_suOwn_l0]
  | cons e c c₂ l, acc, hs, hl => by
    simp only [sizeS, lenS] at hs hl
    simp only [rowsS, spec_suOwn_l0, cell_S, hr e (by omega), Option.bind_some]
    rw [if_pos (by omega), sown_loop hr l _ (by omega) (by simp; omega)]
    simp
theorem sown_eq : ∀ (k : Nat) (a : S), a.sizeS < k → a.sizeS ≤ cap → spec_suOwn k a.rowsS = some a.rowsS
  | 0, _, h, _ => absurd h (Nat.not_lt_zero _)
  | k + 1, a, h, hc => by
    have hl := a.len_sizeS
    simp only [spec_suOwn, spec_suOwn_b]
    rw [if_pos (by rw [rowsS_len]; omega), sown_loop (fun e he => sown_eq k e (by omega) (by omega)) a [] (Nat.le_refl _) (by simp; omega)]
    simp
/-! ### spec's check -/
theorem sleft_loop {rec_ : Rw → Int → Int → Option Int} {a : S} {depth : Int} (hd : 0 ≤ depth ∧ depth ≤ 6) (hr : ∀ (e : S) (v : Int), e.sizeS < a.sizeS → 0 < depth → -1 ≤ v → v ≤ 60 → ∃ r, rec_ e.rowsS (depth - 1) v = some r ∧ -2 ≤ r ∧ r ≤ 60 ∧ (1 + nodesS e ≤ v ∧ dpS e ≤ depth - 1 → r = v - 1 - nodesS e) ∧ (¬ (1 + nodesS e ≤ v ∧ dpS e ≤ depth - 1) → r < 0)) :
    ∀ (t : S) (v : Int), t.sizeS ≤ a.sizeS → -2 ≤ v → v ≤ 60 → ∃ r, spec_suLeft_l0 rec_ a.rowsS depth (fun v => some v) t.rowsS v = some r ∧ -2 ≤ r ∧ r ≤ 60 ∧ (nodesS t ≤ v ∧ dpS t ≤ depth → r = v - nodesS t) ∧ (¬ (nodesS t ≤ v ∧ dpS t ≤ depth) → r < 0)
  | nil, v, _, v0, v60 => ⟨v, rfl, v0, v60, fun _ => by simp [nodesS], fun h => by simp only [nodesS, dpS] at h; omega⟩
  | cons e c c₂ l, v, hs, v0, v60 => by
    simp only [sizeS] at hs
    simp only [rowsS, spec_suLeft_l0, cell_S]
    by_cases h1 : v < 0
    · rw [if_pos h1]
      exact ⟨-1, rfl, by omega, by omega, fun h => by simp only [nodesS] at h; omega, fun _ => by omega⟩
    · rw [if_neg h1]
      by_cases h2 : depth = 0
      · rw [if_pos h2]
        exact ⟨-1, rfl, by omega, by omega, fun h => by simp only [dpS] at h; omega, fun _ => by omega⟩
      · rw [if_neg h2, wid (n := depth - 1) (by omega) (by omega), wid (n := v - 1) (by omega) (by omega)]
        obtain ⟨r1, e1, p1, p2, p3, p4⟩ := hr e (v - 1) (by omega) (by omega) (by omega) (by omega)
        rw [e1, Option.bind_some]
        obtain ⟨r, er, q1, q2, q3, q4⟩ := sleft_loop hd hr l r1 (by omega) p1 p2
        refine ⟨r, er, q1, q2, fun h => ?_, fun h => ?_⟩
        · simp only [nodesS, dpS] at h ⊢
          have e2 := p3 ⟨by omega, by omega⟩
          rw [q3 ⟨by omega, by omega⟩, e2]; omega
        · by_cases h3 : 1 + (nodesS e : Int) ≤ v - 1 ∧ dpS e ≤ depth - 1
          · have e2 := p3 h3
            refine q4 fun q => h ?_
            simp only [nodesS, dpS]
            omega
          · exact q4 fun q => by have := p4 h3; omega
theorem sleft_eq : ∀ (k : Nat) (a : S) (depth v : Int), a.sizeS < k → a.sizeS ≤ cap → 0 ≤ depth → depth ≤ 6 → -1 ≤ v → v ≤ 60 →
    ∃ r, spec_suLeft k a.rowsS depth v = some r ∧ -2 ≤ r ∧ r ≤ 60 ∧ (1 + nodesS a ≤ v ∧ dpS a ≤ depth → r = v - 1 - nodesS a) ∧ (¬ (1 + nodesS a ≤ v ∧ dpS a ≤ depth) → r < 0)
  | 0, _, _, _, h, _, _, _, _, _ => absurd h (Nat.not_lt_zero _)
  | k + 1, a, depth, v, h, hc, d0, d6, v0, v60 => by
    have hl := a.len_sizeS
    simp only [spec_suLeft, spec_suLeft_b]
    rw [if_pos (by rw [rowsS_len]; omega), wid (n := v - 1) (by omega) (by omega)]
    obtain ⟨r, er, q1, q2, q3, q4⟩ := sleft_loop (rec_ := spec_suLeft k) (a := a) (depth := depth) ⟨d0, d6⟩ (fun e u he hd u0 u60 => sleft_eq k e (depth - 1) u (by omega) (by omega) (by omega) (by omega) u0 u60) a (v - 1) (Nat.le_refl _) (by omega) (by omega)
    exact ⟨r, er, q1, q2, fun q => q3 ⟨by omega, q.2⟩, fun q => q4 fun u => q ⟨by omega, u.2⟩⟩
theorem sform_loop_all {k : Nat} {rec_ : Rw → Int → Option Bool} {a : S} {depth : Int} (hd : 0 ≤ depth ∧ depth ≤ 6) (hk : a.sizeS + 300 ≤ k) (hc : a.sizeS ≤ cap)
    (hr : ∀ e : S, e.sizeS < a.sizeS → rec_ e.rowsS (depth - 1) = some (decide ((dpS e : Int) ≤ depth - 1) && formS none e)) :
    ∀ (t : S) (i : Nat), dropS a i = t → i ≤ a.lenS → (∀ q, aheadS a i = some q → gdS q) → spec_suForm_l0 k rec_ a.rowsS depth spec_suForm_p3 t.rowsS i = some (decide ((dpS t : Int) ≤ depth) && formS (aheadS a i) t)
  | nil, i, hdr, hi, _ => by
    have : decide ((dpS nil : Int) ≤ depth) = true := decide_eq_true (by simp only [dpS]; omega)
    rw [this]; rfl
  | cons e c c₂ l, i, hdr, hi, hgdS => by
    have hs := drop_cons_sizeS hdr
    simp only [rowsS, spec_suForm_l0, cell_S, shGood_eq (show 200 < k by omega), Option.bind_some, two_if]
    by_cases h2 : (frP c c₂ && decide (c ≠ 0)) = true
    · rw [if_pos h2, wid (n := depth - 1) (by omega) (by omega), hr e (by omega), Option.bind_some]
      by_cases h3 : (decide ((dpS e : Int) ≤ depth - 1) && formS none e) = true
      · rw [if_pos h3]
        simp only [Bool.and_eq_true, decide_eq_true_eq] at h3
        have hce := sform_gd h3.2
        have go : ∀ (hp : (match aheadS a i with | none => true | some q => decide (0 < cmpS q e)) = true), spec_suForm_l0 k rec_ a.rowsS depth spec_suForm_p3 l.rowsS (i + 1) = some (decide ((dpS (cons e c c₂ l) : Int) ≤ depth) && formS (aheadS a i) (cons e c c₂ l)) := by
          intro hp
          rw [sform_loop_all hd hk hc hr l (i + 1) (drop_succS hdr) (drop_ltS hdr) (by rw [aheadS_succ hdr]; intro q hq; cases hq; exact hce), aheadS_succ hdr]
          have e1 : decide ((dpS (cons e c c₂ l) : Int) ≤ depth) = decide ((dpS l : Int) ≤ depth) := by simp only [dpS]; congr 1; apply propext; omega
          have h6 : formS (aheadS a i) (cons e c c₂ l) = formS (some e) l := by
            simp only [formS, h2, h3.2, Bool.true_and]
            cases hq : aheadS a i with
            | none => simp
            | some q => rw [hq] at hp; simp only at hp; simp [hp]
          rw [e1, h6]
        by_cases h4 : (0 : Int) < (i : Int)
        · obtain ⟨q, qc, qc₂, ql, hq, ha'⟩ := aheadS_some (t := a) (i := i) (by omega) hi
          have hqs := drop_cons_sizeS hq
          have hcq := hgdS q ha'
          rw [if_pos h4, wid (n := (i : Int) - 1) (by omega) (by have := a.len_sizeS; have : cap = 1099511627776 := rfl; omega), row_S (n := i - 1) (by omega) hq, suCmp_eq k q e (by omega) (by omega) hcq hce, Option.bind_some]
          by_cases h5 : cmpS q e ≤ 0
          · rw [if_pos h5]
            have : decide (0 < cmpS q e) = false := by simpa using h5
            simp [formS, ha', this]
          · rw [if_neg h5]
            exact go (by rw [ha']; simp; omega)
        · rw [if_neg h4]
          have : i = 0 := by omega
          subst this
          exact go rfl
      · rw [if_neg h3]
        have : (decide ((dpS (cons e c c₂ l) : Int) ≤ depth) && formS (aheadS a i) (cons e c c₂ l)) = false := by
          refine Bool.eq_false_iff.2 fun hx => h3 ?_
          rw [Bool.and_eq_true, decide_eq_true_eq] at hx ⊢
          obtain ⟨x1, x2⟩ := hx
          simp only [dpS] at x1
          simp only [formS, Bool.and_eq_true] at x2
          exact ⟨by omega, x2.1.1.2⟩
        rw [this]
    · rw [if_neg h2]
      have : formS (aheadS a i) (cons e c c₂ l) = false := by
        simp only [formS]
        cases hx : (frP c c₂ && decide (c ≠ 0)) with
        | true => exact absurd hx h2
        | false => simp
      rw [this, Bool.and_false]
theorem sform_all : ∀ (k : Nat) (a : S) (depth : Int), a.sizeS + 300 < k → a.sizeS ≤ cap → -1 ≤ depth → depth ≤ 6 → spec_suForm k a.rowsS depth = some (decide ((dpS a : Int) ≤ depth) && formS none a)
  | 0, _, _, h, _, _, _ => absurd h (Nat.not_lt_zero _)
  | k + 1, a, depth, h, hc, d0, d6 => by
    have hl := a.len_sizeS
    simp only [spec_suForm, spec_suForm_b]
    by_cases h1 : depth < 0
    · rw [if_pos h1]
      have : decide ((dpS a : Int) ≤ depth) = false := by simp; omega
      rw [this, Bool.false_and]
    · rw [if_neg h1, if_pos (by rw [rowsS_len]; omega), sform_loop_all (a := a) (by omega) (by omega) hc (fun e he => sform_all k e (depth - 1) (by omega) (by omega) (by omega) (by omega)) a 0 (drop_zeroS a) (by omega) (by intro q hq; cases hq)]
      rfl
theorem suGood_all (k : Nat) (a : S) (h : a.sizeS + 300 < k) (hc : a.sizeS ≤ cap) : spec_suGood k a.rowsS = some (surP a) := by
  unfold spec_suGood
  obtain ⟨r, er, q1, q2, q3, q4⟩ := sleft_eq k a 6 60 (by omega) hc (by omega) (by omega) (by omega) (by omega)
  rw [er, Option.bind_some]
  by_cases h1 : 1 + nodesS a ≤ 60 ∧ dpS a ≤ 6
  · have := q3 ⟨by omega, by omega⟩
    rw [if_pos (by omega), sform_all k a 6 h hc (by omega) (by omega), Option.bind_some]
    have h2 : decide ((dpS a : Int) ≤ 6) = true := by simp; omega
    simp only [surP, h2, h1.1, h1.2, decide_true, Bool.true_and]
    cases formS none a <;> rfl
  · have := q4 (by omega)
    rw [if_neg (by omega)]
    have : surP a = false := by
      cases hx : surP a with
      | false => rfl
      | true => simp only [surP, Bool.and_eq_true, decide_eq_true_eq] at hx; exact absurd hx.1 h1
    rw [this]
end Go.Proofs.Try

namespace Go.Proofs.Try
open Go Go.AX S
theorem cmpS_trans {a : S} : ∀ {b c : S}, gdS a → gdS b → gdS c → cmpS a b = 1 → cmpS b c = 1 → cmpS a c = 1 := by
  induction a with
  | nil =>
    intro b c ga gb gc h1 h2
    cases b with
    | nil => simp [cmpS] at h1
    | cons f m g r =>
      simp only [cmpS] at h1
      have hm : m < 0 := sg_neg.1 (by omega)
      have hg := frP_in gb.2.1.1
      cases c with
      | nil => simp only [cmpS] at h2; omega
      | cons k u v s =>
        have hv := frP_in gc.2.1.1
        have hr := cmpS_range f k
        simp only [cmpS] at h2 ⊢
        by_cases q1 : cmpS f k = 1
        · rw [if_pos q1] at h2; omega
        · rw [if_neg q1] at h2
          by_cases q2 : cmpS f k = -1
          · rw [if_pos q2] at h2; exact h2
          · rw [if_neg q2] at h2
            have hu : u < 0 := by
              by_cases q3 : cmpF m g u v = 0
              · have := (cmpF_eq gb.2.1.1 gc.2.1.1).1 q3; omega
              · rw [if_neg q3] at h2
                exact cmpF_ng (by omega) (by omega) h2 hm
            have := sg_neg.2 hu; omega
  | cons e n d l ihe ihl =>
    intro b c ga gb gc h1 h2
    have hd := frP_in ga.2.1.1
    cases b with
    | nil =>
      simp only [cmpS] at h1
      have hn : 0 < n := sg_one.1 h1
      cases c with
      | nil => simp [cmpS] at h2
      | cons k u v s =>
        simp only [cmpS] at h2
        have hu : u < 0 := sg_neg.1 (by omega)
        have hv := frP_in gc.2.1.1
        have hF := cmpF_sign (show 0 < d by omega) (show 0 < v by omega) hn hu
        simp only [cmpS]
        by_cases q1 : cmpS e k = 1
        · rw [if_pos q1]; exact h1
        · rw [if_neg q1]
          by_cases q2 : cmpS e k = -1
          · rw [if_pos q2]; exact h2
          · rw [if_neg q2, if_neg (by omega)]; exact hF
    | cons f m g r =>
      have hg := frP_in gb.2.1.1
      cases c with
      | nil =>
        simp only [cmpS] at h1 h2 ⊢
        have hm : 0 < m := sg_one.1 h2
        have hr := cmpS_range e f
        by_cases q1 : cmpS e f = 1
        · rw [if_pos q1] at h1; exact h1
        · rw [if_neg q1] at h1
          by_cases q2 : cmpS e f = -1
          · rw [if_pos q2] at h1; omega
          · rw [if_neg q2] at h1
            refine sg_one.2 ?_
            by_cases q3 : cmpF n d m g = 0
            · have := (cmpF_eq ga.2.1.1 gb.2.1.1).1 q3; omega
            · rw [if_neg q3] at h1
              exact cmpF_pos (by omega) (by omega) h1 hm
      | cons k u v s =>
        have hv := frP_in gc.2.1.1
        have t1 := @ihe f k ga.1 gb.1 gc.1
        have t2 := @ihe k f ga.1 gc.1 gb.1
        have x0 := cmpS_eq ga.1 gb.1
        have y0 := cmpS_eq gb.1 gc.1
        have z0 := cmpS_eq ga.1 gc.1
        have hx := cmpS_range e f
        have hy := cmpS_range f k
        have hz := cmpS_range e k
        have ny := cmpS_neg f k
        have F1 := cmpF_eq ga.2.1.1 gb.2.1.1
        have F2 := cmpF_eq gb.2.1.1 gc.2.1.1
        have F3 := cmpF_eq ga.2.1.1 gc.2.1.1
        have tl := @ihl r s ga.2.2 gb.2.2 gc.2.2
        simp only [cmpS] at h1 h2 ⊢
        rcases hx with hx | hx | hx
        · -- e < f
          rw [if_neg (by omega), if_pos hx] at h1
          have hm : m < 0 := sg_neg.1 (by omega)
          rcases hy with hy | hy | hy
          · rw [if_neg (by omega), if_pos hy] at h2
            have hz' : cmpS e k = -1 := by
              rcases hz with hz | hz | hz
              · exact hz
              · have := z0.1 hz; subst this; rw [cmpS_neg e f] at hy; omega
              · have := t2 hz (by omega); omega
            rw [if_neg (by omega), if_pos hz']; exact h2
          · rw [if_neg (by omega), if_neg (by omega)] at h2
            have := y0.1 hy; subst this
            rw [if_neg (by omega), if_pos hx]
            have hu : u < 0 := by
              by_cases q3 : cmpF m g u v = 0
              · have := F2.1 q3; omega
              · rw [if_neg q3] at h2; exact cmpF_ng (by omega) (by omega) h2 hm
            have := sg_neg.2 hu; omega
          · rw [if_pos hy] at h2; omega
        · -- e = f
          rw [if_neg (by omega), if_neg (by omega)] at h1
          have := x0.1 hx; subst this
          rcases hy with hy | hy | hy
          · rw [if_neg (by omega), if_pos hy] at h2
            rw [if_neg (by omega), if_pos hy]; exact h2
          · rw [if_neg (by omega), if_neg (by omega)] at h2
            rw [if_neg (by omega), if_neg (by omega)]
            by_cases q1 : cmpF n d m g = 0
            · rw [if_pos q1] at h1
              obtain ⟨rfl, rfl⟩ := F1.1 q1
              by_cases q2 : cmpF n d u v = 0
              · rw [if_pos q2] at h2 ⊢; exact tl h1 h2
              · rw [if_neg q2] at h2 ⊢; exact h2
            · rw [if_neg q1] at h1
              have h3 : cmpF n d u v = 1 := by
                by_cases q2 : cmpF m g u v = 0
                · obtain ⟨rfl, rfl⟩ := F2.1 q2; exact h1
                · rw [if_neg q2] at h2; exact cmpF_trans (by omega) (by omega) (by omega) h1 h2
              rw [if_neg (by omega)]; exact h3
          · rw [if_pos hy] at h2 ⊢
            have hm := sg_one.1 h2
            refine sg_one.2 ?_
            by_cases q1 : cmpF n d m g = 0
            · have := F1.1 q1; omega
            · rw [if_neg q1] at h1; exact cmpF_pos (by omega) (by omega) h1 hm
        · -- e > f
          rw [if_pos hx] at h1
          have hn := sg_one.1 h1
          rcases hy with hy | hy | hy
          · rw [if_neg (by omega), if_pos hy] at h2
            have hu : u < 0 := sg_neg.1 (by omega)
            have hF := cmpF_sign (show 0 < d by omega) (show 0 < v by omega) hn hu
            rcases hz with hz | hz | hz
            · rw [if_neg (by omega), if_pos hz]; exact h2
            · rw [if_neg (by omega), if_neg (by omega), if_neg (by omega)]; exact hF
            · rw [if_pos hz]; exact h1
          · have := y0.1 hy; subst this
            rw [if_pos hx]; exact h1
          · rw [if_pos (t1 hx hy)]; exact h1
end Go.Proofs.Try

namespace Go.Proofs.Try
open Go Go.AX
/-- A fraction in lowest terms. -/
def mkF (n d : Int) : Int × Int := (n.tdiv (Int.gcd n d : Int), d.tdiv (Int.gcd n d : Int))
def addF (n d m g : Int) : Int × Int := mkF (n * g + m * d) (d * g)
def mulF (n d m g : Int) : Int × Int := mkF (n * m) (d * g)
theorem tdiv_in {a b : Int} (h : -4000000000000000000 ≤ a ∧ a ≤ 4000000000000000000) : -4000000000000000000 ≤ a.tdiv b ∧ a.tdiv b ≤ 4000000000000000000 := by
  have h1 : (a.tdiv b).natAbs = a.natAbs / b.natAbs := Int.natAbs_tdiv a b
  have h2 := Nat.div_le_self a.natAbs b.natAbs
  omega
theorem wtdiv {a b : Int} (h : -4000000000000000000 ≤ a ∧ a ≤ 4000000000000000000) : IntKind.i64.wrap (a.tdiv b) = a.tdiv b := by
  have := tdiv_in (b := b) h
  exact wid (by omega) (by omega)
theorem gcd_ne {n d : Int} (hd : 0 < d) : (Int.gcd n d : Int) ≠ 0 := by
  have : Int.gcd n d ≠ 0 := by
    rw [Ne, Int.gcd_eq_zero_iff]; omega
  omega
theorem made_eq {k : Nat} {n d : Int} (hk : 200 < k) (hd : 0 < d) (hn : -4000000000000000000 ≤ n ∧ n ≤ 4000000000000000000) (hd2 : d ≤ 4000000000000000000) :
    impl_made k n d = some (if frP (mkF n d).1 (mkF n d).2 = true then ((mkF n d).1, (mkF n d).2, true) else (0, 0, false)) := by
  have hg := gcd_ne (n := n) hd
  unfold impl_made
  rw [if_neg (by omega), igcd_eq hk hn (by omega), Option.bind_some, if_neg (by omega), if_pos hg, wtdiv hn, wtdiv (a := d) (by omega), IsFraction_eq hk, Option.bind_some]
  change (if frP (mkF n d).1 (mkF n d).2 = true then some ((mkF n d).1, (mkF n d).2, true) else some (0, 0, false)) = _
  by_cases h : frP (mkF n d).1 (mkF n d).2 = true
  · rw [if_pos h, if_pos h]
  · rw [if_neg h, if_neg h]
theorem shMake_eq {k : Nat} {n d : Int} (hk : 200 < k) (hd : 0 < d) (hn : -4000000000000000000 ≤ n ∧ n ≤ 4000000000000000000) (hd2 : d ≤ 4000000000000000000) :
    spec_shMake k n d = some (mkF n d) := by
  have hg := gcd_ne (n := n) hd
  unfold spec_shMake
  rw [sgcd_eq hk hn (by omega), Option.bind_some, if_neg (by omega), if_pos hg, wtdiv hn, wtdiv (a := d) (by omega)]
  rfl
theorem add_in {n d m g : Int} (h1 : frP n d = true) (h2 : frP m g = true) : IntKind.i64.wrap (IntKind.i64.wrap (n * g) + IntKind.i64.wrap (m * d)) = n * g + m * d ∧ IntKind.i64.wrap (d * g) = d * g ∧ (-4000000000000000000 ≤ n * g + m * d ∧ n * g + m * d ≤ 4000000000000000000) ∧ 0 < d * g ∧ d * g ≤ 4000000000000000000 := by
  have hb := cmp_inB h1 h2
  obtain ⟨a1, _, _⟩ := frP_in h1
  obtain ⟨b1, _, _⟩ := frP_in h2
  have hp := prod_in (B := 1000000) (C := 1000000) (show -1000000 ≤ d ∧ d ≤ 1000000 by omega) (show 0 ≤ g ∧ g ≤ 1000000 by omega)
  have hq := Int.mul_pos (show 0 < d by omega) (show 0 < g by omega)
  rw [wid (n := n * g) (by omega) (by omega), wid (n := m * d) (by omega) (by omega)]
  exact ⟨wid (by omega) (by omega), wid (by omega) (by omega), by omega, hq, by omega⟩
theorem mul_in2 {n d m g : Int} (h1 : frP n d = true) (h2 : frP m g = true) : IntKind.i64.wrap (n * m) = n * m ∧ IntKind.i64.wrap (d * g) = d * g ∧ (-4000000000000000000 ≤ n * m ∧ n * m ≤ 4000000000000000000) ∧ 0 < d * g ∧ d * g ≤ 4000000000000000000 := by
  obtain ⟨a1, a2, _⟩ := frP_in h1
  obtain ⟨b1, b2, _⟩ := frP_in h2
  have hp := prod_in (B := 1000000) (C := 1000000) (show -1000000 ≤ d ∧ d ≤ 1000000 by omega) (show 0 ≤ g ∧ g ≤ 1000000 by omega)
  have hq := Int.mul_pos (show 0 < d by omega) (show 0 < g by omega)
  have hr : -1000000000000 ≤ n * m ∧ n * m ≤ 1000000000000 := by
    rcases Int.lt_or_le m 0 with x | x
    · have := prod_in (B := 1000000) (C := 1000000) a2 (show 0 ≤ -m ∧ -m ≤ 1000000 by omega)
      rw [Int.mul_neg] at this; omega
    · have := prod_in (B := 1000000) (C := 1000000) a2 (show 0 ≤ m ∧ m ≤ 1000000 by omega)
      omega
  exact ⟨wid (by omega) (by omega), wid (by omega) (by omega), by omega, hq, by omega⟩
/-- A fraction that is told, or none. -/
def resF (p : Int × Int) : Int × Int × Bool := if frP p.1 p.2 = true then (p.1, p.2, true) else (0, 0, false)
theorem AddFractions_eq {k : Nat} {n d m g : Int} (hk : 200 < k) (h1 : frP n d = true) (h2 : frP m g = true) : impl_AddFractions k n d m g = some (resF (addF n d m g)) := by
  obtain ⟨q1, q2, q3, q4, q5⟩ := add_in h1 h2
  unfold impl_AddFractions impl_two__AddFractions_1 impl_AddFractions_1
  rw [IsFraction_eq hk, IsFraction_eq hk, h1, h2, q1, q2]
  simp only [Option.bind_some, if_true]
  rw [made_eq hk q4 q3 q5]
  unfold resF addF
  simp only [Option.bind_some]
  by_cases h : frP (mkF (n * g + m * d) (d * g)).1 (mkF (n * g + m * d) (d * g)).2 = true
  · rw [if_pos h]; rfl
  · rw [if_neg h]; rfl
theorem shAdd_eq {k : Nat} {n d m g : Int} (hk : 200 < k) (h1 : frP n d = true) (h2 : frP m g = true) : spec_shAdd k n d m g = some (addF n d m g) := by
  obtain ⟨q1, q2, q3, q4, q5⟩ := add_in h1 h2
  unfold spec_shAdd
  rw [q1, q2, shMake_eq hk q4 q3 q5]; rfl
theorem MultiplyFractions_eq {k : Nat} {n d m g : Int} (hk : 200 < k) (h1 : frP n d = true) (h2 : frP m g = true) : impl_MultiplyFractions k n d m g = some (resF (mulF n d m g)) := by
  obtain ⟨q1, q2, q3, q4, q5⟩ := mul_in2 h1 h2
  unfold impl_MultiplyFractions impl_two__MultiplyFractions_1 impl_MultiplyFractions_1
  rw [IsFraction_eq hk, IsFraction_eq hk, h1, h2, q1, q2]
  simp only [Option.bind_some, if_true]
  rw [made_eq hk q4 q3 q5]
  unfold resF mulF
  simp only [Option.bind_some]
  by_cases h : frP (mkF (n * m) (d * g)).1 (mkF (n * m) (d * g)).2 = true
  · rw [if_pos h]; rfl
  · rw [if_neg h]; rfl
theorem shMul_eq {k : Nat} {n d m g : Int} (hk : 200 < k) (h1 : frP n d = true) (h2 : frP m g = true) : spec_shMul k n d m g = some (mulF n d m g) := by
  obtain ⟨q1, q2, q3, q4, q5⟩ := mul_in2 h1 h2
  unfold spec_shMul
  rw [q1, q2, shMake_eq hk q4 q3 q5]; rfl
end Go.Proofs.Try

namespace Go.Proofs.Try
open Go Go.AX S
theorem snocLenS (l e : S) (n d : Int) : (appS l (cons e n d nil)).lenS = l.lenS + 1 := by rw [len_appS]; rfl
/-- A term put into its place. -/
def putS : S → S → Int → Int → Option S
  | nil, f, m, g => some (cons f m g nil)
  | cons e n d l, f, m, g => if cmpS e f ≤ 0 then (if cmpS e f = 0 then (if frP (addF n d m g).1 (addF n d m g).2 = true then some (if (addF n d m g).1 = 0 then l else cons f (addF n d m g).1 (addF n d m g).2 l) else none) else some (cons f m g (cons e n d l))) else (putS l f m g).map (cons e n d)
def foldS : S → S → Option S
  | a, nil => some a
  | a, cons f m g r => (putS a f m g).bind fun x => foldS x r
def resS : Option S → Rw × Bool
  | some r => (r.rowsS, true)
  | none => ([], false)
theorem putS_gd {a f x : S} {m g : Int} (ga : gdS a) (gf : gdS f) (hm : frP m g = true ∧ m ≠ 0) (h : putS a f m g = some x) : gdS x := by
  induction a generalizing x with
  | nil => simp only [putS, Option.some.injEq] at h; subst h; exact ⟨gf, hm, trivial⟩
  | cons e n d l _ ih =>
    simp only [putS] at h
    split at h
    · split at h
      · split at h
        · rename_i hf
          simp only [Option.some.injEq] at h
          subst h
          split
          · exact ga.2.2
          · rename_i hz; exact ⟨gf, ⟨hf, hz⟩, ga.2.2⟩
        · cases h
      · simp only [Option.some.injEq] at h; subst h; exact ⟨gf, hm, ga⟩
    · cases hp : putS l f m g with
      | none => rw [hp] at h; cases h
      | some y =>
        rw [hp] at h
        simp only [Option.map_some, Option.some.injEq] at h
        subst h
        exact ⟨ga.1, ga.2.1, ih ga.2.2 hp⟩
theorem putS_size {a f x : S} {m g : Int} (h : putS a f m g = some x) : x.sizeS ≤ a.sizeS + f.sizeS + 1 := by
  induction a generalizing x with
  | nil => simp only [putS, Option.some.injEq] at h; subst h; simp [sizeS]
  | cons e n d l _ ih =>
    simp only [putS] at h
    split at h
    · split at h
      · split at h
        · simp only [Option.some.injEq] at h
          subst h
          split
          · simp only [sizeS]; omega
          · simp only [sizeS]; omega
        · cases h
      · simp only [Option.some.injEq] at h; subst h; simp only [sizeS]; omega
    · cases hp : putS l f m g with
      | none => rw [hp] at h; cases h
      | some y =>
        rw [hp] at h
        simp only [Option.map_some, Option.some.injEq] at h
        subst h
        have := ih hp
        simp only [sizeS]; omega
/-! ### the reference's put -/
theorem rowsS_snoc (l e : S) (n d : Int) : l.rowsS ++ [[D.sl e.rowsS, D.int .i64 n, D.int .i64 d]] = (appS l (cons e n d nil)).rowsS := by rw [rows_appS]; rfl
theorem put_done {k : Nat} {a f : S} {m g : Int} {K : Rw → Bool → Option (Rw × Bool)} (gf : gdS f) : ∀ (t acc : S), t.sizeS < k → acc.sizeS + t.sizeS ≤ cap → gdS t → spec_suPut_l0 k a.rowsS f.rowsS m g K t.rowsS true acc.rowsS = K (appS acc t).rowsS true
  | nil, acc, _, _, _ => by simp only [rowsS, spec_suPut_l0, cond_true, app_nilS]
  | cons e n d l, acc, hk, hc, gt => by
    simp only [sizeS] at hk hc
    have hl := acc.len_sizeS
    simp only [rowsS, spec_suPut_l0, cond_true, cell_S]
    rw [suCmp_eq k e f (by omega) (by omega) gt.1 gf, Option.bind_some, if_pos (by rw [rowsS_len]; omega), rowsS_snoc, put_done gf l _ (by omega) (by rw [size_appS]; simp only [sizeS]; omega) gt.2.2, app_assocS]
    rfl
theorem put_loop {k : Nat} {a f : S} {m g : Int} (hk200 : 200 < k) (gf : gdS f) (hm : frP m g = true) : ∀ (t acc : S), t.sizeS < k → acc.sizeS + t.sizeS + f.sizeS + 2 ≤ cap → gdS t →
    spec_suPut_l0 k a.rowsS f.rowsS m g (fun v b => cond b (spec_suPut_p4 f.rowsS m g v true) (spec_suPut_p4 f.rowsS m g v false)) t.rowsS false acc.rowsS = some (resS ((putS t f m g).map (appS acc)))
  | nil, acc, hk, hc, gt => by
    have hl := acc.len_sizeS
    simp only [rowsS, spec_suPut_l0, cond_false, spec_suPut_p4]
    rw [if_pos (by rw [rowsS_len]; simp only [sizeS] at hc; omega), rowsS_snoc]
    rfl
  | cons e n d l, acc, hk, hc, gt => by
    simp only [sizeS] at hk hc
    have hl := acc.len_sizeS
    have hll := l.len_sizeS
    simp only [rowsS, spec_suPut_l0, cond_false, cell_S]
    rw [suCmp_eq k e f (by omega) (by omega) gt.1 gf, Option.bind_some]
    by_cases q1 : cmpS e f ≤ 0
    · rw [if_pos q1]
      by_cases q2 : cmpS e f = 0
      · rw [if_pos q2, shAdd_eq hk200 gt.2.1.1 hm]
        simp only [Option.bind_some]
        rw [shGood_eq hk200, Option.bind_some]
        simp only [putS, if_pos q1, if_pos q2]
        by_cases q3 : frP (addF n d m g).1 (addF n d m g).2 = true
        · rw [if_pos q3, if_pos q3]
          unfold spec_suTerm
          by_cases q4 : (addF n d m g).1 = 0
          · rw [if_pos q4, if_pos q4, Option.bind_some, if_pos ⟨by simp only [List.length_nil, rowsS_len]; omega, by intro cs h; cases h⟩]
            rw [show acc.rowsS ++ ([] : Rw) = acc.rowsS from List.append_nil _, put_done gf l acc (by omega) (by omega) gt.2.2]
            rfl
          · rw [if_neg q4, if_neg q4, Option.bind_some, if_pos ⟨by simp only [List.length_cons, List.length_nil, rowsS_len]; omega, by intro cs h; simp at h; subst h; rfl⟩]
            rw [rowsS_snoc, put_done gf l _ (by omega) (by rw [size_appS]; simp only [sizeS]; omega) gt.2.2, app_assocS]
            rfl
        · rw [if_neg q3, if_neg q3]; rfl
      · rw [if_neg q2, if_pos (by rw [rowsS_len]; omega)]
        simp only [putS, if_pos q1, if_neg q2]
        rw [rowsS_snoc, if_pos (by rw [rowsS_len, len_appS]; simp only [lenS]; omega), rowsS_snoc, put_done gf l _ (by omega) (by rw [size_appS, size_appS]; simp only [sizeS]; omega) gt.2.2, app_assocS, app_assocS]
        rfl
    · rw [if_neg q1, if_pos (by rw [rowsS_len]; omega), rowsS_snoc, put_loop hk200 gf hm l _ (by omega) (by rw [size_appS]; simp only [sizeS]; omega) gt.2.2]
      simp only [putS, if_neg q1]
      congr 1
      cases putS l f m g with
      | none => rfl
      | some y => simp only [Option.map_some, app_assocS]; rfl
theorem suPut_eq {k : Nat} {a f : S} {m g : Int} (hk : a.sizeS + 200 < k) (hc : a.sizeS + f.sizeS + 2 ≤ cap) (ga : gdS a) (gf : gdS f) (hm : frP m g = true) : spec_suPut k a.rowsS f.rowsS m g = some (resS (putS a f m g)) := by
  have hl := a.len_sizeS
  unfold spec_suPut
  rw [if_pos (by rw [rowsS_len]; omega)]
  have := put_loop (k := k) (a := a) (by omega) gf hm a nil (by omega) (by simp only [sizeS]; omega) ga
  refine this.trans ?_
  congr 1
  cases putS a f m g <;> rfl
theorem plus_loopS {k : Nat} {b : Rw} : ∀ (t a : S), a.sizeS + t.sizeS + 200 < k → a.sizeS + t.sizeS + 2 ≤ cap → gdS a → gdS t → spec_suPlus_l0 k b (fun v => some (v, true)) t.rowsS a.rowsS = some (resS (foldS a t))
  | nil, a, _, _, _, _ => rfl
  | cons f m g r, a, hk, hc, ga, gt => by
    simp only [sizeS] at hk hc
    simp only [rowsS, spec_suPlus_l0, cell_S]
    rw [suPut_eq (by omega) (by omega) ga gt.1 gt.2.1.1, Option.bind_some]
    simp only [foldS]
    cases hp : putS a f m g with
    | none => rfl
    | some x =>
      have := putS_size hp
      simp only [resS, if_true, Option.bind_some]
      exact plus_loopS r x (by omega) (by omega) (putS_gd ga gt.1 gt.2.1 hp) gt.2.2
theorem suPlus_eq {k : Nat} {a b : S} (hk : a.sizeS + b.sizeS + 200 < k) (hc : a.sizeS + b.sizeS + 2 ≤ cap) (ga : gdS a) (gb : gdS b) : spec_suPlus k a.rowsS b.rowsS = some (resS (foldS a b)) := by
  have hl := b.len_sizeS
  unfold spec_suPlus
  rw [if_pos (by rw [rowsS_len]; omega)]
  exact plus_loopS b a hk hc ga gb
/-! ### impl's sum -/
def aboveS (e : S) : S → Prop
  | nil => True
  | cons x _ _ l => cmpS e x = 1 ∧ aboveS e l
def fallsS : S → Prop
  | nil => True
  | cons e _ _ l => aboveS e l ∧ fallsS l
theorem above_trans {e f : S} (ge : gdS e) (gf : gdS f) (h : cmpS e f = 1) : ∀ {r : S}, gdS r → aboveS f r → aboveS e r
  | nil, _, _ => trivial
  | cons _ _ _ _, gr, hr => ⟨cmpS_trans ge gf gr.1 h hr.1, above_trans ge gf h gr.2.2 hr.2⟩
theorem fold_above {e : S} {n d : Int} : ∀ (r l : S), aboveS e r → foldS (cons e n d l) r = (foldS l r).map (cons e n d)
  | nil, l, _ => rfl
  | cons f m g r, l, h => by
    simp only [foldS, putS]
    rw [if_neg (by have := h.1; omega)]
    cases putS l f m g with
    | none => rfl
    | some x => simp only [Option.map_some, Option.bind_some]; exact fold_above r x h.2
theorem fold_nil : ∀ (b : S), fallsS b → foldS nil b = some b
  | nil, _ => rfl
  | cons f m g r, h => by
    simp only [foldS, putS, Option.bind_some]
    rw [fold_above r nil h.1, fold_nil r h.2]; rfl
theorem form_above {p : Option S} {t : S} (h : formS p t = true) : (∀ q, p = some q → gdS q → aboveS q t) ∧ fallsS t := by
  induction t generalizing p with
  | nil => exact ⟨fun _ _ _ => trivial, trivial⟩
  | cons e n d l _ ih =>
    have hg := sform_gd h
    simp only [formS, Bool.and_eq_true] at h
    obtain ⟨i1, i2⟩ := ih h.2
    have ge := hg.1
    refine ⟨fun q hq gq => ?_, i1 e rfl ge, i2⟩
    subst hq
    have h2 := h.1.2
    simp only [decide_eq_true_eq] at h2
    have := cmpS_range q e
    have h3 : cmpS q e = 1 := by omega
    exact ⟨h3, above_trans gq ge h3 hg.2.2 (i1 e rfl ge)⟩
theorem falls_dropS {t : S} (h : fallsS t) : ∀ {i : Nat}, fallsS (dropS t i) := by
  induction t with
  | nil => intro i; simp [fallsS]
  | cons e n d l _ ih => intro i; cases i with
    | zero => simpa using h
    | succ i => exact ih h.2
theorem sum_loop {k : Nat} {a b : S} (ga : gdS a) (gb : gdS b) (fa : fallsS a) (fb : fallsS b) (hk : a.sizeS + b.sizeS + 300 < k) (hc : a.sizeS + b.sizeS + 2 ≤ cap) : ∀ (n i j : Nat) (acc : S), i ≤ a.lenS → j ≤ b.lenS → (a.lenS - i) + (b.lenS - j) + 1 ≤ n → acc.lenS ≤ i + j →
    impl_sum_l0 k a.rowsS b.rowsS (fun v => impl_sum_p4 v) n i acc.rowsS j = some (resS ((foldS (dropS a i) (dropS b j)).map (appS acc)))
  | 0, _, _, _, _, _, h, _ => absurd h (by omega)
  | n + 1, i, j, acc, hi, hj, hn, hacc => by
    have hla := a.len_sizeS
    have hlb := b.len_sizeS
    have h3 : cap = 1099511627776 := rfl
    have g1 := gd_drop ga (i := i)
    have g2 := gd_drop gb (i := j)
    have f2 := falls_dropS fb (i := j)
    simp only [impl_sum_l0]
    cases hda : dropS a i with
    | nil =>
      have h1 := drop_geS hda
      rw [if_neg (by rw [lenSI]; omega)]
      cases hdb : dropS b j with
      | nil =>
        have h2 := drop_geS hdb
        rw [if_neg (by rw [lenSI]; omega)]
        simp only [foldS, Option.map_some, app_nilS]; rfl
      | cons f m g r =>
        have h2 := drop_ltS hdb
        rw [hdb] at f2
        rw [if_pos (by rw [lenSI]; omega), if_neg (by rw [lenSI]; omega), if_pos (by rw [lenSI]; omega), row_S rfl hdb, if_pos (by rw [rowsS_len]; omega), rowsS_snoc, wid (by omega) (by omega)]
        have := sum_loop ga gb fa fb hk hc n i (j + 1) (appS acc (cons f m g nil)) hi (by omega) (by omega) (by rw [snocLenS]; omega)
        rw [drop_succS hdb, hda] at this
        refine this.trans ?_
        rw [fold_nil _ f2.2, fold_nil _ f2]
        simp only [Option.map_some, app_assocS]; rfl
    | cons e x d l =>
      have h1 := drop_ltS hda
      rw [hda] at g1
      have hsa := drop_cons_sizeS hda
      rw [if_pos (by rw [lenSI]; omega)]
      cases hdb : dropS b j with
      | nil =>
        have h2 := drop_geS hdb
        rw [if_pos (by rw [lenSI]; omega), row_S rfl hda, if_pos (by rw [rowsS_len]; omega), rowsS_snoc, wid (by omega) (by omega)]
        have := sum_loop ga gb fa fb hk hc n (i + 1) j (appS acc (cons e x d nil)) (by omega) hj (by omega) (by rw [snocLenS]; omega)
        rw [drop_succS hda, hdb] at this
        refine this.trans ?_
        simp only [foldS, Option.map_some, app_assocS]; rfl
      | cons f m g r =>
        have h2 := drop_ltS hdb
        rw [hdb] at g2 f2
        have hr := cmpS_range e f
        have r1 := row_S (α := Rw × Bool) (i := i) rfl hda
        have r2 := row_S (α := Rw × Bool) (i := j) rfl hdb
        rw [if_neg (by rw [lenSI]; omega), if_neg (by rw [lenSI]; omega)]
        simp only [r1, r2]
        rw [order_eq k e f (by omega) (by omega) g1.1 g2.1, Option.bind_some]
        by_cases q1 : cmpS e f = 1
        · rw [if_pos q1, if_pos (by rw [rowsS_len]; omega), rowsS_snoc, wid (n := (i : Int) + 1) (by omega) (by omega)]
          have := sum_loop ga gb fa fb hk hc n (i + 1) j (appS acc (cons e x d nil)) (by omega) hj (by omega) (by rw [snocLenS]; omega)
          rw [drop_succS hda, hdb] at this
          refine this.trans ?_
          rw [fold_above (cons f m g r) l ⟨q1, above_trans g1.1 g2.1 q1 g2.2.2 f2.1⟩]
          congr 1
          cases foldS l (cons f m g r) with
          | none => rfl
          | some y => simp only [Option.map_some, app_assocS]; rfl
        · rw [if_neg q1]
          by_cases q2 : cmpS e f = -1
          · rw [if_pos q2, if_pos (by rw [rowsS_len]; omega), rowsS_snoc, wid (n := (j : Int) + 1) (by omega) (by omega)]
            have := sum_loop ga gb fa fb hk hc n i (j + 1) (appS acc (cons f m g nil)) hi (by omega) (by omega) (by rw [snocLenS]; omega)
            rw [drop_succS hdb, hda] at this
            refine this.trans ?_
            rw [show foldS (cons e x d l) (cons f m g r) = (foldS (cons e x d l) r).map (cons f m g) from by
              simp only [foldS, putS]
              rw [if_pos (by omega), if_neg (by omega)]
              simp only [Option.bind_some]
              exact fold_above r _ f2.1]
            congr 1
            cases foldS (cons e x d l) r with
            | none => rfl
            | some y => simp only [Option.map_some, app_assocS]; rfl
          · have q0 : cmpS e f = 0 := by omega
            obtain rfl := (cmpS_eq g1.1 g2.1).1 q0
            rw [if_neg q2, AddFractions_eq (by omega) g1.2.1.1 g2.2.1.1, Option.bind_some]
            have hfold : foldS (cons e x d l) (cons e m g r) = if frP (addF x d m g).1 (addF x d m g).2 = true then (if (addF x d m g).1 = 0 then foldS l r else (foldS l r).map (cons e (addF x d m g).1 (addF x d m g).2)) else none := by
              simp only [foldS, putS]
              rw [if_pos (by omega), if_pos q0]
              by_cases q3 : frP (addF x d m g).1 (addF x d m g).2 = true
              · rw [if_pos q3, if_pos q3]
                simp only [Option.bind_some]
                by_cases q4 : (addF x d m g).1 = 0
                · rw [if_pos q4, if_pos q4]
                · rw [if_neg q4, if_neg q4]; exact fold_above r l f2.1
              · rw [if_neg q3, if_neg q3]; rfl
            rw [hfold]
            unfold resF
            by_cases q3 : frP (addF x d m g).1 (addF x d m g).2 = true
            · rw [if_pos q3, if_pos q3]
              simp only [if_true]
              by_cases q4 : (addF x d m g).1 = 0
              · rw [if_pos q4, if_pos q4, wid (n := (i : Int) + 1) (by omega) (by omega), wid (n := (j : Int) + 1) (by omega) (by omega)]
                have := sum_loop ga gb fa fb hk hc n (i + 1) (j + 1) acc (by omega) (by omega) (by omega) (by omega)
                rw [drop_succS hda, drop_succS hdb] at this
                exact this
              · rw [if_neg q4, if_neg q4, if_pos (by rw [rowsS_len]; omega), rowsS_snoc, wid (n := (i : Int) + 1) (by omega) (by omega), wid (n := (j : Int) + 1) (by omega) (by omega)]
                have := sum_loop ga gb fa fb hk hc n (i + 1) (j + 1) (appS acc (cons e (addF x d m g).1 (addF x d m g).2 nil)) (by omega) (by omega) (by omega) (by rw [snocLenS]; omega)
                rw [drop_succS hda, drop_succS hdb] at this
                refine this.trans ?_
                congr 1
                cases foldS l r with
                | none => rfl
                | some y => simp only [Option.map_some, app_assocS]; rfl
            · rw [if_neg q3, if_neg q3]; rfl
theorem sum_eqS {k : Nat} {a b : S} (ga : gdS a) (gb : gdS b) (fa : fallsS a) (fb : fallsS b) (hk : a.sizeS + b.sizeS + 300 < k) (hc : a.sizeS + b.sizeS + 2 ≤ cap) : impl_sum k a.rowsS b.rowsS = some (resS (foldS a b)) := by
  have hla := a.len_sizeS
  have hlb := b.len_sizeS
  unfold impl_sum
  have := sum_loop ga gb fa fb hk hc k 0 0 nil (by omega) (by omega) (by omega) (by simp [lenS])
  rw [drop_zeroS, drop_zeroS] at this
  refine this.trans ?_
  congr 1
  cases foldS a b <;> rfl
end Go.Proofs.Try

namespace Go.Proofs.Try
open Go Go.AX S
theorem toldSur_eq (k : Nat) (a : S) (h : a.sizeS + 300 < k) (hc : a.sizeS ≤ cap) : impl_toldSurreal k a.rowsS true = some ((toldST a).1.rowsS, (toldST a).2) := by
  unfold impl_toldSurreal toldST
  simp only [cond_true]
  rw [IsSurreal_eq k a h hc, Option.bind_some]
  cases surP a with
  | false => rfl
  | true => rw [if_pos rfl, sclone_eq k a (by omega) hc]; rfl
theorem toldNo_eq (k : Nat) (a : Rw) : impl_toldSurreal k a false = some ([], false) := rfl
theorem suIf_eq (k : Nat) (a : S) (h : a.sizeS + 300 < k) (hc : a.sizeS ≤ cap) : spec_suIf k a.rowsS = some ((toldST a).1.rowsS, (toldST a).2) := by
  unfold spec_suIf toldST
  rw [suGood_all k a h hc]
  simp only [Option.bind_some]
  cases surP a with
  | false => rfl
  | true => rw [if_pos rfl, sown_eq k a (by omega) hc]; rfl
theorem surreals_eq (k : Nat) (a b : S) (ha : a.sizeS + 300 < k) (hb : b.sizeS + 300 < k) (ca : a.sizeS ≤ cap) (cb : b.sizeS ≤ cap) : impl_surreals k a.rowsS b.rowsS = some (surP a && surP b) := by
  unfold impl_surreals
  rw [IsSurreal_eq k a ha ca, Option.bind_some]
  cases surP a with
  | false => rfl
  | true =>
    rw [if_pos rfl, IsSurreal_eq k b hb cb, Option.bind_some]
    cases surP b <;> rfl
theorem toldST_size (t : S) : (toldST t).1.sizeS ≤ 30 := by
  unfold toldST
  cases h : surP t with
  | false => simp [sizeS]
  | true => exact surP_size h
theorem surP_form {t : S} (h : surP t = true) : formS none t = true := by
  simp only [surP, Bool.and_eq_true] at h; exact h.2
end Go.Proofs.Try

namespace Go.Proofs.Try
open Go Go.AX S
theorem fold_size {a x : S} : ∀ {b : S}, foldS a b = some x → x.sizeS ≤ a.sizeS + b.sizeS := by
  intro b
  induction b generalizing a with
  | nil => intro h; simp only [foldS, Option.some.injEq] at h; subst h; simp [sizeS]
  | cons f m g r _ ih =>
    intro h
    simp only [foldS] at h
    cases hp : putS a f m g with
    | none => rw [hp] at h; cases h
    | some y =>
      rw [hp] at h
      have := ih h
      have := putS_size hp
      simp only [sizeS]; omega
theorem fold_gd {a x : S} : ∀ {b : S}, gdS a → gdS b → foldS a b = some x → gdS x := by
  intro b
  induction b generalizing a with
  | nil => intro ga _ h; simp only [foldS, Option.some.injEq] at h; subst h; exact ga
  | cons f m g r _ ih =>
    intro ga gb h
    simp only [foldS] at h
    cases hp : putS a f m g with
    | none => rw [hp] at h; cases h
    | some y =>
      rw [hp] at h
      exact ih (putS_gd ga gb.1 gb.2.1 hp) gb.2.2 h
theorem gd_fallsS {a : S} (h : surP a = true) : gdS a ∧ fallsS a := ⟨sform_gd (surP_form h), (form_above (surP_form h)).2⟩
/-- What the sum of two right numbers tells. -/
def sumST (a b : S) : S × Bool := match foldS a b with
  | none => (nil, false)
  | some x => toldST x
theorem sumST_size (a b : S) : (sumST a b).1.sizeS ≤ 30 := by
  unfold sumST
  split
  · simp [sizeS]
  · exact toldST_size _
theorem isum_told {k : Nat} {a b : S} (ga : gdS a) (gb : gdS b) (hk : a.sizeS + b.sizeS + 300 < k) (hc : a.sizeS + b.sizeS + 2 ≤ cap) : (∀ x, foldS a b = some x → impl_toldSurreal k x.rowsS true = some ((sumST a b).1.rowsS, (sumST a b).2)) := by
  intro x hx
  have := fold_size hx
  rw [toldSur_eq k x (by omega) (by omega)]
  unfold sumST
  rw [hx]
theorem suSum_eq {k : Nat} {a b : S} (ga : gdS a) (gb : gdS b) (hk : a.sizeS + b.sizeS + 300 < k) (hc : a.sizeS + b.sizeS + 2 ≤ cap) : spec_suSum k a.rowsS b.rowsS = some ((sumST a b).1.rowsS, (sumST a b).2) := by
  unfold spec_suSum sumST
  rw [suPlus_eq (by omega) hc ga gb, Option.bind_some]
  cases hx : foldS a b with
  | none => rfl
  | some x =>
    have := fold_size hx
    simp only [resS, if_true]
    rw [suIf_eq k x (by omega) (by omega)]
    simp only [Option.bind_some]
    cases (toldST x).2 <;> rfl
def addST (a b : S) : S × Bool := if surP a && surP b then sumST a b else (nil, false)
theorem addST_size (a b : S) : (addST a b).1.sizeS ≤ 30 := by
  unfold addST
  split
  · exact sumST_size a b
  · simp [sizeS]
theorem iaddS_eq {k : Nat} {a b : S} (hk : a.sizeS + b.sizeS + 300 < k) (hc : a.sizeS + b.sizeS + 2 ≤ cap) : impl_AddSurreals k a.rowsS b.rowsS = some ((addST a b).1.rowsS, (addST a b).2) := by
  unfold impl_AddSurreals addST
  rw [surreals_eq k a b (by omega) (by omega) (by omega) (by omega)]
  simp only [Option.bind_some]
  cases ha : surP a with
  | false => rfl
  | true =>
    cases hb : surP b with
    | false => rfl
    | true =>
      obtain ⟨ga, fa⟩ := gd_fallsS ha
      obtain ⟨gb, fb⟩ := gd_fallsS hb
      simp only [Bool.and_self, if_true]
      rw [sum_eqS ga gb fa fb hk hc]
      simp only [Option.bind_some]
      cases hx : foldS a b with
      | none => simp only [resS, Bool.false_eq_true, if_false]; rw [toldNo_eq]; simp only [Option.bind_some, sumST, hx]; rfl
      | some x =>
        simp only [resS, if_true]
        rw [isum_told ga gb hk hc x hx]
        simp only [Option.bind_some]
        cases (sumST a b).2 <;> rfl
end Go.Proofs.Try

namespace Go.Proofs.Try
open Go Go.AX S
/-- The terms times a fraction. -/
def scaleT (m g : Int) : S → Option S
  | nil => some nil
  | cons e n d l => if frP (mulF n d m g).1 (mulF n d m g).2 = true then (scaleT m g l).map (cons e (mulF n d m g).1 (mulF n d m g).2) else none
theorem mul_nz {n d m g : Int} (h1 : frP n d = true) (h2 : frP m g = true) (hn : n ≠ 0) (hm : m ≠ 0) : (mulF n d m g).1 ≠ 0 := by
  unfold mulF mkF
  simp only
  obtain ⟨_, _, q3, q4, q5⟩ := mul_in2 h1 h2
  have hp : n * m ≠ 0 := Int.mul_ne_zero hn hm
  have hdv : (Int.gcd (n * m) (d * g) : Int) ∣ n * m := Int.gcd_dvd_left ..
  intro hz
  have := Int.tdiv_mul_cancel hdv
  rw [hz, Int.zero_mul] at this
  exact hp this.symm
theorem scale_above {m g : Int} {q : S} : ∀ {t x : S}, aboveS q t → scaleT m g t = some x → aboveS q x
  | nil, x, _, h => by simp only [scaleT, Option.some.injEq] at h; subst h; trivial
  | cons e n d l, x, ha, h => by
    simp only [scaleT] at h
    split at h
    · cases hs : scaleT m g l with
      | none => rw [hs] at h; cases h
      | some y =>
        rw [hs] at h
        simp only [Option.map_some, Option.some.injEq] at h
        subst h
        exact ⟨ha.1, scale_above ha.2 hs⟩
    · cases h
theorem scale_size {m g : Int} : ∀ {t x : S}, scaleT m g t = some x → x.sizeS = t.sizeS
  | nil, x, h => by simp only [scaleT, Option.some.injEq] at h; subst h; rfl
  | cons e n d l, x, h => by
    simp only [scaleT] at h
    split at h
    · cases hs : scaleT m g l with
      | none => rw [hs] at h; cases h
      | some y =>
        rw [hs] at h
        simp only [Option.map_some, Option.some.injEq] at h
        subst h
        simp only [sizeS, scale_size hs]
    · cases h
def allAb : S → S → Prop
  | nil, _ => True
  | cons e _ _ l, t => aboveS e t ∧ allAb l t
theorem allAb_tail {f t : S} {m g : Int} : ∀ {acc : S}, allAb acc (cons f m g t) → allAb acc t
  | nil, _ => trivial
  | cons _ _ _ _, h => ⟨h.1.2, allAb_tail h.2⟩
theorem allAb_snoc {f t : S} {m g : Int} (hf : aboveS f t) : ∀ {acc : S}, allAb acc t → allAb (appS acc (cons f m g nil)) t
  | nil, _ => ⟨hf, trivial⟩
  | cons _ _ _ _, h => ⟨h.1, allAb_snoc hf h.2⟩
theorem put_end {f t : S} {m g m' g' : Int} : ∀ {acc : S}, allAb acc (cons f m' g' t) → putS acc f m g = some (appS acc (cons f m g nil))
  | nil, _ => rfl
  | cons e n d l, h => by
    have h1 := h.1.1
    simp only [putS]
    rw [if_neg (by omega), put_end h.2]
    rfl
/-- Exponents of a right number are right. -/
theorem sub_right {t : S} (h : surP t = true) : ∀ (i : Nat) (e : S) (n d : Int) (l : S), dropS t i = cons e n d l → surP e = true := by
  intro i e n d l hd
  simp only [surP, Bool.and_eq_true, decide_eq_true_eq] at h ⊢
  obtain ⟨⟨h1, h2⟩, h3⟩ := h
  have hs := drop_cons_sizeS hd
  have hn := nodesS_size t
  have hn2 := nodesS_size e
  have hdp := dpS_drop (t := t) (i := i)
  rw [hd] at hdp
  simp only [dpS] at hdp
  refine ⟨⟨by omega, by omega⟩, ?_⟩
  have key : ∀ (p : Option S) (t : S) (i : Nat), formS p t = true → dropS t i = cons e n d l → formS none e = true := by
    intro p t
    induction t generalizing p with
    | nil => intro i _ hq; simp at hq
    | cons x y z m _ ih =>
      intro i hf hq
      simp only [formS, Bool.and_eq_true] at hf
      cases i with
      | zero => simp only [drop_zeroS, S.cons.injEq] at hq; rw [← hq.1]; exact hf.1.1.2
      | succ i => exact ih _ i hf.2 hq
  exact key none t i h3 hd
theorem timesTerm_eq {k : Nat} {e : S} {n d m g : Int} (he : surP e = true) (h1 : frP n d = true) (h2 : frP m g = true) (hk : e.sizeS + 300 < k) (hc : e.sizeS + 2 ≤ cap) : spec_suTimesTerm k e.rowsS n d [] m g = some (e.rowsS, (mulF n d m g).1, (mulF n d m g).2, frP (mulF n d m g).1 (mulF n d m g).2) := by
  have hg := (gd_fallsS he).1
  have hs : spec_suSum k e.rowsS [] = some (e.rowsS, true) := by
    have := suSum_eq (k := k) (a := e) (b := nil) hg trivial (by simp only [sizeS]; omega) (by simp only [sizeS]; omega)
    have e2 : sumST e nil = (e, true) := by simp only [sumST, foldS]; unfold toldST; rw [he]; rfl
    rw [e2] at this
    exact this
  unfold spec_suTimesTerm
  rw [hs]
  simp only [Option.bind_some, if_true]
  rw [shMul_eq (by omega) h1 h2, Option.bind_some, shGood_eq (by omega), Option.bind_some]
  cases frP (mulF n d m g).1 (mulF n d m g).2 <;> rfl
theorem prod_one {k : Nat} {a : S} {m g : Int} (ha : surP a = true) (hm : frP m g = true) (hm0 : m ≠ 0) (hk : 2000 < k) : ∀ (t : S) (i : Nat) (acc : S), dropS a i = t → gdS acc → gdS t → fallsS t → allAb acc t → acc.sizeS + t.sizeS ≤ 100 →
    spec_suProduct_l0 k a.rowsS [[D.sl [], D.int .i64 m, D.int .i64 g]] (fun v => spec_suProduct_p3 k v) t.rowsS i acc.rowsS = (match scaleT m g t with | none => some ([], false) | some x => spec_suProduct_p3 k (appS acc x).rowsS)
  | nil, i, acc, _, _, _, _, _, _ => by simp only [rowsS, spec_suProduct_l0, scaleT, app_nilS]
  | cons e n d l, i, acc, hd, gacc, gt, ft, hab, hs => by
    have h3 : cap = 1099511627776 := rfl
    simp only [sizeS] at hs
    have he := sub_right ha i e n d l hd
    have hes := surP_size he
    simp only [rowsS, spec_suProduct_l0, cell_S]
    rw [if_pos (by simp only [List.length_cons, List.length_nil]; omega)]
    simp only [spec_suProduct_l1]
    rw [show ∀ K : Rw → Int → Int → Option (Rw × Bool), cell_sii [D.sl [], D.int .i64 m, D.int .i64 g] K = K [] m g from fun _ => rfl, timesTerm_eq he gt.2.1.1 hm (by omega) (by omega)]
    simp only [Option.bind_some]
    by_cases h : frP (mulF n d m g).1 (mulF n d m g).2 = true
    · have hz := mul_nz gt.2.1.1 hm gt.2.1.2 hm0
      rw [if_pos h, suPut_eq (by omega) (by omega) gacc gt.1 h, put_end hab]
      simp only [Option.bind_some, resS, if_true]
      have := prod_one ha hm hm0 hk l (i + 1) (appS acc (cons e (mulF n d m g).1 (mulF n d m g).2 nil)) (drop_succS hd) (putS_gd gacc gt.1 ⟨h, hz⟩ (put_end hab)) gt.2.2 ft.2 (allAb_snoc ft.1 (allAb_tail hab)) (by rw [size_appS]; simp only [sizeS]; omega)
      rw [this]
      simp only [scaleT, if_pos h]
      cases scaleT m g l with
      | none => rfl
      | some y => simp only [Option.map_some, app_assocS]; rfl
    · rw [if_neg h]
      simp only [scaleT, if_neg h]
theorem nil_right : surP nil = true := by decide
theorem prod_nil {k : Nat} {a : S} (K : Rw → Option (Rw × Bool)) : ∀ (t : S) (i : Nat), spec_suProduct_l0 k a.rowsS [] K t.rowsS i [] = K []
  | nil, i => rfl
  | cons e n d l, i => by
    simp only [rowsS, spec_suProduct_l0, cell_S]
    rw [if_pos (by simp)]
    simp only [spec_suProduct_l1]
    exact prod_nil K l (i + 1)
end Go.Proofs.Try

namespace Go.Proofs.Try
open Go Go.AX S
theorem put_falls {f : S} {m g : Int} (gf : gdS f) : ∀ {acc x : S}, gdS acc → fallsS acc → putS acc f m g = some x → fallsS x ∧ (∀ q, gdS q → aboveS q acc → cmpS q f = 1 → aboveS q x)
  | nil, x, _, _, h => by simp only [putS, Option.some.injEq] at h; subst h; exact ⟨⟨trivial, trivial⟩, fun q _ _ hq => ⟨hq, trivial⟩⟩
  | cons e n d l, x, ga, fa, h => by
    simp only [putS] at h
    have hneg := cmpS_neg e f
    have hr := cmpS_range e f
    split at h
    · split at h
      · rename_i q0
        obtain rfl := (cmpS_eq ga.1 gf).1 q0
        split at h
        · simp only [Option.some.injEq] at h
          subst h
          split
          · exact ⟨fa.2, fun q _ hq _ => hq.2⟩
          · exact ⟨⟨fa.1, fa.2⟩, fun q _ hq h1 => ⟨h1, hq.2⟩⟩
        · cases h
      · rename_i q0 q1
        simp only [Option.some.injEq] at h
        subst h
        have h1 : cmpS f e = 1 := by omega
        exact ⟨⟨⟨h1, above_trans gf ga.1 h1 ga.2.2 fa.1⟩, fa⟩, fun q _ hq h2 => ⟨h2, hq⟩⟩
    · rename_i q0
      cases hp : putS l f m g with
      | none => rw [hp] at h; cases h
      | some y =>
        rw [hp] at h
        simp only [Option.map_some, Option.some.injEq] at h
        subst h
        obtain ⟨i1, i2⟩ := put_falls gf ga.2.2 fa.2 hp
        exact ⟨⟨i2 e ga.1 fa.1 (by omega), i1⟩, fun q gq hq h2 => ⟨hq.1, i2 q gq hq.2 h2⟩⟩
/-- One product of terms, put into its place. -/
def stepM (acc e : S) (n d : Int) (f : S) (m g : Int) : Option S :=
  if (sumST e f).2 = true then (if frP (mulF n d m g).1 (mulF n d m g).2 = true then putS acc (sumST e f).1 (mulF n d m g).1 (mulF n d m g).2 else none) else none
def rowM (e : S) (n d : Int) : S → S → Option S
  | acc, nil => some acc
  | acc, cons f m g r => (stepM acc e n d f m g).bind fun x => rowM e n d x r
def prodM (b : S) : S → S → Option S
  | acc, nil => some acc
  | acc, cons e n d l => (rowM e n d acc b).bind fun x => prodM b x l
theorem sumST_right {e f : S} (h : (sumST e f).2 = true) : surP (sumST e f).1 = true := by
  unfold sumST at *
  split
  · rename_i hx; rw [hx] at h; cases h
  · rename_i x hx
    rw [hx] at h
    simp only at h ⊢
    unfold toldST at *
    split
    · rename_i q; exact q
    · rename_i q; rw [if_neg q] at h; cases h
theorem step_ok {acc e f x : S} {n d m g : Int} (h : stepM acc e n d f m g = some x) (ga : gdS acc) (fa : fallsS acc) (h1 : frP n d = true ∧ n ≠ 0) (h2 : frP m g = true ∧ m ≠ 0) : gdS x ∧ fallsS x ∧ x.sizeS ≤ acc.sizeS + 31 := by
  unfold stepM at h
  split at h
  · rename_i hs
    split at h
    · rename_i hf
      have hr := sumST_right hs
      have hg := (gd_fallsS hr).1
      have hz := surP_size hr
      have := putS_size h
      exact ⟨putS_gd ga hg ⟨hf, mul_nz h1.1 h2.1 h1.2 h2.2⟩ h, (put_falls hg ga fa h).1, by omega⟩
    · cases h
  · cases h
theorem term_eqS (e : S) {n d : Int} (hn : n ≠ 0) : impl_term e.rowsS n d = some (cons e n d nil).rowsS := by
  unfold impl_term
  rw [if_neg hn]; rfl
theorem mul_l1 {k : Nat} {a b e : S} {n d : Int} {i : Nat} {K K' : Rw → Option (Rw × Bool)} (hb : surP b = true) (he : surP e = true) (hn : frP n d = true ∧ n ≠ 0) (hk : 40000 < k) : ∀ (t : S) (j : Nat) (acc : S), dropS b j = t → gdS acc → fallsS acc → gdS t → acc.sizeS + 31 * t.lenS ≤ 30000 →
    (match rowM e n d acc t with
      | none => impl_MultiplySurreals_l1 k a.rowsS b.rowsS i e.rowsS n d K t.rowsS acc.rowsS = some ([], false) ∧ spec_suProduct_l1 k a.rowsS b.rowsS i e.rowsS n d K' t.rowsS acc.rowsS = some ([], false)
      | some x => impl_MultiplySurreals_l1 k a.rowsS b.rowsS i e.rowsS n d K t.rowsS acc.rowsS = K x.rowsS ∧ spec_suProduct_l1 k a.rowsS b.rowsS i e.rowsS n d K' t.rowsS acc.rowsS = K' x.rowsS ∧ gdS x ∧ fallsS x ∧ x.sizeS ≤ acc.sizeS + 31 * t.lenS)
  | nil, j, acc, _, ga, fa, _, _ => ⟨rfl, rfl, ga, fa, by simp [lenS]⟩
  | cons f m g r, j, acc, hd, ga, fa, gt, hs => by
    have h3 : cap = 1099511627776 := rfl
    simp only [lenS] at hs
    have hf := sub_right hb j f m g r hd
    have zf := surP_size hf
    have ze := surP_size he
    have ge := (gd_fallsS he).1
    have gf := (gd_fallsS hf).1
    have e1 := iaddS_eq (k := k) (a := e) (b := f) (by omega) (by omega)
    have e2 : addST e f = sumST e f := by unfold addST; rw [he, hf]; rfl
    rw [e2] at e1
    have e3 := suSum_eq (k := k) ge gf (by omega) (by omega)
    have e4 := MultiplyFractions_eq (k := k) (by omega) hn.1 gt.2.1.1
    have e5 := shMul_eq (k := k) (by omega) hn.1 gt.2.1.1
    have e6 := shGood_eq (k := k) (by omega) (mulF n d m g).1 (mulF n d m g).2
    simp only [rowsS, impl_MultiplySurreals_l1, spec_suProduct_l1, cell_S]
    unfold spec_suTimesTerm
    rw [e1, e3, e4, e5]
    simp only [Option.bind_some]
    rw [e6]
    simp only [Option.bind_some, rowM]
    by_cases q1 : (sumST e f).2 = true
    · rw [if_pos q1, if_pos q1]
      by_cases q2 : frP (mulF n d m g).1 (mulF n d m g).2 = true
      · have hstep : stepM acc e n d f m g = putS acc (sumST e f).1 (mulF n d m g).1 (mulF n d m g).2 := by unfold stepM; rw [if_pos q1, if_pos q2]
        have hr := sumST_right q1
        have hg := (gd_fallsS hr).1
        have hz := surP_size hr
        have hnz := mul_nz hn.1 gt.2.1.1 hn.2 gt.2.1.2
        have gone : gdS (cons (sumST e f).1 (mulF n d m g).1 (mulF n d m g).2 nil) := ⟨hg, ⟨q2, hnz⟩, trivial⟩
        have e7 := sum_eqS (k := k) ga gone fa ⟨trivial, trivial⟩ (by simp only [sizeS]; omega) (by simp only [sizeS]; omega)
        have e8 : foldS acc (cons (sumST e f).1 (mulF n d m g).1 (mulF n d m g).2 nil) = putS acc (sumST e f).1 (mulF n d m g).1 (mulF n d m g).2 := by
          simp only [foldS]
          cases putS acc (sumST e f).1 (mulF n d m g).1 (mulF n d m g).2 <;> rfl
        rw [e8] at e7
        have e9 := suPut_eq (k := k) (a := acc) (f := (sumST e f).1) (m := (mulF n d m g).1) (g := (mulF n d m g).2) (by omega) (by omega) ga hg q2
        unfold resF
        rw [if_pos q2, if_pos q2]
        simp only [Option.bind_some, if_true]
        rw [term_eqS _ hnz]
        simp only [Option.bind_some]
        rw [e7, e9]
        simp only [Option.bind_some]
        cases hp : putS acc (sumST e f).1 (mulF n d m g).1 (mulF n d m g).2 with
        | none =>
          rw [hstep, hp]
          exact ⟨rfl, rfl⟩
        | some x =>
          rw [hstep, hp]
          obtain ⟨x1, x2, x3⟩ := step_ok (hstep.trans hp) ga fa hn gt.2.1
          simp only [resS, if_true, Option.bind_some]
          have ih := mul_l1 (a := a) (i := i) (K := K) (K' := K') hb he hn hk r (j + 1) x (drop_succS hd) x1 x2 gt.2.2 (by omega)
          cases hr : rowM e n d x r with
          | none => rw [hr] at ih; exact ih
          | some y =>
            rw [hr] at ih
            exact ⟨ih.1, ih.2.1, ih.2.2.1, ih.2.2.2.1, by have := ih.2.2.2.2; simp only [lenS]; omega⟩
      · have hstep : stepM acc e n d f m g = none := by unfold stepM; rw [if_pos q1, if_neg q2]
        rw [hstep]
        unfold resF
        rw [if_neg q2, if_neg q2]
        exact ⟨rfl, rfl⟩
    · have hstep : stepM acc e n d f m g = none := by unfold stepM; rw [if_neg q1]
      rw [hstep, if_neg q1, if_neg q1]
      simp only [Option.bind_none, Option.bind_some, Bool.false_eq_true, if_false]
      refine ⟨?_, trivial⟩
      split <;> rfl
theorem mul_l0 {k : Nat} {a b : S} (ha : surP a = true) (hb : surP b = true) (hk : 40000 < k) : ∀ (t : S) (i : Nat) (acc : S), dropS a i = t → gdS acc → fallsS acc → gdS t → acc.sizeS + 31 * 30 * t.lenS ≤ 29000 →
    (match prodM b acc t with
      | none => impl_MultiplySurreals_l0 k a.rowsS b.rowsS (fun v => impl_MultiplySurreals_p4 k v) t.rowsS i acc.rowsS = some ([], false) ∧ spec_suProduct_l0 k a.rowsS b.rowsS (fun v => spec_suProduct_p3 k v) t.rowsS i acc.rowsS = some ([], false)
      | some x => impl_MultiplySurreals_l0 k a.rowsS b.rowsS (fun v => impl_MultiplySurreals_p4 k v) t.rowsS i acc.rowsS = impl_MultiplySurreals_p4 k x.rowsS ∧ spec_suProduct_l0 k a.rowsS b.rowsS (fun v => spec_suProduct_p3 k v) t.rowsS i acc.rowsS = spec_suProduct_p3 k x.rowsS ∧ x.sizeS ≤ 29000)
  | nil, i, acc, _, _, _, _, h => ⟨rfl, rfl, by simp only [lenS] at h; omega⟩
  | cons e n d l, i, acc, hd, ga, fa, gt, hs => by
    have h3 : cap = 1099511627776 := rfl
    simp only [lenS] at hs
    have he := sub_right ha i e n d l hd
    have gb := (gd_fallsS hb).1
    have zb := surP_size hb
    have lb := b.len_sizeS
    have h1 := mul_l1 (k := k) (a := a) (b := b) (e := e) (n := n) (d := d) (i := i) (K := fun v => impl_MultiplySurreals_l0 k a.rowsS b.rowsS (fun v => impl_MultiplySurreals_p4 k v) l.rowsS (i + 1) v) (K' := fun v => spec_suProduct_l0 k a.rowsS b.rowsS (fun v => spec_suProduct_p3 k v) l.rowsS (i + 1) v) hb he gt.2.1 hk b 0 acc (drop_zeroS b) ga fa gb (by omega)
    simp only [rowsS, impl_MultiplySurreals_l0, spec_suProduct_l0, cell_S, prodM]
    rw [if_pos (by rw [rowsS_len]; omega), if_pos (by rw [rowsS_len]; omega)]
    cases hr : rowM e n d acc b with
    | none => rw [hr] at h1; exact h1
    | some x =>
      rw [hr] at h1
      obtain ⟨q1, q2, q3, q4, q5⟩ := h1
      simp only [Option.bind_some]
      have ih := mul_l0 ha hb hk l (i + 1) x (drop_succS hd) q3 q4 gt.2.2 (by omega)
      cases hp : prodM b x l with
      | none => rw [hp] at ih; exact ⟨q1.trans ih.1, q2.trans ih.2⟩
      | some y => rw [hp] at ih; exact ⟨q1.trans ih.1, q2.trans ih.2.1, ih.2.2⟩
end Go.Proofs.Try

namespace Go.Proofs.Try
open Go Go.AX S
def mulP (a b : S) : S × Bool := match prodM b nil a with
  | none => (nil, false)
  | some x => toldST x
theorem nil_rightS : surP nil = true := by decide
theorem toldST_right (x : S) : surP (toldST x).1 = true := by
  unfold toldST
  cases h : surP x with
  | false => exact nil_rightS
  | true => exact h
theorem toldST_no {x : S} (h : (toldST x).2 = false) : (toldST x).1 = nil := by
  unfold toldST at *
  cases hx : surP x with
  | false => rfl
  | true => rw [hx] at h; cases h
theorem mulP_right (a b : S) : surP (mulP a b).1 = true := by
  unfold mulP
  split
  · exact nil_rightS
  · exact toldST_right _
theorem mulP_no {a b : S} (h : (mulP a b).2 = false) : (mulP a b).1 = nil := by
  unfold mulP at *
  split
  · rfl
  · rename_i x hx; rw [hx] at h; exact toldST_no h
theorem mulP_eq {k : Nat} {a b : S} (ha : surP a = true) (hb : surP b = true) (hk : 40000 < k) : impl_MultiplySurreals k a.rowsS b.rowsS = some ((mulP a b).1.rowsS, (mulP a b).2) ∧ spec_suProduct k a.rowsS b.rowsS = some ((mulP a b).1.rowsS, (mulP a b).2) := by
  have h3 : cap = 1099511627776 := rfl
  obtain ⟨ga, fa⟩ := gd_fallsS ha
  have za := surP_size ha
  have zb := surP_size hb
  have la := a.len_sizeS
  unfold impl_MultiplySurreals
  rw [surreals_eq k a b (by omega) (by omega) (by omega) (by omega), ha, hb]
  simp only [Option.bind_some, Bool.and_self, if_true]
  unfold impl_MultiplySurreals_p2 spec_suProduct
  rw [if_pos (by rw [rowsS_len]; omega), if_pos (by rw [rowsS_len]; omega)]
  have h1 := mul_l0 (k := k) ha hb hk a 0 nil (drop_zeroS a) trivial trivial ga (by simp only [sizeS]; omega)
  rw [show nil.rowsS = ([] : Rw) from rfl] at h1
  unfold mulP
  cases hp : prodM b nil a with
  | none =>
    rw [hp] at h1
    exact h1
  | some x =>
    rw [hp] at h1
    have hz := h1.2.2
    rw [h1.1, h1.2.1]
    unfold impl_MultiplySurreals_p4 impl_MultiplySurreals_p5 spec_suProduct_p3 spec_suProduct_p4
    rw [toldSur_eq k x (by omega) (by omega), suIf_eq k x (by omega) (by omega)]
    refine ⟨?_, ?_⟩ <;> (simp only [Option.bind_some]; cases (toldST x).2 <;> rfl)
theorem form_weak {p : Option S} {t : S} (h : formS p t = true) : formS none t = true := by
  cases t with
  | nil => rfl
  | cons e n d l =>
    simp only [formS, Bool.and_eq_true] at h ⊢
    exact ⟨⟨h.1.1, trivial⟩, h.2⟩
theorem drop_right {t : S} (h : surP t = true) (i : Nat) : surP (dropS t i) = true := by
  simp only [surP, Bool.and_eq_true, decide_eq_true_eq] at h ⊢
  have hs := drop_sizeS (t := t) (i := i)
  have n1 := nodesS_size t
  have n2 := nodesS_size (dropS t i)
  have hd := dpS_drop (t := t) (i := i)
  refine ⟨⟨by omega, by omega⟩, ?_⟩
  have key : ∀ (t : S) (p : Option S) (i : Nat), formS p t = true → formS none (dropS t i) = true := by
    intro t
    induction t with
    | nil => intro p i _; cases i <;> rfl
    | cons e n d l _ ih =>
      intro p i hf
      cases i with
      | zero => exact form_weak hf
      | succ i => simp only [formS, Bool.and_eq_true] at hf; exact ih _ i hf.2
  exact key t none i h.2
def negl (r m : S) : Bool := match r, m with
  | cons e _ _ _, cons f _ _ _ => decide (cmpS e f < 0)
  | _, _ => false
theorem smul_m {k : Nat} {a b : S} (ha : surP a = true) (hb : surP b = true) (hk : 40000 < k) : spec_seChecked_mul k false a.rowsS b.rowsS = some ((mulP a b).1.rowsS, !(mulP a b).2) := by
  unfold spec_seChecked_mul spec_seChecked_keep
  rw [(mulP_eq ha hb hk).2]
  simp only [Option.bind_some]
  cases h : (mulP a b).2 with
  | true => rfl
  | false => rw [mulP_no h]; rfl
theorem sumST_right2 (a b : S) : surP (sumST a b).1 = true := by
  unfold sumST
  split
  · exact nil_rightS
  · exact toldST_right _
theorem sumST_no {a b : S} (h : (sumST a b).2 = false) : (sumST a b).1 = nil := by
  unfold sumST at *
  split
  · rfl
  · rename_i x hx; rw [hx] at h; exact toldST_no h
theorem sadd_m {k : Nat} {a b : S} {bad : Bool} (ha : surP a = true) (hb : surP b = true) (hk : 40000 < k) : spec_seChecked_add k bad a.rowsS b.rowsS = some ((if bad = true then nil else (sumST a b).1).rowsS, bad || !(sumST a b).2) := by
  have h3 : cap = 1099511627776 := rfl
  have za := surP_size ha
  have zb := surP_size hb
  unfold spec_seChecked_add spec_seChecked_keep
  rw [suSum_eq (gd_fallsS ha).1 (gd_fallsS hb).1 (by omega) (by omega)]
  simp only [Option.bind_some]
  cases h : (sumST a b).2 with
  | true => cases bad <;> rfl
  | false => cases bad <;> (rw [sumST_no h]; rfl)
end Go.Proofs.Try

namespace Go.Proofs.Try
open Go Go.AX S
def oneS : S := cons nil 1 1 nil
theorem one_rightS : surP oneS = true := by decide
def powS (x : S) : Nat → S → S × Bool
  | 0, out => (out, false)
  | n + 1, out => if (mulP out x).2 = true then powS x n (mulP out x).1 else (nil, true)
theorem pow_right {x : S} (hx : surP x = true) : ∀ (n : Nat) (out : S), surP out = true → surP (powS x n out).1 = true
  | 0, _, h => h
  | n + 1, out, h => by
    simp only [powS]
    split
    · exact pow_right hx n _ (mulP_right out x)
    · exact nil_rightS
theorem smul_b {k : Nat} {a b : S} {bad : Bool} (ha : surP a = true) (hb : surP b = true) (hk : 40000 < k) : spec_seChecked_mul k bad a.rowsS b.rowsS = some ((if bad = true then nil else (mulP a b).1).rowsS, bad || !(mulP a b).2) := by
  unfold spec_seChecked_mul spec_seChecked_keep
  rw [(mulP_eq ha hb hk).2]
  simp only [Option.bind_some]
  cases h : (mulP a b).2 with
  | true => cases bad <;> rfl
  | false => cases bad <;> (rw [mulP_no h]; rfl)
end Go.Proofs.Try

namespace Go.Proofs.Try
open Go Go.AX S
theorem imul_m3 {k : Nat} {a b : S} {bad : Bool} (ha : surP a = true) (hb : surP b = true) (hk : 40000 < k) : impl_maker_mul k bad a.rowsS b.rowsS = some ((mulP a b).1.rowsS, bad || !(mulP a b).2) := by
  unfold impl_maker_mul impl_maker_take_2
  rw [(mulP_eq ha hb hk).1]
  simp only [Option.bind_some]
  cases (mulP a b).2 <;> cases bad <;> rfl
theorem iadd_m3 {k : Nat} {a b : S} {bad : Bool} (ha : surP a = true) (hb : surP b = true) (hk : 40000 < k) : impl_maker_add k bad a.rowsS b.rowsS = some ((sumST a b).1.rowsS, bad || !(sumST a b).2) := by
  have h3 : cap = 1099511627776 := rfl
  have za := surP_size ha
  have zb := surP_size hb
  unfold impl_maker_add impl_maker_take_2
  rw [iaddS_eq (by omega) (by omega)]
  have e : addST a b = sumST a b := by unfold addST; rw [ha, hb]; rfl
  rw [e]
  simp only [Option.bind_some]
  cases bad <;> cases (sumST a b).2 <;> rfl
end Go.Proofs.Try

namespace Go.Proofs.Try
open Go Go.AX S
def negS : S → S
  | nil => nil
  | cons e n d l => cons e (IntKind.i64.wrap (0 - n)) d (negS l)
theorem neg_size (t : S) : (negS t).sizeS = t.sizeS := by
  induction t with
  | nil => rfl
  | cons e n d l _ ih => simp [negS, sizeS, ih]
theorem neg_nodes (t : S) : nodesS (negS t) = nodesS t := by rw [nodesS_size, nodesS_size, neg_size]
theorem neg_dp (t : S) : dpS (negS t) = dpS t := by
  induction t with
  | nil => rfl
  | cons e n d l _ ih => simp [negS, dpS, ih]
theorem frP_neg {n d : Int} (h : -9223372036854775808 ≤ n ∧ n ≤ 9223372036854775807) : frP (IntKind.i64.wrap (0 - n)) d = frP n d ∧ (IntKind.i64.wrap (0 - n) = 0 ↔ n = 0) := by
  by_cases hm : n = -9223372036854775808
  · subst hm
    have : IntKind.i64.wrap (0 - -9223372036854775808) = -9223372036854775808 := by decide
    rw [this]; exact ⟨rfl, Iff.rfl⟩
  · rw [wid (n := 0 - n) (by omega) (by omega)]
    refine ⟨?_, by omega⟩
    unfold frP
    rw [show 0 - n = -n by omega, Int.neg_gcd]
    have e1 : decide (-1000000 ≤ -n) = decide (n ≤ 1000000) := by congr 1; apply propext; omega
    have e2 : decide (-n ≤ 1000000) = decide (-1000000 ≤ n) := by congr 1; apply propext; omega
    rw [e1, e2, Bool.and_comm (decide (n ≤ 1000000))]
theorem neg_form {p : Option S} {t : S} (h : fitS t) : formS p (negS t) = formS p t := by
  induction t generalizing p with
  | nil => rfl
  | cons e n d l _ ih =>
    obtain ⟨e1, e2⟩ := frP_neg (d := d) h.2.2.2
    have e3 : decide (IntKind.i64.wrap (0 - n) ≠ 0) = decide (n ≠ 0) := by congr 1; apply propext; exact not_congr e2
    simp only [negS, formS, e1, e3, ih h.2.2.1]
theorem neg_ok {t : S} (h : fitS t) : surP (negS t) = surP t := by
  unfold surP
  rw [neg_nodes, neg_dp, neg_form h]
theorem neg_loops {b : Rw} {K : Rw → Option Rw} : ∀ (t acc : S), acc.lenS + t.lenS ≤ cap → impl_negative_l0 b K t.rowsS acc.rowsS = K (appS acc (negS t)).rowsS ∧ spec_suNeg_l0 b K t.rowsS acc.rowsS = K (appS acc (negS t)).rowsS
  | nil, acc, _ => by simp only [rowsS, impl_negative_l0, spec_suNeg_l0, negS, app_nilS]; exact ⟨trivial, trivial⟩
  | cons e n d l, acc, hl => by
    simp only [lenS] at hl
    obtain ⟨h1, h2⟩ := neg_loops (b := b) (K := K) l (appS acc (cons e (IntKind.i64.wrap (0 - n)) d nil)) (by rw [snocLenS]; omega)
    simp only [rowsS, impl_negative_l0, spec_suNeg_l0, cell_S, spec_shNeg, Option.bind_some]
    rw [if_pos (by rw [rowsS_len]; omega), if_pos (by rw [rowsS_len]; omega), rowsS_snoc, h1, h2, app_assocS]
    exact ⟨rfl, rfl⟩
theorem neg_eq {t : S} (hc : t.lenS ≤ cap) : impl_negative t.rowsS = some (negS t).rowsS ∧ spec_suNeg t.rowsS = some (negS t).rowsS := by
  unfold impl_negative spec_suNeg
  rw [if_pos (by rw [rowsS_len]; exact hc), if_pos (by rw [rowsS_len]; exact hc)]
  exact neg_loops t nil (by simp only [lenS]; omega)
end Go.Proofs.Try

namespace Go.Proofs.Try
open Go Go.AX S
theorem fit_of {t : S} (h : gdS t) (hz : t.sizeS ≤ 100) : fitS t := by
  induction t with
  | nil => trivial
  | cons e n d l ih1 ih =>
    simp only [sizeS] at hz
    have hl := e.len_sizeS
    obtain ⟨_, q, _⟩ := frP_in h.2.1.1
    exact ⟨ih1 h.1 (by omega), by omega, ih h.2.2 (by omega), by omega, by omega⟩
theorem neg_right {b : S} (hb : surP b = true) : surP (negS b) = true := by
  rw [neg_ok (fit_of (gd_fallsS hb).1 (by have := surP_size hb; omega))]; exact hb
def subP (a b : S) : S × Bool := sumST a (negS b)
theorem subP_right (a b : S) : surP (subP a b).1 = true := sumST_right2 _ _
theorem subP_no {a b : S} (h : (subP a b).2 = false) : (subP a b).1 = nil := sumST_no h
theorem isub_m3 {k : Nat} {a b : S} {bad : Bool} (ha : surP a = true) (hb : surP b = true) (hk : 40000 < k) : impl_maker_sub k bad a.rowsS b.rowsS = some ((subP a b).1.rowsS, bad || !(subP a b).2) := by
  have h3 : cap = 1099511627776 := rfl
  have za := surP_size ha
  have zb := surP_size hb
  have lb := b.len_sizeS
  have zn := neg_size b
  have e : addST a (negS b) = subP a b := by unfold addST subP; rw [ha, neg_right hb]; rfl
  have hs : impl_SubtractSurreals k a.rowsS b.rowsS = some ((subP a b).1.rowsS, (subP a b).2) := by
    unfold impl_SubtractSurreals
    rw [(neg_eq (t := b) (by omega)).1, Option.bind_some, iaddS_eq (by omega) (by omega), e, Option.bind_some]
    cases (subP a b).2 <;> rfl
  unfold impl_maker_sub impl_maker_take_2
  rw [hs]
  simp only [Option.bind_some]
  cases (subP a b).2 <;> cases bad <;> rfl
theorem ssub_m3 {k : Nat} {a b : S} {bad : Bool} (ha : surP a = true) (hb : surP b = true) (hk : 40000 < k) : spec_seChecked_sub k bad a.rowsS b.rowsS = some ((if bad = true then nil else (subP a b).1).rowsS, bad || !(subP a b).2) := by
  have h3 : cap = 1099511627776 := rfl
  have za := surP_size ha
  have zb := surP_size hb
  have lb := b.len_sizeS
  have zn := neg_size b
  unfold spec_seChecked_sub spec_seChecked_keep
  rw [(neg_eq (t := b) (by omega)).2]
  simp only [Option.bind_some]
  rw [suSum_eq (gd_fallsS ha).1 (gd_fallsS (neg_right hb)).1 (by omega) (by omega)]
  simp only [Option.bind_some]
  have hno := @subP_no a b
  unfold subP at hno ⊢
  cases h : (sumST a (negS b)).2 with
  | true => cases bad <;> rfl
  | false => cases bad <;> (rw [hno h]; rfl)
/-! ### quotients of fractions -/
def mkG (n d : Int) : Int × Int := if d < 0 then (n.tdiv (0 - (Int.gcd n d : Int)), d.tdiv (0 - (Int.gcd n d : Int))) else mkF n d
def dvF (n d m g : Int) : Int × Int := mkG (n * g) (d * m)
theorem gcd_ne2 {n d : Int} (hd : d ≠ 0) : (Int.gcd n d : Int) ≠ 0 := by
  have : Int.gcd n d ≠ 0 := by rw [Ne, Int.gcd_eq_zero_iff]; omega
  omega
theorem gcd_small {n d : Int} (hd : d ≠ 0) (h : -4000000000000000000 ≤ d ∧ d ≤ 4000000000000000000) : 0 ≤ (Int.gcd n d : Int) ∧ (Int.gcd n d : Int) ≤ 4000000000000000000 := by
  have h1 : Int.gcd n d ∣ d.natAbs := Int.gcd_dvd_natAbs_right n d
  have h2 := Nat.le_of_dvd (by omega) h1
  omega
theorem made_eq2 {k : Nat} {n d : Int} (hk : 200 < k) (hd : d ≠ 0) (hn : -4000000000000000000 ≤ n ∧ n ≤ 4000000000000000000) (hd2 : -4000000000000000000 ≤ d ∧ d ≤ 4000000000000000000) :
    impl_made k n d = some (resF (mkG n d)) := by
  have hg := gcd_ne2 (n := n) hd
  have hs := gcd_small (n := n) hd hd2
  unfold impl_made mkG resF
  rw [if_neg hd, igcd_eq hk hn hd2, Option.bind_some, wid (n := 0 - (Int.gcd n d : Int)) (by omega) (by omega)]
  by_cases hneg : d < 0
  · rw [if_pos hneg, if_pos hneg, if_pos (by omega), wtdiv hn, wtdiv hd2, IsFraction_eq hk, Option.bind_some]
    simp only
    by_cases h : frP (n.tdiv (0 - (Int.gcd n d : Int))) (d.tdiv (0 - (Int.gcd n d : Int))) = true
    · rw [if_pos h, if_pos h]
    · rw [if_neg h, if_neg h]
  · rw [if_neg hneg, if_neg hneg, if_pos hg, wtdiv hn, wtdiv hd2, IsFraction_eq hk, Option.bind_some]
    unfold mkF
    simp only
    by_cases h : frP (n.tdiv (Int.gcd n d : Int)) (d.tdiv (Int.gcd n d : Int)) = true
    · rw [if_pos h, if_pos h]
    · rw [if_neg h, if_neg h]
theorem shMake_eq2 {k : Nat} {n d : Int} (hk : 200 < k) (hd : d ≠ 0) (hn : -4000000000000000000 ≤ n ∧ n ≤ 4000000000000000000) (hd2 : -4000000000000000000 ≤ d ∧ d ≤ 4000000000000000000) :
    spec_shMake k n d = some (mkG n d) := by
  have hg := gcd_ne2 (n := n) hd
  have hs := gcd_small (n := n) hd hd2
  unfold spec_shMake mkG
  rw [sgcd_eq hk hn hd2, Option.bind_some, wid (n := 0 - (Int.gcd n d : Int)) (by omega) (by omega)]
  by_cases hneg : d < 0
  · rw [if_pos hneg, if_pos hneg, if_pos (by omega), wtdiv hn, wtdiv hd2]
  · rw [if_neg hneg, if_neg hneg, if_pos hg, wtdiv hn, wtdiv hd2]; rfl
theorem dv_in {n d m g : Int} (h1 : frP n d = true) (h2 : frP m g = true) (hm : m ≠ 0) : IntKind.i64.wrap (n * g) = n * g ∧ IntKind.i64.wrap (d * m) = d * m ∧ (-4000000000000000000 ≤ n * g ∧ n * g ≤ 4000000000000000000) ∧ d * m ≠ 0 ∧ (-4000000000000000000 ≤ d * m ∧ d * m ≤ 4000000000000000000) := by
  obtain ⟨a1, a2, _⟩ := frP_in h1
  obtain ⟨b1, b2, _⟩ := frP_in h2
  have hp := prod_in (B := 1000000) (C := 1000000) a2 (show 0 ≤ g ∧ g ≤ 1000000 by omega)
  have hr := prod_in (B := 1000000) (C := 1000000) b2 (show 0 ≤ d ∧ d ≤ 1000000 by omega)
  rw [Int.mul_comm m d] at hr
  exact ⟨wid (by omega) (by omega), wid (by omega) (by omega), by omega, Int.mul_ne_zero (by omega) hm, by omega⟩
theorem idiv_eq {k : Nat} {n d m g : Int} (hk : 200 < k) (h1 : frP n d = true) (h2 : frP m g = true) (hm : m ≠ 0) : impl_DivideFractions k n d m g = some (resF (dvF n d m g)) := by
  obtain ⟨q1, q2, q3, q4, q5⟩ := dv_in h1 h2 hm
  unfold impl_DivideFractions impl_two__DivideFractions_1 impl_DivideFractions_1
  rw [IsFraction_eq hk, IsFraction_eq hk, h1, h2, q1, q2]
  simp only [Option.bind_some, if_true]
  rw [made_eq2 hk q4 q3 q5]
  unfold dvF resF
  simp only [Option.bind_some]
  by_cases h : frP (mkG (n * g) (d * m)).1 (mkG (n * g) (d * m)).2 = true
  · rw [if_pos h]; rfl
  · rw [if_neg h]; rfl
theorem sover_eq {k : Nat} {n d m g : Int} {bad : Bool} (hk : 200 < k) (h1 : frP n d = true) (h2 : frP m g = true) (hm : m ≠ 0) : spec_seChecked_over k bad n d m g = some (if bad = true then (1, 1, true) else if frP (dvF n d m g).1 (dvF n d m g).2 = true then ((dvF n d m g).1, (dvF n d m g).2, false) else (1, 1, true)) := by
  obtain ⟨q1, q2, q3, q4, q5⟩ := dv_in h1 h2 hm
  unfold spec_seChecked_over spec_seChecked_fraction spec_shInt
  rw [q1, q2, shMake_eq2 hk q4 q3 q5]
  simp only [Option.bind_some]
  rw [shGood_eq hk]
  unfold dvF
  cases bad with
  | true => rfl
  | false =>
    simp only [cond_false, Option.bind_some, Bool.false_eq_true, if_false]
    by_cases h : frP (mkG (n * g) (d * m)).1 (mkG (n * g) (d * m)).2 = true
    · rw [if_pos h, if_pos h]; rfl
    · rw [if_neg h, if_neg h]; rfl
/-! ### a term -/
def termS (e : S) (p q : Int) : S := if p = 0 then nil else cons e p q nil
theorem iterm_eq (e : S) (p q : Int) : impl_term e.rowsS p q = some (termS e p q).rowsS := by
  unfold impl_term termS
  by_cases h : p = 0
  · rw [if_pos h, if_pos h]; rfl
  · rw [if_neg h, if_neg h]; rfl
theorem termS_size (e : S) (p q : Int) : (termS e p q).sizeS ≤ e.sizeS + 1 := by
  unfold termS
  split <;> simp [sizeS]
theorem sterm_eq {k : Nat} {e : S} {p q : Int} {bad : Bool} (he : surP e = true) (hk : 40000 < k) : spec_seChecked_term k bad e.rowsS p q = some ((if bad = true then nil else (toldST (termS e p q)).1).rowsS, bad || !(toldST (termS e p q)).2) := by
  have h3 : cap = 1099511627776 := rfl
  have ze := surP_size he
  have zt := termS_size e p q
  have ht : spec_suTerm e.rowsS p q = some (termS e p q).rowsS := by
    unfold spec_suTerm termS
    by_cases h : p = 0
    · rw [if_pos h, if_pos h]; rfl
    · rw [if_neg h, if_neg h]; rfl
  unfold spec_seChecked_term spec_seChecked_keep
  rw [ht]
  simp only [Option.bind_some]
  rw [suIf_eq k _ (by omega) (by omega)]
  simp only [Option.bind_some]
  cases h : (toldST (termS e p q)).2 with
  | true => cases bad <;> rfl
  | false => cases bad <;> (rw [toldST_no h]; rfl)
/-! ### the program's steps on terms that may be wrong -/
def mulX (t y : S) : S × Bool := if surP t = true then mulP t y else (nil, false)
theorem mulX_right (t y : S) : surP (mulX t y).1 = true := by
  unfold mulX
  split
  · exact mulP_right t y
  · exact nil_rightS
theorem imul_g {k : Nat} {t y : S} {bad : Bool} (zt : t.sizeS ≤ 40) (hy : surP y = true) (hk : 40000 < k) : impl_maker_mul k bad t.rowsS y.rowsS = some ((mulX t y).1.rowsS, bad || !(mulX t y).2) := by
  have h3 : cap = 1099511627776 := rfl
  have zy := surP_size hy
  by_cases ht : surP t = true
  · rw [imul_m3 ht hy hk]; unfold mulX; rw [if_pos ht]
  · have hf : surP t = false := by cases h : surP t with | false => rfl | true => exact absurd h ht
    unfold mulX
    rw [if_neg ht]
    unfold impl_maker_mul impl_maker_take_2 impl_MultiplySurreals
    rw [surreals_eq k t y (by omega) (by omega) (by omega) (by omega), hf]
    cases bad <;> rfl
theorem iadd_g {k : Nat} {q t : S} {bad : Bool} (zt : t.sizeS ≤ 40) (hq : surP q = true) (hk : 40000 < k) : impl_maker_add k bad q.rowsS t.rowsS = some ((addST q t).1.rowsS, bad || !(addST q t).2) := by
  have h3 : cap = 1099511627776 := rfl
  have zq := surP_size hq
  unfold impl_maker_add impl_maker_take_2
  rw [iaddS_eq (by omega) (by omega)]
  simp only [Option.bind_some]
  cases (addST q t).2 <;> cases bad <;> rfl
/-- One step: when all goes well, and what it comes to. -/
def okQ (y q r e f : S) (n d m g : Int) : Prop :=
  (subP e f).2 = true ∧ frP (dvF n d m g).1 (dvF n d m g).2 = true ∧ surP (termS (subP e f).1 (dvF n d m g).1 (dvF n d m g).2) = true ∧
  (sumST q (termS (subP e f).1 (dvF n d m g).1 (dvF n d m g).2)).2 = true ∧ (mulP (termS (subP e f).1 (dvF n d m g).1 (dvF n d m g).2) y).2 = true ∧
  (subP r (mulP (termS (subP e f).1 (dvF n d m g).1 (dvF n d m g).2) y).1).2 = true
instance (y q r e f : S) (n d m g : Int) : Decidable (okQ y q r e f n d m g) := by unfold okQ; infer_instance
def quoG (f : S) (m g : Int) (y : S) : Nat → S → S → Option (S × S)
  | 0, q, r => some (q, r)
  | _ + 1, q, nil => some (q, nil)
  | i + 1, q, cons e n d l => if okQ y q (cons e n d l) e f n d m g then quoG f m g y i (sumST q (termS (subP e f).1 (dvF n d m g).1 (dvF n d m g).2)).1 (subP (cons e n d l) (mulP (termS (subP e f).1 (dvF n d m g).1 (dvF n d m g).2) y).1).1 else none
theorem told_pos {x : S} (h : surP x = true) : toldST x = (x, true) := by unfold toldST; rw [if_pos h]
theorem iquo_bad {k : Nat} {y : Rw} {N i : Int} {a b : Rw} {n : Nat} {K : Rw → Rw → Bool → Option (Rw × Rw × Bool)} : impl_maker_divided_l0 k y N K (n + 1) i true a b = K a b true := by
  simp only [impl_maker_divided_l0, cond_true]
  split <;> rfl
theorem iteR {b : Bool} {x : S} (h : surP x = true) : surP (if b = true then nil else x) = true := by
  cases b with
  | true => exact nil_rightS
  | false => exact h
theorem iquo_step {k n : Nat} {f y' q e l : S} {m g c d : Int} {i N : Nat} (hy : surP (cons f m g y') = true) (hq : surP q = true) (hr : surP (cons e c d l) = true) (hk : 40000 < k) (hi : i + 1 ≤ N ∧ N ≤ 12) {K : Rw → Rw → Bool → Option (Rw × Rw × Bool)} :
    impl_maker_divided_l0 k (cons f m g y').rowsS N K (n + 1) i false q.rowsS (cons e c d l).rowsS =
      if frP (dvF c d m g).1 (dvF c d m g).2 = true then
        impl_maker_divided_l0 k (cons f m g y').rowsS N K n ((i + 1 : Nat) : Int) ((((!(subP e f).2) || !(addST q (termS (subP e f).1 (dvF c d m g).1 (dvF c d m g).2)).2) || !(mulX (termS (subP e f).1 (dvF c d m g).1 (dvF c d m g).2) (cons f m g y')).2) || !(subP (cons e c d l) (mulX (termS (subP e f).1 (dvF c d m g).1 (dvF c d m g).2) (cons f m g y')).1).2) (addST q (termS (subP e f).1 (dvF c d m g).1 (dvF c d m g).2)).1.rowsS (subP (cons e c d l) (mulX (termS (subP e f).1 (dvF c d m g).1 (dvF c d m g).2) (cons f m g y')).1).1.rowsS
      else impl_maker_divided_l0 k (cons f m g y').rowsS N K n ((i + 1 : Nat) : Int) true (addST q nil).1.rowsS (subP (cons e c d l) (mulX nil (cons f m g y')).1).1.rowsS := by
  have he := sub_right hr 0 e c d l rfl
  have hf := sub_right hy 0 f m g y' rfl
  have gr := (gd_fallsS hr).1
  have gy := (gd_fallsS hy).1
  have hz : impl_isNothing (cons e c d l).rowsS = some false := by unfold impl_isNothing; rw [if_neg (by rw [lenSI]; simp only [lenS]; omega)]
  have hE := subP_right e f
  have zE := surP_size hE
  have wi : IntKind.i64.wrap ((i : Int) + 1) = ((i + 1 : Nat) : Int) := by rw [wid (by omega) (by omega)]; omega
  have rest : ∀ (b2 : Bool) (p s : Int),
      ((impl_term (subP e f).1.rowsS p s).bind fun y289 => ((impl_maker_add k b2 q.rowsS y289).bind fun y291 => ((impl_maker_mul k y291.2 y289 (cons f m g y').rowsS).bind fun y293 => ((impl_maker_sub k y293.2 (cons e c d l).rowsS y293.1).bind fun y295 => (impl_maker_divided_l0 k (cons f m g y').rowsS N K n (IntKind.i64.wrap ((i : Int) + 1)) y295.2 y291.1 y295.1))))) =
        impl_maker_divided_l0 k (cons f m g y').rowsS N K n ((i + 1 : Nat) : Int) (((b2 || !(addST q (termS (subP e f).1 p s)).2) || !(mulX (termS (subP e f).1 p s) (cons f m g y')).2) || !(subP (cons e c d l) (mulX (termS (subP e f).1 p s) (cons f m g y')).1).2) (addST q (termS (subP e f).1 p s)).1.rowsS (subP (cons e c d l) (mulX (termS (subP e f).1 p s) (cons f m g y')).1).1.rowsS := by
    intro b2 p s
    have zt := termS_size (subP e f).1 p s
    rw [iterm_eq, Option.bind_some, iadd_g (by omega) hq hk, Option.bind_some]
    simp only
    rw [imul_g (by omega) hy hk, Option.bind_some]
    simp only
    rw [isub_m3 hr (mulX_right _ _) hk, Option.bind_some, wi]
  simp only [impl_maker_divided_l0, cond_false]
  rw [if_pos (by omega), hz]
  simp only [Option.bind_some, Bool.false_eq_true, if_false]
  rw [row_S0, row_S0, isub_m3 he hf hk]
  simp only [Option.bind_some]
  rw [idiv_eq (by omega) gr.2.1.1 gy.2.1.1 gy.2.1.2]
  unfold resF
  by_cases hc : frP (dvF c d m g).1 (dvF c d m g).2 = true
  · simp only [if_pos hc, Option.bind_some, if_true]
    have hcoef : impl_maker_coef (false || !(subP e f).2) (dvF c d m g).1 (dvF c d m g).2 true = some ((dvF c d m g).1, (dvF c d m g).2, !(subP e f).2) := by
      unfold impl_maker_coef
      cases (subP e f).2 <;> rfl
    rw [hcoef]
    simp only [Option.bind_some]
    exact rest _ _ _
  · simp only [if_neg hc, Option.bind_some, Bool.false_eq_true, if_false]
    have hcoef : impl_maker_coef (false || !(subP e f).2) 0 0 false = some (0, 0, true) := by
      unfold impl_maker_coef
      cases (subP e f).2 <;> rfl
    rw [hcoef]
    simp only [Option.bind_some]
    rw [rest true 0 0]
    simp only [Bool.true_or]
    rfl
theorem iquo_loop {k : Nat} {f y' : S} {m g : Int} (hy : surP (cons f m g y') = true) (hk : 40000 < k) {K : Rw → Rw → Bool → Option (Rw × Rw × Bool)} (hK : ∀ a b, K a b true = some (a, b, true)) : ∀ (j n i N : Nat) (q r : S), surP q = true → surP r = true → i + j = N → N ≤ 12 → j + 2 < n →
    (match quoG f m g (cons f m g y') j q r with
      | some p => impl_maker_divided_l0 k (cons f m g y').rowsS N K n i false q.rowsS r.rowsS = K p.1.rowsS p.2.rowsS false
      | none => ∃ a b, impl_maker_divided_l0 k (cons f m g y').rowsS N K n i false q.rowsS r.rowsS = some (a, b, true))
  | _, 0, _, _, _, _, _, _, _, _, h => absurd h (by omega)
  | 0, n + 1, i, N, q, r, _, _, hN, _, _ => by
    have e0 : quoG f m g (cons f m g y') 0 q r = some (q, r) := by cases r <;> rfl
    rw [e0]
    simp only [impl_maker_divided_l0, cond_false]
    rw [if_neg (by omega)]
  | j + 1, n + 1, i, N, q, nil, _, _, hN, _, _ => by
    simp only [impl_maker_divided_l0, cond_false, quoG]
    rw [if_pos (by omega)]; rfl
  | j + 1, n + 1, i, N, q, cons e c d l, hq, hr, hN, hM, hn => by
    have step := iquo_step (K := K) (n := n) (i := i) (N := N) hy hq hr hk ⟨by omega, hM⟩
    obtain ⟨n, rfl⟩ : ∃ n', n = n' + 1 := ⟨n - 1, by omega⟩
    have badK : ∀ a b : Rw, impl_maker_divided_l0 k (cons f m g y').rowsS N K (n + 1) ((i + 1 : Nat) : Int) true a b = some (a, b, true) := fun a b => by rw [iquo_bad, hK]
    rw [step]
    by_cases ok : okQ (cons f m g y') q (cons e c d l) e f c d m g
    · have hG : quoG f m g (cons f m g y') (j + 1) q (cons e c d l) = quoG f m g (cons f m g y') j (sumST q (termS (subP e f).1 (dvF c d m g).1 (dvF c d m g).2)).1 (subP (cons e c d l) (mulP (termS (subP e f).1 (dvF c d m g).1 (dvF c d m g).2) (cons f m g y')).1).1 := by simp only [quoG, if_pos ok]
      obtain ⟨k1, k2, k3, k4, k5, k6⟩ := ok
      have ih := iquo_loop hy hk hK j (n + 1) (i + 1) N (sumST q (termS (subP e f).1 (dvF c d m g).1 (dvF c d m g).2)).1 (subP (cons e c d l) (mulP (termS (subP e f).1 (dvF c d m g).1 (dvF c d m g).2) (cons f m g y')).1).1 (sumST_right2 _ _) (subP_right _ _) (by omega) hM (by omega)
      have e1 : addST q (termS (subP e f).1 (dvF c d m g).1 (dvF c d m g).2) = sumST q (termS (subP e f).1 (dvF c d m g).1 (dvF c d m g).2) := by unfold addST; rw [hq, k3]; rfl
      have e2 : mulX (termS (subP e f).1 (dvF c d m g).1 (dvF c d m g).2) (cons f m g y') = mulP (termS (subP e f).1 (dvF c d m g).1 (dvF c d m g).2) (cons f m g y') := by unfold mulX; rw [if_pos k3]
      rw [hG, if_pos k2, e1, e2, k1, k4, k5, k6]
      exact ih
    · have hG : quoG f m g (cons f m g y') (j + 1) q (cons e c d l) = none := by simp only [quoG, if_neg ok]
      rw [hG]
      by_cases hc : frP (dvF c d m g).1 (dvF c d m g).2 = true
      · rw [if_pos hc]
        have hb : ((((!(subP e f).2) || !(addST q (termS (subP e f).1 (dvF c d m g).1 (dvF c d m g).2)).2) || !(mulX (termS (subP e f).1 (dvF c d m g).1 (dvF c d m g).2) (cons f m g y')).2) || !(subP (cons e c d l) (mulX (termS (subP e f).1 (dvF c d m g).1 (dvF c d m g).2) (cons f m g y')).1).2) = true := by
          unfold okQ at ok
          generalize termS (subP e f).1 (dvF c d m g).1 (dvF c d m g).2 = t at ok ⊢
          cases k1 : (subP e f).2 with
          | false => rfl
          | true =>
            by_cases k3 : surP t = true
            · have e1 : addST q t = sumST q t := by unfold addST; rw [hq, k3]; rfl
              have e2 : mulX t (cons f m g y') = mulP t (cons f m g y') := by unfold mulX; rw [if_pos k3]
              rw [e1, e2]
              cases k4 : (sumST q t).2 with
              | false => rfl
              | true =>
                cases k5 : (mulP t (cons f m g y')).2 with
                | false => rfl
                | true =>
                  cases k6 : (subP (cons e c d l) (mulP t (cons f m g y')).1).2 with
                  | false => rfl
                  | true => exact absurd ⟨k1, hc, k3, k4, k5, k6⟩ ok
            · have e1 : (addST q t).2 = false := by
                unfold addST
                rw [show surP t = false by cases h : surP t with | false => rfl | true => exact absurd h k3, Bool.and_false]; rfl
              rw [e1]; simp
        rw [hb]
        exact ⟨_, _, badK _ _⟩
      · rw [if_neg hc]
        exact ⟨_, _, badK _ _⟩
theorem squo_bad {k : Nat} {y : Rw} {N : Int} {a b : S} {n : Nat} {K : Rw → Rw → Bool → Option (Rw × Rw × Bool)} : spec_seQuotient_l0 k y K (n + 1) N a.rowsS b.rowsS true = K a.rowsS b.rowsS true := by
  simp only [spec_seQuotient_l0, cond_true]
  unfold spec_suZero
  split
  · split <;> rfl
  · rfl
theorem squo_step {k n j : Nat} {f y' q e l : S} {m g c d : Int} (hy : surP (cons f m g y') = true) (hq : surP q = true) (hr : surP (cons e c d l) = true) (hk : 40000 < k) (hj : j + 1 ≤ 12) {K : Rw → Rw → Bool → Option (Rw × Rw × Bool)} :
    ∃ (Q R : S) (b : Bool), spec_seQuotient_l0 k (cons f m g y').rowsS K (n + 1) ((j + 1 : Nat) : Int) q.rowsS (cons e c d l).rowsS false = spec_seQuotient_l0 k (cons f m g y').rowsS K n (j : Int) Q.rowsS R.rowsS b ∧
      (okQ (cons f m g y') q (cons e c d l) e f c d m g → b = false ∧ Q = (sumST q (termS (subP e f).1 (dvF c d m g).1 (dvF c d m g).2)).1 ∧ R = (subP (cons e c d l) (mulP (termS (subP e f).1 (dvF c d m g).1 (dvF c d m g).2) (cons f m g y')).1).1) ∧
      (¬ okQ (cons f m g y') q (cons e c d l) e f c d m g → b = true) := by
  have he := sub_right hr 0 e c d l rfl
  have hf := sub_right hy 0 f m g y' rfl
  have gr := (gd_fallsS hr).1
  have gy := (gd_fallsS hy).1
  have hz : spec_suZero (cons e c d l).rowsS = some false := by unfold spec_suZero; rw [if_neg (by rw [lenSI]; simp only [lenS]; omega)]
  have hE := subP_right e f
  have wj : IntKind.i64.wrap (((j + 1 : Nat) : Int) - 1) = (j : Int) := by rw [wid (by omega) (by omega)]; omega
  have rest : ∀ (b2 : Bool) (p s : Int), ∃ (T Q M R : S) (b3 : Bool), T = (if b2 = true then nil else (toldST (termS (subP e f).1 p s)).1) ∧ b3 = (b2 || !(toldST (termS (subP e f).1 p s)).2) ∧ Q = (if b3 = true then nil else (sumST q T).1) ∧ M = (if (b3 || !(sumST q T).2) = true then nil else (mulP T (cons f m g y')).1) ∧ R = (if ((b3 || !(sumST q T).2) || !(mulP T (cons f m g y')).2) = true then nil else (subP (cons e c d l) M).1) ∧
      ((spec_seChecked_term k b2 (subP e f).1.rowsS p s).bind fun y211 => ((spec_seChecked_add k y211.2 q.rowsS y211.1).bind fun y213 => ((spec_seChecked_mul k y213.2 y211.1 (cons f m g y').rowsS).bind fun y215 => ((spec_seChecked_sub k y215.2 (cons e c d l).rowsS y215.1).bind fun y217 => (spec_seQuotient_l0 k (cons f m g y').rowsS K n (j : Int) y213.1 y217.1 y217.2))))) =
        spec_seQuotient_l0 k (cons f m g y').rowsS K n (j : Int) Q.rowsS R.rowsS (((b3 || !(sumST q T).2) || !(mulP T (cons f m g y')).2) || !(subP (cons e c d l) M).2) := by
    intro b2 p s
    refine ⟨_, _, _, _, _, rfl, rfl, rfl, rfl, rfl, ?_⟩
    have hT : surP (if b2 = true then nil else (toldST (termS (subP e f).1 p s)).1) = true := by
      split
      · exact nil_rightS
      · exact toldST_right _
    rw [sterm_eq hE hk, Option.bind_some]
    simp only
    rw [sadd_m hq hT hk, Option.bind_some]
    simp only
    rw [smul_b hT hy hk, Option.bind_some]
    simp only
    rw [ssub_m3 hr (iteR (mulP_right _ _)) hk, Option.bind_some]
  simp only [spec_seQuotient_l0, cond_false]
  rw [if_pos (by omega), hz]
  simp only [Option.bind_some, Bool.false_eq_true, if_false]
  rw [row_S0, row_S0, ssub_m3 he hf hk]
  simp only [Option.bind_some, Bool.false_eq_true, if_false, Bool.false_or]
  rw [sover_eq (by omega) gr.2.1.1 gy.2.1.1 gy.2.1.2, wj]
  simp only [Option.bind_some]
  cases k1 : (subP e f).2 with
  | false =>
    simp only [Bool.not_false, if_true]
    obtain ⟨T, Q, M, R, b3, _, hb3, _, _, _, hrest⟩ := rest true 1 1
    refine ⟨Q, R, _, hrest, fun ok => ?_, fun _ => ?_⟩
    · have := ok.1; rw [k1] at this; cases this
    · rw [hb3]; simp only [Bool.true_or]
  | true =>
    simp only [Bool.not_true, Bool.false_eq_true, if_false]
    by_cases hc : frP (dvF c d m g).1 (dvF c d m g).2 = true
    · simp only [if_pos hc]
      obtain ⟨T, Q, M, R, b3, hT, hb3, hQ, hM2, hR, hrest⟩ := rest false (dvF c d m g).1 (dvF c d m g).2
      refine ⟨Q, R, _, hrest, ?_, ?_⟩
      · rintro ⟨_, _, k3, k4, k5, k6⟩
        simp only [Bool.false_eq_true, if_false, Bool.false_or] at hT hb3
        rw [told_pos k3] at hT hb3
        simp only [Bool.not_true] at hT hb3
        subst hb3
        subst hT
        rw [k4] at hM2 hR ⊢
        rw [k5] at hR ⊢
        simp only [Bool.not_true, Bool.or_false, Bool.false_eq_true, if_false] at hQ hM2 hR ⊢
        subst hM2
        rw [k6]
        exact ⟨rfl, hQ, hR⟩
      · intro nok
        simp only [Bool.false_eq_true, if_false, Bool.false_or] at hT hb3
        unfold okQ at nok
        by_cases k3 : surP (termS (subP e f).1 (dvF c d m g).1 (dvF c d m g).2) = true
        · rw [told_pos k3] at hT hb3
          simp only [Bool.not_true] at hT hb3
          subst hb3
          rw [← hT] at nok
          cases k4 : (sumST q T).2 with
          | false => rfl
          | true =>
            cases k5 : (mulP T (cons f m g y')).2 with
            | false => rfl
            | true =>
              rw [k4] at hM2
              simp only [Bool.not_true, Bool.or_false, Bool.false_eq_true, if_false] at hM2
              subst hM2
              cases k6 : (subP (cons e c d l) (mulP T (cons f m g y')).1).2 with
              | false => rfl
              | true => exact absurd ⟨k1, hc, by rw [hT]; exact k3, k4, k5, k6⟩ nok
        · have hno : (toldST (termS (subP e f).1 (dvF c d m g).1 (dvF c d m g).2)).2 = false := by unfold toldST; rw [if_neg k3]
          rw [hno] at hb3
          rw [hb3]
          simp only [Bool.not_false, Bool.true_or]
    · simp only [if_neg hc]
      obtain ⟨T, Q, M, R, b3, _, hb3, _, _, _, hrest⟩ := rest true 1 1
      refine ⟨Q, R, _, hrest, fun ok => absurd ok.2.1 hc, fun _ => ?_⟩
      rw [hb3]; simp only [Bool.true_or]
theorem squo_loop {k : Nat} {f y' : S} {m g : Int} (hy : surP (cons f m g y') = true) (hk : 40000 < k) {K : Rw → Rw → Bool → Option (Rw × Rw × Bool)} (hK : ∀ a b, K a b true = some (a, b, false)) : ∀ (j n : Nat) (q r : S), surP q = true → surP r = true → j ≤ 12 → j + 2 < n →
    (match quoG f m g (cons f m g y') j q r with
      | some p => spec_seQuotient_l0 k (cons f m g y').rowsS K n j q.rowsS r.rowsS false = K p.1.rowsS p.2.rowsS false
      | none => ∃ a b, spec_seQuotient_l0 k (cons f m g y').rowsS K n j q.rowsS r.rowsS false = some (a, b, false))
  | _, 0, _, _, _, _, _, h => absurd h (by omega)
  | 0, n + 1, q, r, _, _, _, _ => by
    have e0 : quoG f m g (cons f m g y') 0 q r = some (q, r) := by cases r <;> rfl
    rw [e0]
    simp only [spec_seQuotient_l0, cond_false]
    rw [if_neg (by omega)]
  | j + 1, n + 1, q, nil, _, _, _, _ => by
    simp only [spec_seQuotient_l0, cond_false, quoG]
    rw [if_pos (by omega)]; rfl
  | j + 1, n + 1, q, cons e c d l, hq, hr, hM, hn => by
    obtain ⟨Q, R, b, step, s1, s2⟩ := squo_step (K := K) (n := n) (j := j) hy hq hr hk hM
    obtain ⟨n, rfl⟩ : ∃ n', n = n' + 1 := ⟨n - 1, by omega⟩
    rw [step]
    by_cases ok : okQ (cons f m g y') q (cons e c d l) e f c d m g
    · have hG : quoG f m g (cons f m g y') (j + 1) q (cons e c d l) = quoG f m g (cons f m g y') j (sumST q (termS (subP e f).1 (dvF c d m g).1 (dvF c d m g).2)).1 (subP (cons e c d l) (mulP (termS (subP e f).1 (dvF c d m g).1 (dvF c d m g).2) (cons f m g y')).1).1 := by simp only [quoG, if_pos ok]
      obtain ⟨rfl, rfl, rfl⟩ := s1 ok
      rw [hG]
      exact squo_loop hy hk hK j (n + 1) _ _ (sumST_right2 _ _) (subP_right _ _) (by omega) (by omega)
    · have hG : quoG f m g (cons f m g y') (j + 1) q (cons e c d l) = none := by simp only [quoG, if_neg ok]
      rw [hG, s2 ok]
      exact ⟨_, _, by rw [squo_bad, hK]⟩
theorem quo_right {f y : S} {m g : Int} : ∀ (j : Nat) (q r : S) (p : S × S), surP q = true → surP r = true → quoG f m g y j q r = some p → surP p.1 = true ∧ surP p.2 = true
  | 0, q, r, p, hq, hr, h => by cases r <;> (simp only [quoG, Option.some.injEq] at h; rw [← h]; exact ⟨hq, hr⟩)
  | j + 1, q, nil, p, hq, hr, h => by simp only [quoG, Option.some.injEq] at h; rw [← h]; exact ⟨hq, hr⟩
  | j + 1, q, cons e c d l, p, hq, hr, h => by
    simp only [quoG] at h
    split at h
    · exact quo_right j _ _ p (sumST_right2 _ _) (subP_right _ _) h
    · cases h
theorem in_twelve (n : Int) : impl_stepsOk n = some (decide (0 ≤ n) && decide (n ≤ 12)) ∧ spec_seSteps n = some (decide (0 ≤ n) && decide (n ≤ 12)) := by
  unfold impl_stepsOk spec_seSteps
  rw [iIn_eq, sIn_eq]
  simp only [Option.bind_some]
  cases (decide (0 ≤ n) && decide (n ≤ 12)) <;> exact ⟨rfl, rfl⟩
theorem quo_both {k : Nat} {x y : S} {n : Int} (hk : 40000 < k) (kx : x.sizeS + 300 < k) (cx : x.sizeS ≤ cap) (ky : y.sizeS + 300 < k) (cy : y.sizeS ≤ cap) : ∃ (r s : S) (ok : Bool), impl_QuotientTerms k x.rowsS y.rowsS n = some (r.rowsS, s.rowsS, ok) ∧ spec_QuotientTerms k x.rowsS y.rowsS n = some (r.rowsS, s.rowsS, ok) ∧ r.sizeS ≤ 30 ∧ s.sizeS ≤ 30 := by
  have h3 : cap = 1099511627776 := rfl
  have no : ∃ (r s : S) (ok : Bool), some (([] : Rw), ([] : Rw), false) = some (r.rowsS, s.rowsS, ok) ∧ some (([] : Rw), ([] : Rw), false) = some (r.rowsS, s.rowsS, ok) ∧ r.sizeS ≤ 30 ∧ s.sizeS ≤ 30 := ⟨.nil, .nil, false, rfl, rfl, by simp [sizeS], by simp [sizeS]⟩
  unfold impl_QuotientTerms spec_QuotientTerms
  rw [surreals_eq k x y kx ky cx cy, suGood_all k x kx cx, suGood_all k y ky cy]
  simp only [Option.bind_some]
  cases hx : surP x with
  | false => exact no
  | true =>
    cases hy : surP y with
    | false => exact no
    | true =>
      simp only [Bool.and_self, if_true]
      cases y with
      | nil => exact no
      | cons f m g y' =>
        have z1 : impl_isNothing (cons f m g y').rowsS = some false := by unfold impl_isNothing; rw [if_neg (by rw [lenSI]; simp only [lenS]; omega)]
        have z2 : spec_suZero (cons f m g y').rowsS = some false := by unfold spec_suZero; rw [if_neg (by rw [lenSI]; simp only [lenS]; omega)]
        rw [z1, z2]
        simp only [Option.bind_some, Bool.false_eq_true, if_false]
        rw [(in_twelve n).1, (in_twelve n).2]
        simp only [Option.bind_some]
        cases hn : (decide (0 ≤ n) && decide (n ≤ 12)) with
        | false => exact no
        | true =>
          simp only [Bool.and_eq_true, decide_eq_true_eq] at hn
          obtain ⟨j, rfl⟩ : ∃ j : Nat, n = j := ⟨n.toNat, by omega⟩
          simp only [if_true]
          have zx := surP_size hx
          have g1 := iquo_loop (k := k) hy hk (K := fun v189 v190 v227 => (cond v227 (impl_maker_divided_p3 v189 v190 true) (impl_maker_divided_p3 v189 v190 false))) (fun a b => rfl) j k 0 j nil x nil_rightS hx (by omega) (by omega) (by omega)
          have g2 := squo_loop (k := k) hy hk (K := fun v134 v135 v162 => (cond v162 (spec_seQuotient_p4 v134 v135 true) (spec_seQuotient_p4 v134 v135 false))) (fun a b => rfl) j k nil x nil_rightS hx (by omega) (by omega)
          have e1 : impl_maker_divided k false x.rowsS (cons f m g y').rowsS j = impl_maker_divided_l0 k (cons f m g y').rowsS j (fun v189 v190 v227 => (cond v227 (impl_maker_divided_p3 v189 v190 true) (impl_maker_divided_p3 v189 v190 false))) k ((0 : Nat) : Int) false nil.rowsS x.rowsS := by
            unfold impl_maker_divided
            simp only [cond_false]
            rw [sclone_eq k x (by omega) (by omega)]; rfl
          unfold spec_QuotientTerms_p2
          have e2 : spec_seQuotient k x.rowsS (cons f m g y').rowsS j = spec_seQuotient_l0 k (cons f m g y').rowsS (fun v134 v135 v162 => (cond v162 (spec_seQuotient_p4 v134 v135 true) (spec_seQuotient_p4 v134 v135 false))) k j nil.rowsS x.rowsS false := rfl
          rw [e1, e2]
          cases hp : quoG f m g (cons f m g y') j nil x with
          | none =>
            rw [hp] at g1 g2
            obtain ⟨a, b, g1⟩ := g1
            obtain ⟨a', b', g2⟩ := g2
            rw [g1, g2]
            exact no
          | some p =>
            rw [hp] at g1 g2
            obtain ⟨r1, r2⟩ := quo_right _ _ _ _ nil_rightS hx hp
            have q1 := surP_size r1
            have q2 := surP_size r2
            rw [g1, g2]
            refine ⟨p.1, p.2, true, rfl, ?_, q1, q2⟩
            show spec_QuotientTerms_p3 k p.1.rowsS p.2.rowsS true = _
            unfold spec_QuotientTerms_p3
            simp only [cond_true]
            rw [sown_eq k _ (by omega) (by omega), Option.bind_some, sown_eq k _ (by omega) (by omega)]
            rfl
end Go.Proofs.Try

namespace Go.Proofs.Try
open Go Go.AX S
theorem exq_both {k : Nat} {x y : S} (hk : 40000 < k) (kx : x.sizeS + 300 < k) (cx : x.sizeS ≤ cap) (ky : y.sizeS + 300 < k) (cy : y.sizeS ≤ cap) : ∃ (r : S) (ok : Bool), impl_ExactQuotient k x.rowsS y.rowsS = some (r.rowsS, ok) ∧ spec_ExactQuotient k x.rowsS y.rowsS = some (r.rowsS, ok) ∧ r.sizeS ≤ 30 := by
  obtain ⟨r, s, ok, e1, e2, z1, _⟩ := quo_both (k := k) (x := x) (y := y) (n := 12) hk kx cx ky cy
  unfold impl_ExactQuotient spec_ExactQuotient
  rw [e1, e2]
  simp only [Option.bind_some]
  cases ok with
  | false => exact ⟨nil, false, rfl, rfl, by simp [sizeS]⟩
  | true =>
    simp only [if_true]
    unfold impl_isNothing spec_suZero
    by_cases h : ((s.rowsS.length : Nat) : Int) = 0
    · simp only [if_pos h, Option.bind_some, if_true]
      exact ⟨r, true, rfl, rfl, z1⟩
    · simp only [if_neg h, Option.bind_some, Bool.false_eq_true, if_false]
      exact ⟨nil, false, rfl, rfl, by simp [sizeS]⟩
end Go.Proofs.Try
