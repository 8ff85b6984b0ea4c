/- What the printed functions compute: plain data. -/
import Derived.Test.YtnphoocghfgjcaaTorG1
set_option linter.unusedVariables false
set_option linter.unusedSimpArgs false
namespace Go.Proofs.Try
open Go Go.AX

theorem wid {n : Int} (h1 : -9223372036854775808 ≤ n) (h2 : n < 9223372036854775808) : IntKind.i64.wrap n = n := wrap_in h1 h2
/-- An ordinal: its terms, exponents and coefficients. -/
inductive T where
  | nil
  | cons (e : T) (c : Int) (l : T)
namespace T
def rows : T → Rw
  | nil => []
  | cons e c l => [.sl (rows e), .int .i64 c] :: rows l
def size : T → Nat
  | nil => 0
  | cons e _ l => size e + size l + 1
def len : T → Nat
  | nil => 0
  | cons _ _ l => len l + 1
def drop : T → Nat → T
  | t, 0 => t
  | nil, _ + 1 => nil
  | cons _ _ l, n + 1 => drop l n
def app : T → T → T
  | nil, b => b
  | cons e c l, b => cons e c (app l b)
@[simp] theorem drop_zero (t : T) : drop t 0 = t := by cases t <;> rfl
@[simp] theorem drop_nil (n : Nat) : drop nil n = nil := by cases n <;> rfl
@[simp] theorem rows_len (t : T) : (rows t).length = len t := by
  induction t with
  | nil => rfl
  | cons e c l _ ih => simp [rows, len, ih]
theorem len_size (t : T) : len t ≤ size t := by
  induction t with
  | nil => simp [len]
  | cons e c l _ ih => simp [len, size]; omega
@[simp] theorem rows_app (a b : T) : rows (app a b) = rows a ++ rows b := by
  induction a with
  | nil => rfl
  | cons e c l _ ih => simp [app, rows, ih]
theorem rows_drop (t : T) (i : Nat) : rows (drop t i) = (rows t).drop i := by
  induction t generalizing i with
  | nil => cases i <;> simp [drop, rows]
  | cons e c l _ ih => cases i with
    | zero => simp [drop]
    | succ i => simp [drop, rows, ih]
theorem rowsWide (t : T) : ∀ cs ∈ rows t, cs.length = 2 := by
  induction t with
  | nil => intro cs h; cases h
  | cons e c l _ ih =>
    intro cs h
    simp only [rows, List.mem_cons] at h
    rcases h with rfl | h
    · rfl
    · exact ih cs h
theorem rowsWide_drop (t : T) (i : Nat) : ∀ cs ∈ (rows t).drop i, cs.length = 2 := fun cs h => rowsWide t cs (List.mem_of_mem_drop h)
theorem drop_len (t : T) (i : Nat) : len (drop t i) = len t - i := by rw [← rows_len, rows_drop, List.length_drop, rows_len]
theorem drop_succ {t : T} {i : Nat} {e : T} {c : Int} {l : T} (h : drop t i = cons e c l) : drop t (i + 1) = l := by
  induction t generalizing i with
  | nil => simp at h
  | cons e' c' l' _ ih =>
    cases i with
    | zero => simp only [drop, cons.injEq] at h ⊢; simp [h.2.2]
    | succ i => exact ih h
theorem drop_size {t : T} {i : Nat} : size (drop t i) ≤ size t := by
  induction t generalizing i with
  | nil => simp
  | cons e c l _ ih =>
    cases i with
    | zero => simp
    | succ i => simp only [drop, size]; have := ih (i := i); omega
theorem drop_cons_size {t : T} {i : Nat} {e : T} {c : Int} {l : T} (h : drop t i = cons e c l) : size e + size l + 1 ≤ size t := by
  have := drop_size (t := t) (i := i); rw [h] at this; exact this
theorem drop_lt {t : T} {i : Nat} {e : T} {c : Int} {l : T} (h : drop t i = cons e c l) : i < len t := by
  have := drop_len t i; rw [h] at this; simp only [len] at this; omega
theorem drop_ge {t : T} {i : Nat} (h : drop t i = nil) : len t ≤ i := by
  have := drop_len t i; rw [h] at this; simp only [len] at this; omega
theorem drop_of_ge {t : T} {i : Nat} (h : len t ≤ i) : drop t i = nil := by
  have := drop_len t i
  cases hd : drop t i with
  | nil => rfl
  | cons e c l => rw [hd] at this; simp only [len] at this; omega
theorem rows_get {t : T} {i : Nat} {e : T} {c : Int} {l : T} (h : drop t i = cons e c l) : (rows t)[i]? = some [.sl (rows e), .int .i64 c] := by
  have := rows_drop t i
  rw [h] at this
  have h2 : ((rows t).drop i)[0]? = some [.sl (rows e), .int .i64 c] := by rw [← this]; rfl
  rwa [List.getElem?_drop, Nat.add_zero] at h2
@[simp] theorem app_nil (t : T) : app t nil = t := by
  induction t with
  | nil => rfl
  | cons e c l _ ih => simp [app, ih]
theorem app_assoc (a b c : T) : app (app a b) c = app a (app b c) := by
  induction a with
  | nil => rfl
  | cons e k l _ ih => simp [app, ih]
theorem size_app (a b : T) : (app a b).size = a.size + b.size := by
  induction a with
  | nil => simp [app, size]
  | cons e c l _ ih => simp [app, size, ih]; omega
theorem len_app (a b : T) : (app a b).len = a.len + b.len := by
  induction a with
  | nil => simp [app, len]
  | cons e c l _ ih => simp [app, len, ih]; omega
theorem rows_inj : ∀ {a b : T}, rows a = rows b → a = b
  | nil, nil, _ => rfl
  | nil, cons _ _ _, h => by simp [rows] at h
  | cons _ _ _, nil, h => by simp [rows] at h
  | cons e c l, cons f d m, h => by
    simp only [rows, List.cons.injEq, D.sl.injEq, D.int.injEq, true_and, and_true] at h
    obtain ⟨⟨h1, h2⟩, h3⟩ := h
    rw [rows_inj h1, h2, rows_inj h3]
end T
open T
theorem row_rows {α : Type} {t : T} {i : Int} {n : Nat} (hi : i = n) {e : T} {c : Int} {l : T} (h : drop t n = cons e c l) (F : Rw → List D → Option α) : (if 0 ≤ i then (match (rows t)[i.toNat]? with | some cs => F (rows t) cs | none => none) else none) = F (rows t) [.sl (rows e), .int .i64 c] := by
  subst hi
  rw [if_pos (by omega), Int.toNat_natCast, rows_get h]

/-! ### the order -/
def cmpI (a b : Int) : Int := if a < b then -1 else if b < a then 1 else 0
def cmpT : T → T → Int
  | nil, nil => 0
  | nil, cons _ _ _ => -1
  | cons _ _ _, nil => 1
  | cons e c l, cons f d m => if cmpT e f = 0 then (if cmpI c d = 0 then cmpT l m else cmpI c d) else cmpT e f
theorem cmpI_refl (a : Int) : cmpI a a = 0 := by simp [cmpI]
theorem cmpI_eq {a b : Int} : cmpI a b = 0 ↔ a = b := by unfold cmpI; split <;> (try split) <;> simp <;> omega
theorem cmpI_neg (a b : Int) : cmpI b a = - cmpI a b := by unfold cmpI; split <;> split <;> (try split) <;> omega
theorem cmpT_range (a b : T) : cmpT a b = -1 ∨ cmpT a b = 0 ∨ cmpT a b = 1 := by
  induction a generalizing b with
  | nil => cases b <;> simp [cmpT]
  | cons e c l ihe ihl =>
    cases b with
    | nil => simp [cmpT]
    | cons f d m =>
      simp only [cmpT]
      split
      · split
        · exact ihl m
        · unfold cmpI; split <;> (try split) <;> simp
      · exact ihe f
theorem cmpT_refl (a : T) : cmpT a a = 0 := by
  induction a with
  | nil => rfl
  | cons e c l ihe ihl => simp [cmpT, ihe, ihl, cmpI_refl]
theorem cmpT_eq {a b : T} : cmpT a b = 0 ↔ a = b := by
  induction a generalizing b with
  | nil => cases b <;> simp [cmpT]
  | cons e c l ihe ihl =>
    cases b with
    | nil => simp [cmpT]
    | cons f d m =>
      simp only [cmpT, cons.injEq]
      constructor
      · intro h
        split at h
        · rename_i h1
          split at h
          · rename_i h2; exact ⟨ihe.1 h1, cmpI_eq.1 h2, ihl.1 h⟩
          · rename_i h2; exact absurd h h2
        · rename_i h1; exact absurd h h1
      · rintro ⟨rfl, rfl, rfl⟩
        rw [if_pos (cmpT_refl e), if_pos (cmpI_refl c)]; exact cmpT_refl l
theorem cmpT_neg (a b : T) : cmpT b a = - cmpT a b := by
  induction a generalizing b with
  | nil => cases b <;> simp [cmpT]
  | cons e c l ihe ihl =>
    cases b with
    | nil => simp [cmpT]
    | cons f d m =>
      simp only [cmpT, ihe f, ihl m, cmpI_neg c d]
      split <;> split <;> (try split) <;> (try split) <;> omega
theorem cmpI_trans {a b c : Int} (h1 : cmpI a b < 0) (h2 : cmpI b c < 0) : cmpI a c < 0 := by
  unfold cmpI at *
  split at h1 <;> (try split at h1) <;> split at h2 <;> (try split at h2) <;> split <;> (try split) <;> omega
theorem cmpT_trans {a b c : T} (h1 : cmpT a b < 0) (h2 : cmpT b c < 0) : cmpT a c < 0 := by
  induction a generalizing b c with
  | nil =>
    cases b with
    | nil => simp [cmpT] at h1
    | cons f d m => cases c with
      | nil => simp [cmpT] at h2
      | cons g k n => simp [cmpT]
  | cons e x l ihe ihl =>
    cases b with
    | nil => simp [cmpT] at h1
    | cons f y m =>
      cases c with
      | nil => simp [cmpT] at h2
      | cons g z n =>
        simp only [cmpT] at h1 h2 ⊢
        by_cases q1 : cmpT e f = 0
        · rw [if_pos q1] at h1
          obtain rfl := cmpT_eq.1 q1
          by_cases q2 : cmpT e g = 0
          · rw [if_pos q2] at h2 ⊢
            by_cases q3 : cmpI x y = 0
            · rw [if_pos q3] at h1
              obtain rfl := cmpI_eq.1 q3
              by_cases q4 : cmpI x z = 0
              · rw [if_pos q4] at h2 ⊢; exact ihl h1 h2
              · rw [if_neg q4] at h2 ⊢; exact h2
            · rw [if_neg q3] at h1
              by_cases q4 : cmpI y z = 0
              · rw [if_pos q4] at h2
                obtain rfl := cmpI_eq.1 q4
                rw [if_neg q3]; exact h1
              · rw [if_neg q4] at h2
                have := cmpI_trans h1 h2
                rw [if_neg (by omega)]; exact this
          · rw [if_neg q2] at h2 ⊢; exact h2
        · rw [if_neg q1] at h1
          by_cases q2 : cmpT f g = 0
          · obtain rfl := cmpT_eq.1 q2
            rw [if_neg q1]; exact h1
          · rw [if_neg q2] at h2
            have := ihe h1 h2
            rw [if_neg (by omega)]; exact this

/-! ### what is right -/
def nodesL : T → Nat
  | nil => 0
  | cons e _ l => 2 + nodesL e + nodesL l
def dp : T → Nat
  | nil => 0
  | cons e _ l => max (1 + dp e) (dp l)
/-- Coefficients in their range, exponents that fall; p: the exponent ahead. -/
def formA : Option T → T → Bool
  | _, nil => true
  | p, cons e c l => decide (1 ≤ c) && decide (c ≤ 1000000) && formA none e && (match p with | none => true | some q => decide (0 < cmpT q e)) && formA (some e) l
def ordP (t : T) : Bool := decide (1 + nodesL t ≤ 60) && decide (dp t ≤ 6) && formA none t
theorem nodes_size (t : T) : nodesL t = 2 * size t := by
  induction t with
  | nil => rfl
  | cons e c l ihe ihl => simp only [nodesL, size, ihe, ihl]; omega
theorem ordP_size {t : T} (h : ordP t = true) : size t ≤ 30 := by
  simp only [ordP, Bool.and_eq_true, decide_eq_true_eq] at h
  have := nodes_size t
  omega
end Go.Proofs.Try

namespace Go.Proofs.Try
theorem bind_of {α β : Type} {o : Option α} {y : α} {K : α → Option β} {r : Option β} (h : o = some y) (hk : K y = r) : o.bind K = r := by rw [h]; exact hk
theorem ite_pos {α : Type} {c : Prop} [Decidable c] {a b r : α} (h : c) (hk : a = r) : (if c then a else b) = r := by rw [if_pos h]; exact hk
theorem ite_neg {α : Type} {c : Prop} [Decidable c] {a b r : α} (h : ¬ c) (hk : b = r) : (if c then a else b) = r := by rw [if_neg h]; exact hk
theorem cond_tt {α : Type} {a b r : α} (h : a = r) : cond true a b = r := h
theorem cond_ff {α : Type} {a b r : α} (h : b = r) : cond false a b = r := h
end Go.Proofs.Try

namespace Go.Proofs.Try
open Go Go.AX
/-- A surreal number: its terms, exponents and coefficients (fractions). -/
inductive S where
  | nil
  | cons (e : S) (c c₂ : Int) (l : S)
namespace S
def rowsS : S → Rw
  | nil => []
  | cons e c c₂ l => [.sl (rowsS e), .int .i64 c, .int .i64 c₂] :: rowsS l
def sizeS : S → Nat
  | nil => 0
  | cons e _ _ l => sizeS e + sizeS l + 1
def lenS : S → Nat
  | nil => 0
  | cons _ _ _ l => lenS l + 1
def dropS : S → Nat → S
  | t, 0 => t
  | nil, _ + 1 => nil
  | cons _ _ _ l, n + 1 => dropS l n
def appS : S → S → S
  | nil, b => b
  | cons e c c₂ l, b => cons e c c₂ (appS l b)
@[simp] theorem drop_zeroS (t : S) : dropS t 0 = t := by cases t <;> rfl
@[simp] theorem drop_nilS (n : Nat) : dropS nil n = nil := by cases n <;> rfl
@[simp] theorem rowsS_len (t : S) : (rowsS t).length = lenS t := by
  induction t with
  | nil => rfl
  | cons e c c₂ l _ ih => simp [rowsS, lenS, ih]
theorem len_sizeS (t : S) : lenS t ≤ sizeS t := by
  induction t with
  | nil => simp [lenS]
  | cons e c c₂ l _ ih => simp [lenS, sizeS]; omega
@[simp] theorem rows_appS (a b : S) : rowsS (appS a b) = rowsS a ++ rowsS b := by
  induction a with
  | nil => rfl
  | cons e c c₂ l _ ih => simp [appS, rowsS, ih]
theorem rows_dropS (t : S) (i : Nat) : rowsS (dropS t i) = (rowsS t).drop i := by
  induction t generalizing i with
  | nil => cases i <;> simp [dropS, rowsS]
  | cons e c c₂ l _ ih => cases i with
    | zero => simp [dropS]
    | succ i => simp [dropS, rowsS, ih]
theorem rowsWideS (t : S) : ∀ cs ∈ rowsS t, cs.length = 3 := by
  induction t with
  | nil => intro cs h; cases h
  | cons e c c₂ l _ ih =>
    intro cs h
    simp only [rowsS, List.mem_cons] at h
    rcases h with rfl | h
    · rfl
    · exact ih cs h
theorem rowsWide_dropS (t : S) (i : Nat) : ∀ cs ∈ (rowsS t).drop i, cs.length = 3 := fun cs h => rowsWideS t cs (List.mem_of_mem_drop h)
theorem drop_lenS (t : S) (i : Nat) : lenS (dropS t i) = lenS t - i := by rw [← rowsS_len, rows_dropS, List.length_drop, rowsS_len]
theorem drop_succS {t : S} {i : Nat} {e : S} {c c₂ : Int} {l : S} (h : dropS t i = cons e c c₂ l) : dropS t (i + 1) = l := by
  induction t generalizing i with
  | nil => simp at h
  | cons e' c' c₂' l' _ ih =>
    cases i with
    | zero => simp only [dropS, cons.injEq] at h ⊢; simp [h.2.2]
    | succ i => exact ih h
theorem drop_sizeS {t : S} {i : Nat} : sizeS (dropS t i) ≤ sizeS t := by
  induction t generalizing i with
  | nil => simp
  | cons e c c₂ l _ ih =>
    cases i with
    | zero => simp
    | succ i => simp only [dropS, sizeS]; have := ih (i := i); omega
theorem drop_cons_sizeS {t : S} {i : Nat} {e : S} {c c₂ : Int} {l : S} (h : dropS t i = cons e c c₂ l) : sizeS e + sizeS l + 1 ≤ sizeS t := by
  have := drop_sizeS (t := t) (i := i); rw [h] at this; exact this
theorem drop_ltS {t : S} {i : Nat} {e : S} {c c₂ : Int} {l : S} (h : dropS t i = cons e c c₂ l) : i < lenS t := by
  have := drop_lenS t i; rw [h] at this; simp only [lenS] at this; omega
theorem drop_geS {t : S} {i : Nat} (h : dropS t i = nil) : lenS t ≤ i := by
  have := drop_lenS t i; rw [h] at this; simp only [lenS] at this; omega
theorem drop_of_geS {t : S} {i : Nat} (h : lenS t ≤ i) : dropS t i = nil := by
  have := drop_lenS t i
  cases hd : dropS t i with
  | nil => rfl
  | cons e c c₂ l => rw [hd] at this; simp only [lenS] at this; omega
theorem rows_getS {t : S} {i : Nat} {e : S} {c c₂ : Int} {l : S} (h : dropS t i = cons e c c₂ l) : (rowsS t)[i]? = some [.sl (rowsS e), .int .i64 c, .int .i64 c₂] := by
  have := rows_dropS t i
  rw [h] at this
  have h2 : ((rowsS t).drop i)[0]? = some [.sl (rowsS e), .int .i64 c, .int .i64 c₂] := by rw [← this]; rfl
  rwa [List.getElem?_drop, Nat.add_zero] at h2
@[simp] theorem app_nilS (t : S) : appS t nil = t := by
  induction t with
  | nil => rfl
  | cons e c c₂ l _ ih => simp [appS, ih]
theorem app_assocS (a b c : S) : appS (appS a b) c = appS a (appS b c) := by
  induction a with
  | nil => rfl
  | cons e k k₂ l _ ih => simp [appS, ih]
theorem size_appS (a b : S) : (appS a b).sizeS = a.sizeS + b.sizeS := by
  induction a with
  | nil => simp [appS, sizeS]
  | cons e c c₂ l _ ih => simp [appS, sizeS, ih]; omega
theorem len_appS (a b : S) : (appS a b).lenS = a.lenS + b.lenS := by
  induction a with
  | nil => simp [appS, lenS]
  | cons e c c₂ l _ ih => simp [appS, lenS, ih]; omega
theorem rows_injS : ∀ {a b : S}, rowsS a = rowsS b → a = b
  | nil, nil, _ => rfl
  | nil, cons _ _ _ _, h => by simp [rowsS] at h
  | cons _ _ _ _, nil, h => by simp [rowsS] at h
  | cons e c c₂ l, cons f d d₂ m, h => by
    simp only [rowsS, List.cons.injEq, D.sl.injEq, D.int.injEq, true_and, and_true] at h
    obtain ⟨⟨h1, h2⟩, h3⟩ := h
    rw [rows_injS h1, h2.1, h2.2, rows_injS h3]
end S
open S
@[simp] theorem cell_S {α : Type} (x : Rw) (c c₂ : Int) (K : Rw → Int → Int → Option α) : cell_sii [.sl x, .int .i64 c, .int .i64 c₂] K = K x c c₂ := rfl
theorem row_S {α : Type} {t : S} {i : Int} {n : Nat} (hi : i = n) {e : S} {c c₂ : Int} {l : S} (h : dropS t n = cons e c c₂ l) (K : Rw → Int → Int → Option α) : row_sii t.rowsS i K = K e.rowsS c c₂ := by
  subst hi
  unfold row_sii
  rw [if_pos (by omega), Int.toNat_natCast, rows_getS h]; rfl
@[simp] theorem row_S0 {α : Type} (e : S) (c c₂ : Int) (l : S) (K : Rw → Int → Int → Option α) : row_sii (cons e c c₂ l).rowsS 0 K = K e.rowsS c c₂ := row_S (n := 0) rfl rfl K
theorem lenSI (t : S) : ((t.rowsS.length : Nat) : Int) = (t.lenS : Int) := by rw [rowsS_len]
end Go.Proofs.Try

namespace Go.Proofs.Try
open Go Go.AX S
theorem fr_snocLenS (l e : S) (c c₂ : Int) : (appS l (cons e c c₂ nil)).lenS = l.lenS + 1 := by rw [len_appS]; rfl
theorem toSur_loop {rec_ : Rw → Option Rw} {a : S} {K : Rw → Option Rw} (hr : ∀ e : S, e.sizeS < a.sizeS → rec_ e.rowsS = some e.rowsS) :
    ∀ (t : S) (i : Nat) (done : S), t.sizeS ≤ a.sizeS → done.lenS = i → laws_toSurrealTermS_l0 rec_ a.rowsS K t.rowsS i (done.rowsS ++ List.replicate t.lenS [D.sl ([]), D.int .i64 0, D.int .i64 0]) = K (appS done t).rowsS
  | nil, i, done, _, hd => by
    simp only [rowsS, laws_toSurrealTermS_l0, lenS, List.replicate_zero, List.append_nil, rows_appS]
  | cons e c c₂ l, i, done, hs, hd => by
    simp only [sizeS] at hs
    simp only [rowsS, laws_toSurrealTermS_l0, cell_S, laws_toSurrealTerm, laws_toFraction, lenS]
    rw [hr e (by omega)]
    have hlen : (done.rowsS ++ List.replicate (l.lenS + 1) [D.sl ([]), D.int .i64 0, D.int .i64 0]).length = i + (l.lenS + 1) := by rw [List.length_append, rowsS_len, hd, List.length_replicate]
    simp only [Option.bind_some]
    rw [if_pos ⟨by omega, by rw [hlen]; omega⟩]
    have hrow : ∀ {α : Type} (K : Rw → Int → Int → Option α), row_sii (done.rowsS ++ List.replicate (l.lenS + 1) [D.sl ([]), D.int .i64 0, D.int .i64 0]) (i : Int) K = K [] 0 0 := by
      intro α K
      unfold row_sii
      rw [if_pos (by omega), Int.toNat_natCast, List.getElem?_append_right (by rw [rowsS_len]; omega), rowsS_len, hd, Nat.sub_self, List.replicate_succ]
      rfl
    rw [hrow]
    have hset : (done.rowsS ++ List.replicate (l.lenS + 1) [D.sl ([]), D.int .i64 0, D.int .i64 0]).set (i : Int).toNat [D.sl e.rowsS, D.int .i64 c, .int .i64 c₂] = (appS done (cons e c c₂ nil)).rowsS ++ List.replicate l.lenS [D.sl ([]), D.int .i64 0, D.int .i64 0] := by
      rw [Int.toNat_natCast, List.set_append_right (h := by rw [rowsS_len]; omega), rowsS_len, hd, Nat.sub_self, List.replicate_succ, rows_appS]
      simp [rowsS]
    rw [hset, toSur_loop hr l (i + 1) (appS done (cons e c c₂ nil)) (by omega) (by rw [fr_snocLenS, hd]), app_assocS]
    rfl
theorem toSur_eq : ∀ (k : Nat) (a : S), a.sizeS < k → a.sizeS ≤ cap → laws_toSurreal k a.rowsS = some a.rowsS
  | 0, _, h, _ => absurd h (Nat.not_lt_zero _)
  | k + 1, a, h, hc => by
    have h3 : cap = 1099511627776 := rfl
    have hl := a.len_sizeS
    simp only [laws_toSurreal, laws_toSurreal_b, laws_toSurrealTermS]
    rw [if_pos (by rw [lenSI]; omega), if_pos (by rw [rowsS_len]; omega), lenSI, Int.toNat_natCast]
    have := toSur_loop (rec_ := laws_toSurreal k) (a := a) (K := fun v29 => some v29) (fun e he => toSur_eq k e (by omega) (by omega)) a 0 nil (Nat.le_refl _) rfl
    simp only [rowsS, List.nil_append, appS] at this
    rw [this]; rfl
theorem eqFrac_refl (n d : Int) : laws_eqFraction n d n d = some true := by unfold laws_eqFraction; rw [if_pos rfl, if_pos rfl]
theorem eqSur_loop {rec_ : Rw → Rw → Option Bool} {a : S} (hr : ∀ e : S, e.sizeS < a.sizeS → rec_ e.rowsS e.rowsS = some true) : ∀ (t : S) (i : Nat), dropS a i = t → laws_eqSurrealTermS_l0 rec_ a.rowsS a.rowsS (some true) t.rowsS i = some true
  | nil, i, _ => rfl
  | cons e c c₂ l, i, hd => by
    have hs := drop_cons_sizeS hd
    simp only [rowsS, laws_eqSurrealTermS_l0, cell_S, laws_eqSurrealTerm]
    have he : laws_eqFraction c c₂ c c₂ = some true := by unfold laws_eqFraction; rw [if_pos rfl, if_pos rfl]
    rw [row_S rfl hd, hr e (by omega), Option.bind_some, if_pos rfl, he, Option.bind_some, if_pos rfl, Option.bind_some, if_pos rfl]
    exact eqSur_loop hr l (i + 1) (drop_succS hd)
theorem eqSur_refl : ∀ (k : Nat) (a : S), a.sizeS < k → a.sizeS ≤ cap → laws_eqSurreal k a.rowsS a.rowsS = some true
  | 0, _, h, _ => absurd h (Nat.not_lt_zero _)
  | k + 1, a, h, hc => by
    have hl := a.len_sizeS
    simp only [laws_eqSurreal, laws_eqSurreal_b, laws_eqSurrealTermS]
    rw [if_pos True.intro, if_pos (by rw [rowsS_len]; omega), eqSur_loop (a := a) (fun e he => eqSur_refl k e (by omega) (by omega)) a 0 (drop_zeroS a)]
    rfl
/-- Slices no longer, and numerators no greater, than a machine has. -/
def fitS : S → Prop
  | nil => True
  | cons e c c₂ l => fitS e ∧ (e.lenS : Int) ≤ 9223372036854775807 ∧ fitS l ∧ (-9223372036854775808 ≤ c ∧ c ≤ 9223372036854775807)
theorem szSur_loop {rec_ : Rw → Int → Option Int} {a : S} {K : Int → Option Int} (hr : ∀ (e : S) (v : Int), e.sizeS < a.sizeS → fitS e → (e.lenS : Int) ≤ 9223372036854775807 → 0 ≤ v → v ≤ 1048576 → ∃ r : Int, rec_ e.rowsS v = some r ∧ r ≤ v ∧ -1 ≤ r ∧ (0 ≤ r → r + e.sizeS ≤ v)) :
    ∀ (t : S) (v : Int), t.sizeS ≤ a.sizeS → fitS t → 0 ≤ v → v ≤ 1048576 → (laws_szSurrealTermS_l0 rec_ a.rowsS K t.rowsS v = some (-1)) ∨ ∃ r : Int, laws_szSurrealTermS_l0 rec_ a.rowsS K t.rowsS v = K r ∧ 0 ≤ r ∧ r + t.sizeS ≤ v + t.lenS
  | nil, v, _, _, h0, h1 => Or.inr ⟨v, rfl, h0, by simp [sizeS, lenS]⟩
  | cons e c c₂ l, v, hs, hf, h0, h1 => by
    simp only [sizeS] at hs
    obtain ⟨r, e1, q1, q2, q3⟩ := hr e v (by omega) hf.1 hf.2.1 h0 h1
    simp only [rowsS, laws_szSurrealTermS_l0, cell_S, laws_szSurrealTerm]
    rw [e1, Option.bind_some]
    by_cases g : r < 0
    · left; rw [if_pos g, Option.bind_some, if_pos (by omega)]
    · rw [if_neg g, Option.bind_some, if_neg g]
      rcases szSur_loop hr l r (by omega) hf.2.2.1 (by omega) (by omega) with h | ⟨u, h, p1, p2⟩
      · left; exact h
      · right; exact ⟨u, h, p1, by simp only [sizeS, lenS]; omega⟩
theorem szSur_eq : ∀ (k : Nat) (a : S) (v : Int), a.sizeS < k → fitS a → (a.lenS : Int) ≤ 9223372036854775807 → 0 ≤ v → v ≤ 1048576 → ∃ r : Int, laws_szSurreal k a.rowsS v = some r ∧ r ≤ v ∧ -1 ≤ r ∧ (0 ≤ r → r + a.sizeS ≤ v)
  | 0, _, _, h, _, _, _, _ => absurd h (Nat.not_lt_zero _)
  | k + 1, a, v, h, hf, hl, h0, h1 => by
    have h3 : cap = 1099511627776 := rfl
    simp only [laws_szSurreal, laws_szSurreal_b, laws_szSurrealTermS]
    have e1 : IntKind.i64.wrap (v - (a.rowsS.length : Int)) = v - (a.lenS : Int) := by rw [lenSI, wid (by omega) (by omega)]
    rw [e1]
    by_cases g : v - (a.lenS : Int) < 0
    · rw [if_pos g, Option.bind_some, if_pos (by omega)]
      exact ⟨-1, rfl, by omega, by omega, fun h => by omega⟩
    · rw [if_neg g, if_pos (by rw [rowsS_len]; omega)]
      rcases szSur_loop (rec_ := laws_szSurreal k) (a := a) (K := fun v22 => some v22) (fun e v he hf hl h0 h1 => szSur_eq k e v (by omega) hf hl h0 h1) a (v - (a.lenS : Int)) (Nat.le_refl _) hf (by omega) (by omega) with q | ⟨r, q, p1, p2⟩
      · rw [q, Option.bind_some, if_pos (by omega)]
        exact ⟨-1, rfl, by omega, by omega, fun h => by omega⟩
      · rw [q, Option.bind_some, if_neg (by omega)]
        exact ⟨r, rfl, by omega, by omega, fun _ => by omega⟩
end Go.Proofs.Try

namespace Go.Proofs.Try
open Go Go.AX S
theorem fr_drop_appS (l r : S) : dropS (appS l r) l.lenS = r := by
  induction l with
  | nil => simp [appS, lenS]
  | cons e c c₂ l _ ih => exact ih
def mkS : S → Int → S
  | nil, _ => nil
  | cons e _ _ l, k => cons (mkS e k) (k + 2 * sizeS e) (k + 2 * sizeS e + 1) (mkS l (k + 2 * sizeS e + 2))
theorem mkS_len (t : S) (k : Int) : (mkS t k).lenS = t.lenS := by
  induction t generalizing k with
  | nil => rfl
  | cons e c c₂ l _ ih => simp [mkS, lenS, ih]
theorem mkS_size (t : S) (k : Int) : (mkS t k).sizeS = t.sizeS := by
  induction t generalizing k with
  | nil => rfl
  | cons e c c₂ l ihe ih => simp [mkS, sizeS, ihe, ih]
theorem set_rowsS (l e e' r : S) (c c₂ c' c₂' : Int) : (appS l (cons e c c₂ r)).rowsS.set l.lenS [D.sl e'.rowsS, D.int .i64 c', D.int .i64 c₂'] = (appS l (cons e' c' c₂' r)).rowsS := by
  rw [rows_appS, rows_appS, ← rowsS_len l, List.set_append_right (h := Nat.le_refl _), Nat.sub_self]; rfl
theorem markSur_loop {rec_ : Rw → Int → Option (Int × Rw)} {K0 : Int → Rw → Option (Int × Rw)} {N : Nat} (hr : ∀ (e : S) (k : Int), e.sizeS < N → 0 ≤ k → k + 2 * e.sizeS ≤ 4000000000000000000 → rec_ e.rowsS k = some (k + 2 * e.sizeS, (mkS e k).rowsS)) :
    ∀ (t done : S) (n : Nat) (k : Int), t.sizeS ≤ N → t.lenS < n → 0 ≤ k → k + 2 * t.sizeS ≤ 4000000000000000000 → done.lenS + t.lenS ≤ 4000000000000000000 → laws_markSurrealTermS_l0 rec_ K0 n (appS done t).rowsS k done.lenS = K0 (k + 2 * t.sizeS) (appS done (mkS t k)).rowsS
  | _, _, 0, _, _, h, _, _, _ => absurd h (Nat.not_lt_zero _)
  | nil, done, n + 1, k, _, _, _, _, _ => by
    simp only [laws_markSurrealTermS_l0]
    rw [if_neg (by rw [app_nilS, lenSI]; omega)]
    simp [sizeS, mkS]
  | cons e c c₂ l, done, n + 1, k, hs, hn, h0, hk, hl => by
    simp only [sizeS] at hs hk
    simp only [lenS] at hn hl
    have hlen : ((appS done (cons e c c₂ l)).rowsS.length : Int) = done.lenS + l.lenS + 1 := by rw [lenSI, len_appS]; simp only [lenS]; omega
    have hd : ∀ (e' : S) (c' c₂' : Int), dropS (appS done (cons e' c' c₂' l)) done.lenS = cons e' c' c₂' l := fun e' c' c₂' => fr_drop_appS done _
    simp only [laws_markSurrealTermS_l0]
    rw [if_pos (by omega), if_pos (by omega), row_S rfl (hd e c c₂), hr e k (by omega) h0 (by omega), Option.bind_some, Int.toNat_natCast]
    simp only
    rw [set_rowsS, row_S rfl (hd (mkS e k) c c₂), set_rowsS, row_S rfl (hd (mkS e k) (k + 2 * e.sizeS) c₂), set_rowsS, wid (by omega) (by omega), wid (by omega) (by omega), wid (by omega) (by omega)]
    have e1 : appS done (cons (mkS e k) (k + 2 * e.sizeS) (k + 2 * e.sizeS + 1) l) = appS (appS done (cons (mkS e k) (k + 2 * e.sizeS) (k + 2 * e.sizeS + 1) nil)) l := by rw [app_assocS]; rfl
    have e2 : ((done.lenS : Int) + 1) = ((appS done (cons (mkS e k) (k + 2 * e.sizeS) (k + 2 * e.sizeS + 1) nil)).lenS : Int) := by rw [fr_snocLenS]; rfl
    rw [e1, e2, show k + 2 * (e.sizeS : Int) + 1 + 1 = k + 2 * e.sizeS + 2 by omega, markSur_loop hr l _ n (k + 2 * e.sizeS + 2) (by omega) (by omega) (by omega) (by omega) (by rw [fr_snocLenS]; omega), app_assocS]
    have e3 : k + 2 * (e.sizeS : Int) + 2 + 2 * (l.sizeS : Int) = k + 2 * ((cons e c c₂ l).sizeS : Int) := by simp only [sizeS]; omega
    rw [e3]; rfl
theorem markSurS_eq : ∀ (K : Nat) (t : S) (k : Int), t.sizeS + 1 < K → 0 ≤ k → k + 2 * t.sizeS ≤ 4000000000000000000 → laws_markSurrealTermS K t.rowsS k = some (k + 2 * t.sizeS, (mkS t k).rowsS)
  | 0, _, _, h, _, _ => absurd h (Nat.not_lt_zero _)
  | K + 1, nil, k, h, _, _ => by
    obtain ⟨m, rfl⟩ : ∃ m, K = m + 1 := ⟨K - 1, by omega⟩
    simp only [laws_markSurrealTermS, laws_markSurrealTermS_b, laws_markSurrealTermS_2, laws_markSurrealTermS_2_l0]
    simp [rowsS, mkS, sizeS]
  | K + 1, cons e c c₂ l, k, h, h0, hk => by
    have hl := (cons e c c₂ l).len_sizeS
    simp only [laws_markSurrealTermS, laws_markSurrealTermS_b]
    rw [if_neg (by simp [rowsS])]
    have := markSur_loop (rec_ := laws_markSurrealTermS K) (K0 := fun (v30 : Int) (v31 : Rw) => (if v31.length = (cons e c c₂ l).rowsS.length then some (v30, v31) else none)) (N := (cons e c c₂ l).sizeS) (fun e' k' he h0' hk' => markSurS_eq K e' k' (by omega) h0' hk') (cons e c c₂ l) nil K k (Nat.le_refl _) (by omega) h0 hk (by simp only [lenS] at hl ⊢; omega)
    refine this.trans ?_
    show (if (mkS (cons e c c₂ l) k).rowsS.length = (cons e c c₂ l).rowsS.length then _ else _) = _
    rw [if_pos (by rw [rowsS_len, rowsS_len, mkS_len])]
    rfl
theorem markSur_eq (K : Nat) (t : S) (k : Int) (h : t.sizeS + 1 < K) (h0 : 0 ≤ k) (hk : k + 2 * t.sizeS ≤ 4000000000000000000) : laws_markSurreal K t.rowsS k = some (k + 2 * t.sizeS, (mkS t k).rowsS) := by
  unfold laws_markSurreal
  cases t with
  | nil =>
    obtain ⟨m, rfl⟩ : ∃ m, K = m + 1 := ⟨K - 1, by omega⟩
    simp [rowsS, mkS, sizeS, laws_markSurreal_2, laws_markSurrealTermS_2, laws_markSurrealTermS_2_l0]
  | cons e c c₂ l =>
    rw [if_neg (by simp [rowsS]), markSurS_eq K _ k h h0 hk, Option.bind_some]
    simp only
    rw [if_pos (by rw [rowsS_len, rowsS_len, mkS_len])]
end Go.Proofs.Try

namespace Go.Proofs.Try
open Go Go.AX
theorem gcd_step (a b : Int) : Int.gcd b (a.tmod b) = Int.gcd a b := by
  show Nat.gcd b.natAbs (a.tmod b).natAbs = Nat.gcd a.natAbs b.natAbs
  rw [Int.natAbs_tmod, Nat.gcd_comm b.natAbs, ← Nat.gcd_rec, Nat.gcd_comm]
theorem halve (a b : Nat) (h : 0 < b) : b % (a % b) ≤ b / 2 ∨ a % b = 0 := by
  by_cases h0 : a % b = 0
  · exact .inr h0
  · left
    have h1 := Nat.mod_lt a h
    by_cases h2 : a % b ≤ b / 2
    · have := Nat.mod_lt b (show 0 < a % b by omega); omega
    · have h3 : b % (a % b) = b - a % b := by
        rw [Nat.mod_eq_sub_mod (by omega), Nat.mod_eq_of_lt (by omega)]
      omega
theorem igcd_loop {K : Int → Option Int} : ∀ (f n : Nat) (a b : Int), b.natAbs < 2 ^ f → 2 * f + 1 ≤ n → ∃ g : Int, impl_gcd_l0 K n a b = K g ∧ g.natAbs = Int.gcd a b
  | f, 0, _, _, _, h => absurd h (by omega)
  | 0, n + 1, a, b, hb, _ => by
    have : b = 0 := by omega
    subst this
    exact ⟨a, by simp only [impl_gcd_l0, if_true], by simp⟩
  | f + 1, n + 1, a, b, hb, hn => by
    obtain ⟨m, rfl⟩ : ∃ m, n = m + 1 := ⟨n - 1, by omega⟩
    simp only [impl_gcd_l0]
    by_cases h0 : b = 0
    · subst h0
      rw [if_pos rfl]
      exact ⟨a, rfl, by simp⟩
    · rw [if_neg h0, if_pos h0]
      by_cases h1 : a.tmod b = 0
      · rw [if_pos h1]
        exact ⟨b, rfl, by rw [← gcd_step, h1]; simp⟩
      · rw [if_neg h1, if_pos h1]
        have hh := halve a.natAbs b.natAbs (by omega)
        have hz : a.natAbs % b.natAbs ≠ 0 := by rw [← Int.natAbs_tmod]; omega
        have e1 : (b.tmod (a.tmod b)).natAbs = b.natAbs % (a.natAbs % b.natAbs) := by rw [Int.natAbs_tmod, Int.natAbs_tmod]
        have hp : 2 ^ (f + 1) = 2 * 2 ^ f := by rw [Nat.pow_succ, Nat.mul_comm]
        obtain ⟨g, e, hg⟩ := igcd_loop f m (a.tmod b) (b.tmod (a.tmod b)) (by rw [e1]; omega) (by omega)
        exact ⟨g, e, by rw [hg, gcd_step, gcd_step]⟩
theorem sgcd_loop {K : Int → Option Int} : ∀ (f n : Nat) (a b : Int), b.natAbs < 2 ^ f → 2 * f + 1 ≤ n → ∃ g : Int, spec_shGcd_l0 K n a b = K g ∧ g.natAbs = Int.gcd a b
  | f, 0, _, _, _, h => absurd h (by omega)
  | 0, n + 1, a, b, hb, _ => by
    have : b = 0 := by omega
    subst this
    exact ⟨a, by simp only [spec_shGcd_l0, if_true], by simp⟩
  | f + 1, n + 1, a, b, hb, hn => by
    obtain ⟨m, rfl⟩ : ∃ m, n = m + 1 := ⟨n - 1, by omega⟩
    simp only [spec_shGcd_l0]
    by_cases h0 : b = 0
    · subst h0
      rw [if_pos rfl]
      exact ⟨a, rfl, by simp⟩
    · rw [if_neg h0, if_pos h0]
      by_cases h1 : a.tmod b = 0
      · rw [if_pos h1]
        exact ⟨b, rfl, by rw [← gcd_step, h1]; simp⟩
      · rw [if_neg h1, if_pos h1]
        have hh := halve a.natAbs b.natAbs (by omega)
        have hz : a.natAbs % b.natAbs ≠ 0 := by rw [← Int.natAbs_tmod]; omega
        have e1 : (b.tmod (a.tmod b)).natAbs = b.natAbs % (a.natAbs % b.natAbs) := by rw [Int.natAbs_tmod, Int.natAbs_tmod]
        have hp : 2 ^ (f + 1) = 2 * 2 ^ f := by rw [Nat.pow_succ, Nat.mul_comm]
        obtain ⟨g, e, hg⟩ := sgcd_loop f m (a.tmod b) (b.tmod (a.tmod b)) (by rw [e1]; omega) (by omega)
        exact ⟨g, e, by rw [hg, gcd_step, gcd_step]⟩
theorem gcd_le (a b : Int) : Int.gcd a b ≤ max a.natAbs b.natAbs := by
  show Nat.gcd a.natAbs b.natAbs ≤ _
  by_cases h : a.natAbs = 0
  · rw [h, Nat.gcd_zero_left]; omega
  · have := Nat.gcd_le_left b.natAbs (show 0 < a.natAbs by omega); omega
theorem lt64 {b : Int} (hb : -4000000000000000000 ≤ b ∧ b ≤ 4000000000000000000) : b.natAbs < 2 ^ 64 := by
  have : (2 : Nat) ^ 64 = 18446744073709551616 := by decide
  omega
theorem dvd_cop {d n g : Int} (h : Int.gcd n d = 1) (hd : d ∣ n * g) : d ∣ g := by
  have h1 : d.natAbs ∣ n.natAbs * g.natAbs := by rw [← Int.natAbs_mul]; exact Int.natAbs_dvd_natAbs.2 hd
  have h2 : Nat.Coprime d.natAbs n.natAbs := by
    show Nat.gcd d.natAbs n.natAbs = 1
    rw [Nat.gcd_comm]; exact h
  exact Int.natAbs_dvd_natAbs.1 (h2.dvd_of_dvd_mul_left h1)
theorem igcd_eq {k : Nat} {a b : Int} (hk : 200 < k) (ha : -4000000000000000000 ≤ a ∧ a ≤ 4000000000000000000) (hb : -4000000000000000000 ≤ b ∧ b ≤ 4000000000000000000) : impl_gcd k a b = some (Int.gcd a b : Int) := by
  unfold impl_gcd
  obtain ⟨g, e, hg⟩ := igcd_loop (K := fun v9 => (impl_size v9).bind fun y14 => some y14) 64 k a b (lt64 hb) (by omega)
  have hl := gcd_le a b
  rw [e]
  unfold impl_size
  rw [Option.bind_some, wid (by omega) (by omega)]
  congr 1
  split <;> omega
theorem sgcd_eq {k : Nat} {a b : Int} (hk : 200 < k) (ha : -4000000000000000000 ≤ a ∧ a ≤ 4000000000000000000) (hb : -4000000000000000000 ≤ b ∧ b ≤ 4000000000000000000) : spec_shGcd k a b = some (Int.gcd a b : Int) := by
  unfold spec_shGcd
  obtain ⟨g, e, hg⟩ := sgcd_loop (K := fun v9 => (spec_l1Abs v9).bind fun y14 => some y14) 64 k a b (lt64 hb) (by omega)
  have hl := gcd_le a b
  rw [e]
  unfold spec_l1Abs spec_l1Most
  rw [wid (by omega) (by omega)]
  split
  · simp only [Option.bind_some]; congr 1; omega
  · simp only [Option.bind_some]; congr 1; omega
/-- A fraction that is right. -/
def frP (n d : Int) : Bool := (decide (1 ≤ d) && decide (d ≤ 1000000)) && ((decide (-1000000 ≤ n) && decide (n ≤ 1000000)) && decide (Int.gcd n d = 1))
theorem iIn_eq (n a b : Int) : impl_in n a b = some (decide (a ≤ n) && decide (n ≤ b)) := by
  unfold impl_in
  by_cases h1 : a ≤ n <;> by_cases h2 : n ≤ b <;> simp [h1, h2]
theorem sIn_eq (n a b : Int) : spec_l1In n a b = some (decide (a ≤ n) && decide (n ≤ b)) := by
  unfold spec_l1In
  by_cases h1 : a ≤ n <;> by_cases h2 : n ≤ b <;> simp [h1, h2]
theorem IsFraction_eq {k : Nat} (hk : 200 < k) (n d : Int) : impl_IsFraction k n d = some (frP n d) := by
  unfold impl_IsFraction frP
  rw [iIn_eq, iIn_eq]
  simp only [Option.bind_some]
  cases h1 : (decide (1 ≤ d) && decide (d ≤ 1000000)) with
  | false => simp
  | true =>
    cases h2 : (decide (-1000000 ≤ n) && decide (n ≤ 1000000)) with
    | false => simp
    | true =>
      simp only [Bool.and_eq_true, decide_eq_true_eq] at h1 h2
      rw [if_pos rfl, if_pos rfl, igcd_eq hk (by omega) (by omega), Option.bind_some]
      by_cases h3 : Int.gcd n d = 1
      · rw [if_pos (by omega), h3]; rfl
      · rw [if_neg (by omega)]; simp [h3]
theorem shGood_eq {k : Nat} (hk : 200 < k) (n d : Int) : spec_shGood k n d = some (frP n d) := by
  unfold spec_shGood frP
  rw [sIn_eq, sIn_eq]
  simp only [Option.bind_some]
  cases h1 : (decide (1 ≤ d) && decide (d ≤ 1000000)) with
  | false => simp
  | true =>
    cases h2 : (decide (-1000000 ≤ n) && decide (n ≤ 1000000)) with
    | false => simp
    | true =>
      simp only [Bool.and_eq_true, decide_eq_true_eq] at h1 h2
      rw [if_pos rfl, if_pos rfl, sgcd_eq hk (by omega) (by omega), Option.bind_some]
      by_cases h3 : Int.gcd n d = 1
      · rw [if_pos (by omega), h3]; rfl
      · rw [if_neg (by omega)]; simp [h3]
theorem frP_in {n d : Int} (h : frP n d = true) : (1 ≤ d ∧ d ≤ 1000000) ∧ (-1000000 ≤ n ∧ n ≤ 1000000) ∧ Int.gcd n d = 1 := by
  simp only [frP, Bool.and_eq_true, decide_eq_true_eq] at h
  exact h
/-! ### their order -/
def cmpF (n d m g : Int) : Int := cmpI (n * g) (m * d)
theorem prod_in {a b B C : Int} (ha : -B ≤ a ∧ a ≤ B) (hb : 0 ≤ b ∧ b ≤ C) : -(B * C) ≤ a * b ∧ a * b ≤ B * C := by
  have hB : 0 ≤ B := by omega
  have h1 : a * b ≤ B * b := Int.mul_le_mul_of_nonneg_right ha.2 hb.1
  have h2 : B * b ≤ B * C := Int.mul_le_mul_of_nonneg_left hb.2 hB
  have h3 : -B * b ≤ a * b := Int.mul_le_mul_of_nonneg_right ha.1 hb.1
  rw [Int.neg_mul] at h3
  omega
theorem cmp_inB {n d m g : Int} (h1 : frP n d = true) (h2 : frP m g = true) : (-1000000000000 ≤ n * g ∧ n * g ≤ 1000000000000) ∧ (-1000000000000 ≤ m * d ∧ m * d ≤ 1000000000000) := by
  obtain ⟨a1, a2, _⟩ := frP_in h1
  obtain ⟨b1, b2, _⟩ := frP_in h2
  have q1 := prod_in (B := 1000000) (C := 1000000) a2 ⟨by omega, b1.2⟩
  have q2 := prod_in (B := 1000000) (C := 1000000) b2 ⟨by omega, a1.2⟩
  omega
theorem icompare_eq (a b : Int) : impl_compare a b = some (cmpI a b) := by unfold impl_compare cmpI; split <;> (try split) <;> rfl
theorem cmpFractions_eq {n d m g : Int} (h1 : frP n d = true) (h2 : frP m g = true) : impl_cmpFractions n d m g = some (cmpF n d m g) := by
  have := cmp_inB h1 h2
  unfold impl_cmpFractions cmpF
  rw [wid (by omega) (by omega), wid (by omega) (by omega), icompare_eq]; rfl
theorem l1Sign_eq (a : Int) : spec_l1Sign a = some (cmpI a 0) := by unfold spec_l1Sign cmpI; split <;> (try split) <;> (try split) <;> first | rfl | (exfalso; omega)
theorem cmpI_sub (a b : Int) : cmpI (a - b) 0 = cmpI a b := by
  unfold cmpI
  by_cases h1 : a < b
  · rw [if_pos (by omega), if_pos h1]
  · rw [if_neg (by omega), if_neg h1]
    by_cases h2 : b < a
    · rw [if_pos (by omega), if_pos h2]
    · rw [if_neg (by omega), if_neg h2]
theorem shCmp_eq {n d m g : Int} (h1 : frP n d = true) (h2 : frP m g = true) : spec_shCmp n d m g = some (cmpF n d m g) := by
  have := cmp_inB h1 h2
  unfold spec_shCmp cmpF
  rw [wid (n := n * g) (by omega) (by omega), wid (n := m * d) (by omega) (by omega), wid (by omega) (by omega), l1Sign_eq, cmpI_sub]; rfl
theorem cmpF_eq {n d m g : Int} (h1 : frP n d = true) (h2 : frP m g = true) : cmpF n d m g = 0 ↔ n = m ∧ d = g := by
  obtain ⟨a1, a2, a3⟩ := frP_in h1
  obtain ⟨b1, b2, b3⟩ := frP_in h2
  unfold cmpF
  rw [cmpI_eq]
  constructor
  · intro h
    have d1 : d ∣ g := by
      have : d ∣ n * g := ⟨m, by rw [h, Int.mul_comm]⟩
      exact dvd_cop a3 this
    have d2 : g ∣ d := by
      have : g ∣ m * d := ⟨n, by rw [← h, Int.mul_comm]⟩
      exact dvd_cop b3 this
    have e1 := Int.le_of_dvd (by omega) d1
    have e2 := Int.le_of_dvd (by omega) d2
    have e : d = g := by omega
    subst e
    exact ⟨Int.eq_of_mul_eq_mul_right (by omega) h, rfl⟩
  · rintro ⟨rfl, rfl⟩; rfl
theorem cmpF_neg (n d m g : Int) : cmpF m g n d = - cmpF n d m g := cmpI_neg _ _
end Go.Proofs.Try

namespace Go.Proofs.Try
open Go Go.AX S
def sg (n : Int) : Int := cmpI n 0
def cmpS : S → S → Int
  | nil, nil => 0
  | nil, cons _ m _ _ => - sg m
  | cons _ n _ _, nil => sg n
  | cons e n d l, cons f m g r => if cmpS e f = 1 then sg n else if cmpS e f = -1 then - sg m else if cmpF n d m g = 0 then cmpS l r else cmpF n d m g
/-- Fractions that are right, and not 0. -/
def gdS : S → Prop
  | nil => True
  | cons e n d l => gdS e ∧ (frP n d = true ∧ n ≠ 0) ∧ gdS l
theorem gd_drop {t : S} (h : gdS t) : ∀ {i : Nat}, gdS (dropS t i) := by
  induction t with
  | nil => intro i; simp [gdS]
  | cons e n d l _ ih => intro i; cases i with
    | zero => simpa using h
    | succ i => exact ih h.2.2
theorem cmpI_range (a b : Int) : cmpI a b = -1 ∨ cmpI a b = 0 ∨ cmpI a b = 1 := by unfold cmpI; split <;> (try split) <;> simp
theorem sg_range (n : Int) : sg n = -1 ∨ sg n = 0 ∨ sg n = 1 := cmpI_range n 0
theorem cmpS_range (a b : S) : cmpS a b = -1 ∨ cmpS a b = 0 ∨ cmpS a b = 1 := by
  induction a generalizing b with
  | nil =>
    cases b with
    | nil => simp [cmpS]
    | cons f m g r => have := sg_range m; simp only [cmpS]; omega
  | cons e n d l ihe ihl =>
    cases b with
    | nil => exact sg_range n
    | cons f m g r =>
      have h1 := sg_range n
      have h2 := sg_range m
      simp only [cmpS]
      split
      · exact h1
      · split
        · omega
        · split
          · exact ihl r
          · exact cmpI_range _ _
theorem cmpS_neg (a b : S) : cmpS b a = - cmpS a b := by
  induction a generalizing b with
  | nil => cases b <;> simp [cmpS]
  | cons e n d l ihe ihl =>
    cases b with
    | nil => simp [cmpS]
    | cons f m g r =>
      simp only [cmpS, ihe f, ihl r, cmpF_neg n d m g]
      have := cmpS_range e f
      split <;> split <;> (try split) <;> (try split) <;> (try split) <;> omega
theorem cmpS_refl (a : S) : cmpS a a = 0 := by have := cmpS_neg a a; omega
theorem sg_nz {n : Int} (h : n ≠ 0) : sg n ≠ 0 := by unfold sg cmpI; split <;> (try split) <;> omega
theorem cmpS_eq : ∀ {a b : S}, gdS a → gdS b → (cmpS a b = 0 ↔ a = b)
  | nil, nil, _, _ => by simp [cmpS]
  | nil, cons f m g r, _, gb => by
    have := sg_nz gb.2.1.2
    simp only [cmpS, reduceCtorEq, iff_false]; omega
  | cons e n d l, nil, ga, _ => by
    have := sg_nz ga.2.1.2
    simp only [cmpS, reduceCtorEq, iff_false]; omega
  | cons e n d l, cons f m g r, ga, gb => by
    have i1 := cmpS_eq ga.1 gb.1
    have i2 := cmpS_eq ga.2.2 gb.2.2
    have i3 := cmpF_eq ga.2.1.1 gb.2.1.1
    have h1 := sg_nz ga.2.1.2
    have h2 := sg_nz gb.2.1.2
    have hr := cmpS_range e f
    simp only [cmpS, S.cons.injEq]
    constructor
    · intro h
      split at h
      · omega
      · split at h
        · omega
        · split at h
          · rename_i q1 q2 q3
            obtain ⟨z1, z2⟩ := i3.1 q3
            exact ⟨i1.1 (by omega), z1, z2, i2.1 h⟩
          · rename_i q; exact absurd h q
    · rintro ⟨z1, z2, z3, z4⟩
      have y1 := i1.2 z1
      rw [if_neg (by omega), if_neg (by omega), if_pos (i3.2 ⟨z2, z3⟩)]
      exact i2.2 z4
theorem cmpF_lt {n d m g : Int} : cmpF n d m g = 1 ↔ m * d < n * g := by
  unfold cmpF cmpI
  split
  · omega
  · split <;> simp <;> omega
theorem cmpF_trans {n d m g u v : Int} (hd : 0 < d) (hg : 0 < g) (hv : 0 < v) (h1 : cmpF n d m g = 1) (h2 : cmpF m g u v = 1) : cmpF n d u v = 1 := by
  rw [cmpF_lt] at *
  have q1 : m * d * v < n * g * v := Int.mul_lt_mul_of_pos_right h1 hv
  have q2 : u * g * d < m * v * d := Int.mul_lt_mul_of_pos_right h2 hd
  have e1 : m * d * v = m * v * d := by rw [Int.mul_assoc, Int.mul_comm d v, ← Int.mul_assoc]
  have e2 : u * g * d = u * d * g := by rw [Int.mul_assoc, Int.mul_comm g d, ← Int.mul_assoc]
  have e3 : n * g * v = n * v * g := by rw [Int.mul_assoc, Int.mul_comm g v, ← Int.mul_assoc]
  have q3 : u * d * g < n * v * g := by omega
  exact Int.lt_of_mul_lt_mul_right q3 (by omega)
theorem sg_one {n : Int} : sg n = 1 ↔ 0 < n := by unfold sg cmpI; split <;> (try split) <;> omega
theorem sg_neg {n : Int} : sg n = -1 ↔ n < 0 := by unfold sg cmpI; split <;> (try split) <;> omega
/-- Signs and fractions. -/
theorem cmpF_sign {n d m g : Int} (hd : 0 < d) (hg : 0 < g) (hn : 0 < n) (hm : m < 0) : cmpF n d m g = 1 := by
  rw [cmpF_lt]
  have := Int.mul_pos hn hg
  have := Int.mul_neg_of_neg_of_pos hm hd
  omega
theorem cmpF_pos {n d m g : Int} (hd : 0 < d) (hg : 0 < g) (h : cmpF n d m g = 1) (hm : 0 < m) : 0 < n := by
  rw [cmpF_lt] at h
  have h1 := Int.mul_pos hm hd
  rcases Int.lt_or_le 0 n with x | x
  · exact x
  · have := Int.mul_nonpos_of_nonpos_of_nonneg x (show 0 ≤ g by omega); omega
theorem cmpF_ng {n d m g : Int} (hd : 0 < d) (hg : 0 < g) (h : cmpF n d m g = 1) (hn : n < 0) : m < 0 := by
  rw [cmpF_lt] at h
  have h1 := Int.mul_neg_of_neg_of_pos hn hg
  rcases Int.lt_or_le m 0 with x | x
  · exact x
  · have := Int.mul_nonneg x (show 0 ≤ d by omega); omega
theorem order_loop {rec_ : Rw → Rw → Option Int} {a b : S} (ga : gdS a) (gb : gdS b) (hc : a.sizeS ≤ cap) (hr : ∀ e f : S, e.sizeS < a.sizeS → gdS e → gdS f → rec_ e.rowsS f.rowsS = some (cmpS e f)) :
    ∀ (t : S) (i n : Nat), dropS a i = t → i ≤ a.lenS → i ≤ b.lenS → t.lenS + 1 ≤ n → impl_order_l0 rec_ a.rowsS b.rowsS (some 0) n i = some (cmpS t (dropS b i))
  | _, _, 0, _, _, _, h => absurd h (by omega)
  | nil, i, n + 1, hd, hi, hj, hn => by
    have h1 := drop_geS hd
    simp only [impl_order_l0]
    rw [if_neg (by rw [lenSI]; omega)]
    cases hb : dropS b i with
    | nil =>
      have h2 := drop_geS hb
      rw [if_neg (by rw [lenSI]; omega)]; rfl
    | cons f m g r =>
      have h2 := drop_ltS hb
      have := sg_range m
      rw [if_pos (by rw [lenSI]; omega), if_pos (by rw [lenSI]; omega), row_S rfl hb, icompare_eq, Option.bind_some, show cmpI m 0 = sg m from rfl, wid (by omega) (by omega)]
      simp only [cmpS]; congr 1; omega
  | cons e x d l, i, n + 1, hd, hi, hj, hn => by
    have h1 := drop_ltS hd
    have hs := drop_cons_sizeS hd
    have hl := a.len_sizeS
    have h3 : cap = 1099511627776 := rfl
    have g1 := gd_drop ga (i := i)
    rw [hd] at g1
    simp only [lenS] at hn
    simp only [impl_order_l0]
    rw [if_pos (by rw [lenSI]; omega), if_neg (by rw [lenSI]; omega)]
    cases hb : dropS b i with
    | nil =>
      have h2 := drop_geS hb
      rw [if_pos (by rw [lenSI]; omega), row_S rfl hd, icompare_eq]; rfl
    | cons f m g r =>
      have h2 := drop_ltS hb
      have g2 := gd_drop gb (i := i)
      rw [hb] at g2
      have := sg_range m
      rw [if_neg (by rw [lenSI]; omega), row_S rfl hd, row_S rfl hb, hr e f (by omega) g1.1 g2.1, Option.bind_some, icompare_eq, icompare_eq, cmpFractions_eq g1.2.1.1 g2.2.1.1]
      simp only [Option.bind_some, cmpS]
      by_cases q1 : cmpS e f = 1
      · rw [if_pos q1, if_pos q1]; rfl
      · rw [if_neg q1, if_neg q1]
        by_cases q2 : cmpS e f = -1
        · rw [if_pos q2, if_pos q2, show cmpI m 0 = sg m from rfl, wid (by omega) (by omega)]; congr 1; omega
        · rw [if_neg q2, if_neg q2]
          by_cases q3 : cmpF x d m g = 0
          · rw [if_pos q3, if_pos q3, wid (by omega) (by omega)]
            have := order_loop ga gb hc hr l (i + 1) n (drop_succS hd) (by omega) (by omega) (by omega)
            rw [drop_succS hb] at this
            exact this
          · rw [if_neg q3, if_neg q3]
theorem order_eq : ∀ (k : Nat) (a b : S), a.sizeS + 1 < k → a.sizeS ≤ cap → gdS a → gdS b → impl_order k a.rowsS b.rowsS = some (cmpS a b)
  | 0, _, _, h, _, _, _ => absurd h (Nat.not_lt_zero _)
  | k + 1, a, b, h, hc, ga, gb => by
    have hl := a.len_sizeS
    simp only [impl_order, impl_order_b, impl_order_p2]
    have := order_loop (rec_ := impl_order k) ga gb hc (fun e f he ge gf => order_eq k e f (by omega) (by omega) ge gf) a 0 k (drop_zeroS a) (by omega) (by omega) (by omega)
    rw [drop_zeroS] at this
    exact this
theorem suCmp_loop {rec_ : Rw → Rw → Option Int} {a b : S} (ga : gdS a) (gb : gdS b) (hc : a.sizeS ≤ cap) (hr : ∀ e f : S, e.sizeS < a.sizeS → gdS e → gdS f → rec_ e.rowsS f.rowsS = some (cmpS e f)) :
    ∀ (t : S) (i : Nat), dropS a i = t → i ≤ a.lenS → i ≤ b.lenS → spec_suCmp_l0 rec_ a.rowsS b.rowsS (spec_suCmp_p2 a.rowsS b.rowsS) t.rowsS i = some (cmpS t (dropS b i))
  | nil, i, hd, hi, hj => by
    have h1 := drop_geS hd
    have hia : a.lenS = i := by omega
    simp only [rowsS, spec_suCmp_l0]
    unfold spec_suCmp_p2 spec_suCmp_p3
    rw [if_pos ⟨by rw [lenSI]; omega, by rw [lenSI, lenSI]; omega, rowsWideS b⟩, lenSI, Int.toNat_natCast, hia, ← rows_dropS]
    cases hb : dropS b i with
    | nil => rfl
    | cons f m g r =>
      have := sg_range m
      unfold spec_suSign
      rw [if_neg (by rw [lenSI]; simp only [lenS]; omega), row_S0, l1Sign_eq]
      simp only [Option.bind_some, cmpS]
      rw [show cmpI m 0 = sg m from rfl, wid (by omega) (by omega)]; congr 1; omega
  | cons e x d l, i, hd, hi, hj => by
    have h1 := drop_ltS hd
    have hs := drop_cons_sizeS hd
    have g1 := gd_drop ga (i := i)
    rw [hd] at g1
    simp only [rowsS, spec_suCmp_l0, cell_S]
    cases hb : dropS b i with
    | nil =>
      have h2 := drop_geS hb
      rw [if_pos (by rw [lenSI]; omega), l1Sign_eq]; rfl
    | cons f m g r =>
      have h2 := drop_ltS hb
      have g2 := gd_drop gb (i := i)
      rw [hb] at g2
      have := sg_range m
      have hrng := cmpS_range e f
      have hF := cmpF_eq g1.2.1.1 g2.2.1.1
      rw [if_neg (by rw [lenSI]; omega), row_S rfl hb, hr e f (by omega) g1.1 g2.1, Option.bind_some, l1Sign_eq, l1Sign_eq, shCmp_eq g1.2.1.1 g2.2.1.1]
      simp only [Option.bind_some, cmpS]
      by_cases q1 : cmpS e f = 1
      · rw [if_pos (by omega), if_pos q1]; rfl
      · rw [if_neg (by omega), if_neg q1]
        by_cases q2 : cmpS e f = -1
        · rw [if_pos (by omega), if_pos q2, show cmpI m 0 = sg m from rfl, wid (by omega) (by omega)]; congr 1; omega
        · rw [if_neg (by omega), if_neg q2]
          by_cases q3 : cmpF x d m g = 0
          · obtain ⟨z1, z2⟩ := hF.1 q3
            rw [if_pos q3, if_neg (by simp [z1, z2])]
            have := suCmp_loop ga gb hc hr l (i + 1) (drop_succS hd) (by omega) (by omega)
            rw [drop_succS hb] at this
            exact this
          · have : ¬ (x = m ∧ d = g) := fun z => q3 (hF.2 z)
            rw [if_neg q3, if_pos (by simp only [Bool.and_true, Bool.not_eq_true', Bool.and_eq_false_iff, decide_eq_false_iff_not]; exact Decidable.not_and_iff_or_not.1 this)]
theorem suCmp_eq : ∀ (k : Nat) (a b : S), a.sizeS < k → a.sizeS ≤ cap → gdS a → gdS b → spec_suCmp k a.rowsS b.rowsS = some (cmpS a b)
  | 0, _, _, h, _, _, _ => absurd h (Nat.not_lt_zero _)
  | k + 1, a, b, h, hc, ga, gb => by
    have hl := a.len_sizeS
    simp only [spec_suCmp, spec_suCmp_b]
    rw [if_pos (by rw [rowsS_len]; omega)]
    have := suCmp_loop (rec_ := spec_suCmp k) ga gb hc (fun e f he ge gf => suCmp_eq k e f (by omega) (by omega) ge gf) a 0 (drop_zeroS a) (by omega) (by omega)
    rw [drop_zeroS] at this
    exact this
end Go.Proofs.Try

namespace Go.Proofs.Try
open Go Go.AX S
theorem two_if {α : Type} {p : Bool} {c : Int} {X F : α} : (if p = true then (if c = 0 then F else X) else F) = if (p && decide (c ≠ 0)) = true then X else F := by
  cases p <;> by_cases h : c = 0 <;> simp [h]
/-! ### what is right -/
def nodesS : S → Nat
  | nil => 0
  | cons e _ _ l => 2 + nodesS e + nodesS l
def dpS : S → Nat
  | nil => 0
  | cons e _ _ l => max (1 + dpS e) (dpS l)
/-- Coefficients in their range, exponents that fall; p: the exponent aheadS. -/
def formS : Option S → S → Bool
  | _, nil => true
  | p, cons e c c₂ l => frP c c₂ && decide (c ≠ 0) && formS none e && (match p with | none => true | some q => decide (0 < cmpS q e)) && formS (some e) l
def surP (t : S) : Bool := decide (1 + nodesS t ≤ 60) && decide (dpS t ≤ 6) && formS none t
theorem nodesS_size (t : S) : nodesS t = 2 * sizeS t := by
  induction t with
  | nil => rfl
  | cons e c c₂ l ihe ihl => simp only [nodesS, sizeS, ihe, ihl]; omega
theorem surP_size {t : S} (h : surP t = true) : sizeS t ≤ 30 := by
  simp only [surP, Bool.and_eq_true, decide_eq_true_eq] at h
  have := nodesS_size t
  omega
theorem sform_gd {p : Option S} {t : S} (h : formS p t = true) : gdS t := by
  induction t generalizing p with
  | nil => trivial
  | cons e c c₂ l ihe ihl =>
    simp only [formS, Bool.and_eq_true] at h
    exact ⟨ihe h.1.1.2, ⟨h.1.1.1.1, by have := h.1.1.1.2; simpa using this⟩, ihl h.2⟩
/-- The exponent of the term aheadS of the i-th. -/
def aheadS (t : S) : Nat → Option S
  | 0 => none
  | i + 1 => match dropS t i with
    | cons e _ _ _ => some e
    | nil => none
theorem aheadS_succ {t : S} {i : Nat} {e : S} {c c₂ : Int} {l : S} (h : dropS t i = cons e c c₂ l) : aheadS t (i + 1) = some e := by simp [aheadS, h]
theorem aheadS_some {t : S} {i : Nat} (h0 : 0 < i) (h : i ≤ t.lenS) : ∃ q c c₂ l, dropS t (i - 1) = cons q c c₂ l ∧ aheadS t i = some q := by
  obtain ⟨j, rfl⟩ : ∃ j, i = j + 1 := ⟨i - 1, by omega⟩
  cases hq : dropS t j with
  | nil => have := drop_geS hq; omega
  | cons q c c₂ l => exact ⟨q, c, c₂, l, hq, aheadS_succ hq⟩
theorem dpS_drop {t : S} : ∀ {i : Nat}, dpS (dropS t i) ≤ dpS t := by
  induction t with
  | nil => intro i; simp
  | cons e c c₂ l _ ih => intro i; cases i with
    | zero => simp
    | succ i => have := ih (i := i); simp only [dropS, dpS]; omega
/-- What a check of a tree tells. -/
def TellsS (r : Bool × Int) (n : Int) (ok : Prop) (m : Int) : Prop := (r.1 = true ↔ ok) ∧ (r.1 = true → r.2 = m) ∧ 0 ≤ r.2 ∧ r.2 ≤ 61 ∧ n ≤ r.2
theorem sat2_loop {k : Nat} {rec_ : Rw → Int → Int → Int → Int → Option (Bool × Int)} {a : S} {d1 d2 deep : Int} (hd : 0 ≤ deep ∧ deep ≤ 6) (hk : a.sizeS + 300 ≤ k) (hc : a.sizeS ≤ cap)
    (hr : ∀ (e : S) (x y n : Int), e.sizeS < a.sizeS → 0 ≤ n → n ≤ 60 → ∃ r, rec_ e.rowsS x y (deep + 1) n = some r ∧ TellsS r n (n + 1 + nodesS e ≤ 60 ∧ deep + 1 + dpS e ≤ 6 ∧ formS none e = true) (n + 1 + nodesS e)) :
    ∀ (t : S) (i : Nat) (m : Int), dropS a i = t → i ≤ a.lenS → (∀ q, aheadS a i = some q → gdS q) → 0 ≤ m → m ≤ 60 → ∃ r, impl_surrealAt_2_l0 k rec_ a.rowsS d1 d2 deep (fun v => impl_surrealAt_2_p3 v) t.rowsS i m = some r ∧ TellsS r m (m + nodesS t ≤ 60 ∧ deep + dpS t ≤ 6 ∧ formS (aheadS a i) t = true) (m + nodesS t)
  | nil, i, m, hdr, hi, _, h0, h60 => by
    refine ⟨(true, m), rfl, ?_⟩
    simp only [TellsS, nodesS, dpS, formS]
    refine ⟨⟨fun _ => ⟨by omega, by omega, trivial⟩, fun _ => trivial⟩, fun _ => by omega, h0, by omega, by omega⟩
  | cons e c c₂ l, i, m, hdr, hi, hcalm, h0, h60 => by
    have hs := drop_cons_sizeS hdr
    simp only [rowsS, impl_surrealAt_2_l0, cell_S]
    rw [wid (n := m + 1) (by omega) (by omega)]
    by_cases h1 : 60 < m + 1
    · rw [if_pos h1]
      refine ⟨_, rfl, ?_⟩
      simp only [TellsS, nodesS]
      refine ⟨⟨fun h => (by cases h), fun h => by omega⟩, fun h => (by cases h), by omega, by omega, by omega⟩
    · rw [if_neg h1, IsFraction_eq (by omega), Option.bind_some, two_if]
      by_cases h2 : (frP c c₂ && decide (c ≠ 0)) = true
      · rw [if_pos h2, wid (n := deep + 1) (by omega) (by omega)]
        obtain ⟨r1, e1, t1, t2, t3, t4, t5⟩ := hr e c c₂ (m + 1) (by omega) (by omega) (by omega)
        rw [e1, Option.bind_some]
        obtain ⟨b1, m1⟩ := r1
        dsimp only at t1 t2 t3 t4 t5 ⊢
        cases b1 with
        | false =>
          rw [if_neg (by simp)]
          refine ⟨_, rfl, ?_⟩
          simp only [TellsS]
          refine ⟨⟨fun h => (by cases h), fun h => ?_⟩, fun h => (by cases h), t3, t4, by omega⟩
          obtain ⟨q1, q2, q3⟩ := h
          simp only [nodesS, dpS, formS, Bool.and_eq_true] at q1 q2 q3
          exact t1.2 ⟨by omega, by omega, q3.1.1.2⟩
        | true =>
          obtain ⟨u1, u2, u3⟩ := t1.1 rfl
          obtain rfl := t2 rfl
          rw [if_pos rfl]
          have go : ∀ (hp : (match aheadS a i with | none => true | some q => decide (0 < cmpS q e)) = true), ∃ r, impl_surrealAt_2_l0 k rec_ a.rowsS d1 d2 deep (fun v => impl_surrealAt_2_p3 v) l.rowsS (i + 1) (m + 1 + 1 + nodesS e) = some r ∧ TellsS r m (m + nodesS (cons e c c₂ l) ≤ 60 ∧ deep + dpS (cons e c c₂ l) ≤ 6 ∧ formS (aheadS a i) (cons e c c₂ l) = true) (m + nodesS (cons e c c₂ l)) := by
            intro hp
            obtain ⟨r, er, s1, s2, s3, s4, s5⟩ := sat2_loop hd hk hc hr l (i + 1) (m + 1 + 1 + nodesS e) (drop_succS hdr) (drop_ltS hdr) (by rw [aheadS_succ hdr]; intro q hq; cases hq; exact sform_gd u3) (by omega) (by omega)
            refine ⟨r, er, ?_⟩
            rw [aheadS_succ hdr] at s1
            simp only [TellsS, nodesS, dpS, formS, Bool.and_eq_true]
            refine ⟨s1.trans ⟨fun q => ⟨by have := q.1; omega, by have := q.2.1; omega, ⟨⟨(by simpa using h2), u3⟩, hp⟩, q.2.2⟩, fun q => ⟨by have := q.1; omega, by have := q.2.1; omega, q.2.2.2⟩⟩, fun q => by rw [s2 q]; omega, s3, s4, by omega⟩
          by_cases h3 : (0 : Int) < (i : Int)
          · obtain ⟨q, qc, qc₂, ql, hq, ha⟩ := aheadS_some (t := a) (i := i) (by omega) hi
            have hqs := drop_cons_sizeS hq
            rw [if_pos h3, wid (n := (i : Int) - 1) (by omega) (by have := a.len_sizeS; have : cap = 1099511627776 := rfl; omega), row_S (n := i - 1) (by omega) hq, order_eq k q e (by omega) (by omega) (hcalm q ha) (sform_gd u3), Option.bind_some]
            by_cases h4 : cmpS q e ≤ 0
            · rw [if_pos h4]
              refine ⟨_, rfl, ?_⟩
              simp only [TellsS]
              refine ⟨⟨fun h => (by cases h), fun h => ?_⟩, fun h => (by cases h), t3, t4, by omega⟩
              obtain ⟨_, _, q3⟩ := h
              simp only [formS, ha, Bool.and_eq_true, decide_eq_true_eq] at q3
              have := q3.1.2
              omega
            · rw [if_neg h4]
              exact go (by rw [ha]; simp; omega)
          · rw [if_neg h3]
            have : i = 0 := by omega
            subst this
            exact go rfl
      · rw [if_neg h2]
        refine ⟨_, rfl, ?_⟩
        simp only [TellsS]
        refine ⟨⟨fun h => (by cases h), fun h => ?_⟩, fun h => (by cases h), by omega, by omega, by omega⟩
        obtain ⟨_, _, q3⟩ := h
        simp only [formS, Bool.and_eq_true] at q3 h2
        exact absurd q3.1.1.1 h2
theorem sat2_eq : ∀ (k : Nat) (a : S) (x y deep n : Int), a.sizeS + 300 < k → a.sizeS ≤ cap → 0 ≤ deep → deep ≤ 7 → 0 ≤ n → n ≤ 60 →
    ∃ r, impl_surrealAt_2 k a.rowsS x y deep n = some r ∧ TellsS r n (n + 1 + nodesS a ≤ 60 ∧ deep + dpS a ≤ 6 ∧ formS none a = true) (n + 1 + nodesS a)
  | 0, _, _, _, _, _, h, _, _, _, _, _ => absurd h (Nat.not_lt_zero _)
  | k + 1, a, x, y, deep, n, h, hc, h0, h7, n0, n60 => by
    have hl := a.len_sizeS
    simp only [impl_surrealAt_2, impl_surrealAt_2_b]
    rw [wid (n := n + 1) (by omega) (by omega)]
    by_cases h1 : 60 < n + 1
    · rw [if_pos h1]
      refine ⟨_, rfl, ?_⟩
      simp only [TellsS]
      exact ⟨⟨fun h => (by cases h), fun h => by omega⟩, fun h => (by cases h), by omega, by omega, by omega⟩
    · rw [if_neg h1]
      by_cases h2 : 6 < deep
      · rw [if_pos h2]
        refine ⟨_, rfl, ?_⟩
        simp only [TellsS]
        exact ⟨⟨fun h => (by cases h), fun h => by omega⟩, fun h => (by cases h), by omega, by omega, by omega⟩
      · rw [if_neg h2, if_pos (by rw [rowsS_len]; omega)]
        obtain ⟨r, e, s1, s2, s3, s4, s5⟩ := sat2_loop (k := k) (rec_ := impl_surrealAt_2 k) (a := a) (d1 := x) (d2 := y) (deep := deep) (by omega) (by omega) hc (fun e y z m he m0 m60 => sat2_eq k e y z (deep + 1) m (by omega) (by omega) (by omega) (by omega) m0 m60) a 0 (n + 1) (drop_zeroS a) (by omega) (by intro q hq; cases hq) (by omega) (by omega)
        exact ⟨r, e, s1, s2, s3, s4, by omega⟩
theorem sat1_loop {k : Nat} {a : S} (hk : a.sizeS + 300 < k) (hc : a.sizeS ≤ cap) :
    ∀ (t : S) (i : Nat) (m : Int), dropS a i = t → i ≤ a.lenS → (∀ q, aheadS a i = some q → gdS q) → 0 ≤ m → m ≤ 60 → ∃ r : Bool × Int, impl_surrealAt_l0 k a.rowsS 0 (fun v => impl_surrealAt_p3 a.rowsS v) t.rowsS i m = some (r.1, a.rowsS, r.2) ∧ (r.1 = true ↔ m + nodesS t ≤ 60 ∧ dpS t ≤ 6 ∧ formS (aheadS a i) t = true) ∧ (r.1 = true → r.2 = m + nodesS t)
  | nil, i, m, hdr, hi, _, h0, h60 => by
    refine ⟨(true, m), rfl, ?_⟩
    simp only [nodesS, dpS, formS]
    exact ⟨⟨fun _ => ⟨by omega, by omega, trivial⟩, fun _ => trivial⟩, fun _ => by omega⟩
  | cons e c c₂ l, i, m, hdr, hi, hcalm, h0, h60 => by
    have hs := drop_cons_sizeS hdr
    simp only [rowsS, impl_surrealAt_l0, cell_S]
    rw [wid (n := m + 1) (by omega) (by omega)]
    by_cases h1 : 60 < m + 1
    · rw [if_pos h1]
      exact ⟨(false, _), rfl, ⟨fun h => (by cases h), fun h => by simp only [nodesS] at h; omega⟩, fun h => (by cases h)⟩
    · rw [if_neg h1, IsFraction_eq (by omega), Option.bind_some, two_if]
      by_cases h2 : (frP c c₂ && decide (c ≠ 0)) = true
      · rw [if_pos h2, wid (n := 0 + 1) (by omega) (by omega)]
        obtain ⟨r1, e1, t1, t2, t3, t4, t5⟩ := sat2_eq k e c c₂ (0 + 1) (m + 1) (by omega) (by omega) (by omega) (by omega) (by omega) (by omega)
        rw [e1, Option.bind_some]
        obtain ⟨b1, m1⟩ := r1
        dsimp only at t1 t2 t3 t4 t5 ⊢
        cases b1 with
        | false =>
          rw [if_neg (by simp)]
          refine ⟨(false, _), rfl, ⟨fun h => (by cases h), fun h => ?_⟩, fun h => (by cases h)⟩
          obtain ⟨q1, q2, q3⟩ := h
          simp only [nodesS, dpS, formS, Bool.and_eq_true] at q1 q2 q3
          exact t1.2 ⟨by omega, by omega, q3.1.1.2⟩
        | true =>
          obtain ⟨u1, u2, u3⟩ := t1.1 rfl
          obtain rfl := t2 rfl
          rw [if_pos rfl]
          have go : ∀ (hp : (match aheadS a i with | none => true | some q => decide (0 < cmpS q e)) = true), ∃ r : Bool × Int, impl_surrealAt_l0 k a.rowsS 0 (fun v => impl_surrealAt_p3 a.rowsS v) l.rowsS (i + 1) (m + 1 + 1 + nodesS e) = some (r.1, a.rowsS, r.2) ∧ (r.1 = true ↔ m + nodesS (cons e c c₂ l) ≤ 60 ∧ dpS (cons e c c₂ l) ≤ 6 ∧ formS (aheadS a i) (cons e c c₂ l) = true) ∧ (r.1 = true → r.2 = m + nodesS (cons e c c₂ l)) := by
            intro hp
            obtain ⟨r, er, s1, s2⟩ := sat1_loop hk hc l (i + 1) (m + 1 + 1 + nodesS e) (drop_succS hdr) (drop_ltS hdr) (by rw [aheadS_succ hdr]; intro q hq; cases hq; exact sform_gd u3) (by omega) (by omega)
            refine ⟨r, er, ?_⟩
            rw [aheadS_succ hdr] at s1
            simp only [nodesS, dpS, formS, Bool.and_eq_true]
            exact ⟨s1.trans ⟨fun q => ⟨by have := q.1; omega, by have := q.2.1; omega, ⟨⟨(by simpa using h2), u3⟩, hp⟩, q.2.2⟩, fun q => ⟨by have := q.1; omega, by have := q.2.1; omega, q.2.2.2⟩⟩, fun q => by rw [s2 q]; omega⟩
          by_cases h3 : (0 : Int) < (i : Int)
          · obtain ⟨q, qc, qc₂, ql, hq, ha⟩ := aheadS_some (t := a) (i := i) (by omega) hi
            have hqs := drop_cons_sizeS hq
            rw [if_pos h3, wid (n := (i : Int) - 1) (by omega) (by have := a.len_sizeS; have : cap = 1099511627776 := rfl; omega), row_S (n := i - 1) (by omega) hq, order_eq k q e (by omega) (by omega) (hcalm q ha) (sform_gd u3), Option.bind_some]
            by_cases h4 : cmpS q e ≤ 0
            · rw [if_pos h4]
              refine ⟨(false, _), rfl, ⟨fun h => (by cases h), fun h => ?_⟩, fun h => (by cases h)⟩
              obtain ⟨_, _, q3⟩ := h
              simp only [formS, ha, Bool.and_eq_true, decide_eq_true_eq] at q3
              have := q3.1.2
              omega
            · rw [if_neg h4]
              exact go (by rw [ha]; simp; omega)
          · rw [if_neg h3]
            have : i = 0 := by omega
            subst this
            exact go rfl
      · rw [if_neg h2]
        refine ⟨(false, _), rfl, ⟨fun h => (by cases h), fun h => ?_⟩, fun h => (by cases h)⟩
        obtain ⟨_, _, q3⟩ := h
        simp only [formS, Bool.and_eq_true] at q3 h2
        exact absurd q3.1.1.1 h2
theorem sat1_eq (k : Nat) (a : S) (hk : a.sizeS + 300 < k) (hc : a.sizeS ≤ cap) : ∃ r : Bool × Int, impl_surrealAt k a.rowsS 0 0 = some (r.1, a.rowsS, r.2) ∧ (r.1 = true ↔ surP a = true) ∧ (r.1 = true → r.2 = 1 + nodesS a) := by
  have hl := a.len_sizeS
  unfold impl_surrealAt
  rw [wid (n := 0 + 1) (by omega) (by omega), if_neg (by omega), if_neg (by omega), if_pos (by rw [rowsS_len]; omega)]
  obtain ⟨r, e, s, v⟩ := sat1_loop hk hc a 0 (0 + 1) (drop_zeroS a) (by omega) (by intro q hq; cases hq) (by omega) (by omega)
  refine ⟨r, e, s.trans ?_, fun q => by rw [v q]; omega⟩
  simp only [surP, Bool.and_eq_true, decide_eq_true_eq, aheadS]
  exact ⟨fun q => ⟨⟨by have := q.1; omega, q.2.1⟩, q.2.2⟩, fun q => ⟨by have := q.1.1; omega, q.1.2, q.2⟩⟩
theorem IsSurreal_eq (k : Nat) (a : S) (hk : a.sizeS + 300 < k) (hc : a.sizeS ≤ cap) : impl_IsSurreal k a.rowsS = some (surP a) := by
  obtain ⟨r, e, s, _⟩ := sat1_eq k a hk hc
  unfold impl_IsSurreal
  rw [e, Option.bind_some]
  cases hb : surP a with
  | true => rw [if_pos (s.2 hb)]
  | false => rw [if_neg (fun q => by rw [s.1 q] at hb; cases hb)]
def toldST (t : S) : S × Bool := if surP t then (t, true) else (nil, false)
/-! ### spec's check -/
theorem sleft_loop {rec_ : Rw → Int → Int → Option Int} {a : S} {depth : Int} (hd : 0 ≤ depth ∧ depth ≤ 6) (hr : ∀ (e : S) (v : Int), e.sizeS < a.sizeS → 0 < depth → -1 ≤ v → v ≤ 60 → ∃ r, rec_ e.rowsS (depth - 1) v = some r ∧ -2 ≤ r ∧ r ≤ 60 ∧ (1 + nodesS e ≤ v ∧ dpS e ≤ depth - 1 → r = v - 1 - nodesS e) ∧ (¬ (1 + nodesS e ≤ v ∧ dpS e ≤ depth - 1) → r < 0)) :
    ∀ (t : S) (v : Int), t.sizeS ≤ a.sizeS → -2 ≤ v → v ≤ 60 → ∃ r, spec_suLeft_l0 rec_ a.rowsS depth (fun v => some v) t.rowsS v = some r ∧ -2 ≤ r ∧ r ≤ 60 ∧ (nodesS t ≤ v ∧ dpS t ≤ depth → r = v - nodesS t) ∧ (¬ (nodesS t ≤ v ∧ dpS t ≤ depth) → r < 0)
  | nil, v, _, v0, v60 => ⟨v, rfl, v0, v60, fun _ => by simp [nodesS], fun h => by simp only [nodesS, dpS] at h; omega⟩
  | cons e c c₂ l, v, hs, v0, v60 => by
    simp only [sizeS] at hs
    simp only [rowsS, spec_suLeft_l0, cell_S]
    by_cases h1 : v < 0
    · rw [if_pos h1]
      exact ⟨-1, rfl, by omega, by omega, fun h => by simp only [nodesS] at h; omega, fun _ => by omega⟩
    · rw [if_neg h1]
      by_cases h2 : depth = 0
      · rw [if_pos h2]
        exact ⟨-1, rfl, by omega, by omega, fun h => by simp only [dpS] at h; omega, fun _ => by omega⟩
      · rw [if_neg h2, wid (n := depth - 1) (by omega) (by omega), wid (n := v - 1) (by omega) (by omega)]
        obtain ⟨r1, e1, p1, p2, p3, p4⟩ := hr e (v - 1) (by omega) (by omega) (by omega) (by omega)
        rw [e1, Option.bind_some]
        obtain ⟨r, er, q1, q2, q3, q4⟩ := sleft_loop hd hr l r1 (by omega) p1 p2
        refine ⟨r, er, q1, q2, fun h => ?_, fun h => ?_⟩
        · simp only [nodesS, dpS] at h ⊢
          have e2 := p3 ⟨by omega, by omega⟩
          rw [q3 ⟨by omega, by omega⟩, e2]; omega
        · by_cases h3 : 1 + (nodesS e : Int) ≤ v - 1 ∧ dpS e ≤ depth - 1
          · have e2 := p3 h3
            refine q4 fun q => h ?_
            simp only [nodesS, dpS]
            omega
          · exact q4 fun q => by have := p4 h3; omega
theorem sleft_eq : ∀ (k : Nat) (a : S) (depth v : Int), a.sizeS < k → a.sizeS ≤ cap → 0 ≤ depth → depth ≤ 6 → -1 ≤ v → v ≤ 60 →
    ∃ r, spec_suLeft k a.rowsS depth v = some r ∧ -2 ≤ r ∧ r ≤ 60 ∧ (1 + nodesS a ≤ v ∧ dpS a ≤ depth → r = v - 1 - nodesS a) ∧ (¬ (1 + nodesS a ≤ v ∧ dpS a ≤ depth) → r < 0)
  | 0, _, _, _, h, _, _, _, _, _ => absurd h (Nat.not_lt_zero _)
  | k + 1, a, depth, v, h, hc, d0, d6, v0, v60 => by
    have hl := a.len_sizeS
    simp only [spec_suLeft, spec_suLeft_b]
    rw [if_pos (by rw [rowsS_len]; omega), wid (n := v - 1) (by omega) (by omega)]
    obtain ⟨r, er, q1, q2, q3, q4⟩ := sleft_loop (rec_ := spec_suLeft k) (a := a) (depth := depth) ⟨d0, d6⟩ (fun e u he hd u0 u60 => sleft_eq k e (depth - 1) u (by omega) (by omega) (by omega) (by omega) u0 u60) a (v - 1) (Nat.le_refl _) (by omega) (by omega)
    exact ⟨r, er, q1, q2, fun q => q3 ⟨by omega, q.2⟩, fun q => q4 fun u => q ⟨by omega, u.2⟩⟩
theorem sform_loop_all {k : Nat} {rec_ : Rw → Int → Option Bool} {a : S} {depth : Int} (hd : 0 ≤ depth ∧ depth ≤ 6) (hk : a.sizeS + 300 ≤ k) (hc : a.sizeS ≤ cap)
    (hr : ∀ e : S, e.sizeS < a.sizeS → rec_ e.rowsS (depth - 1) = some (decide ((dpS e : Int) ≤ depth - 1) && formS none e)) :
    ∀ (t : S) (i : Nat), dropS a i = t → i ≤ a.lenS → (∀ q, aheadS a i = some q → gdS q) → spec_suForm_l0 k rec_ a.rowsS depth spec_suForm_p3 t.rowsS i = some (decide ((dpS t : Int) ≤ depth) && formS (aheadS a i) t)
  | nil, i, hdr, hi, _ => by
    have : decide ((dpS nil : Int) ≤ depth) = true := decide_eq_true (by simp only [dpS]; omega)
    rw [this]; rfl
  | cons e c c₂ l, i, hdr, hi, hgdS => by
    have hs := drop_cons_sizeS hdr
    simp only [rowsS, spec_suForm_l0, cell_S, shGood_eq (show 200 < k by omega), Option.bind_some, two_if]
    by_cases h2 : (frP c c₂ && decide (c ≠ 0)) = true
    · rw [if_pos h2, wid (n := depth - 1) (by omega) (by omega), hr e (by omega), Option.bind_some]
      by_cases h3 : (decide ((dpS e : Int) ≤ depth - 1) && formS none e) = true
      · rw [if_pos h3]
        simp only [Bool.and_eq_true, decide_eq_true_eq] at h3
        have hce := sform_gd h3.2
        have go : ∀ (hp : (match aheadS a i with | none => true | some q => decide (0 < cmpS q e)) = true), spec_suForm_l0 k rec_ a.rowsS depth spec_suForm_p3 l.rowsS (i + 1) = some (decide ((dpS (cons e c c₂ l) : Int) ≤ depth) && formS (aheadS a i) (cons e c c₂ l)) := by
          intro hp
          rw [sform_loop_all hd hk hc hr l (i + 1) (drop_succS hdr) (drop_ltS hdr) (by rw [aheadS_succ hdr]; intro q hq; cases hq; exact hce), aheadS_succ hdr]
          have e1 : decide ((dpS (cons e c c₂ l) : Int) ≤ depth) = decide ((dpS l : Int) ≤ depth) := by simp only [dpS]; congr 1; apply propext; omega
          have h6 : formS (aheadS a i) (cons e c c₂ l) = formS (some e) l := by
            simp only [formS, h2, h3.2, Bool.true_and]
            cases hq : aheadS a i with
            | none => simp
            | some q => rw [hq] at hp; simp only at hp; simp [hp]
          rw [e1, h6]
        by_cases h4 : (0 : Int) < (i : Int)
        · obtain ⟨q, qc, qc₂, ql, hq, ha'⟩ := aheadS_some (t := a) (i := i) (by omega) hi
          have hqs := drop_cons_sizeS hq
          have hcq := hgdS q ha'
          rw [if_pos h4, wid (n := (i : Int) - 1) (by omega) (by have := a.len_sizeS; have : cap = 1099511627776 := rfl; omega), row_S (n := i - 1) (by omega) hq, suCmp_eq k q e (by omega) (by omega) hcq hce, Option.bind_some]
          by_cases h5 : cmpS q e ≤ 0
          · rw [if_pos h5]
            have : decide (0 < cmpS q e) = false := by simpa using h5
            simp [formS, ha', this]
          · rw [if_neg h5]
            exact go (by rw [ha']; simp; omega)
        · rw [if_neg h4]
          have : i = 0 := by omega
          subst this
          exact go rfl
      · rw [if_neg h3]
        have : (decide ((dpS (cons e c c₂ l) : Int) ≤ depth) && formS (aheadS a i) (cons e c c₂ l)) = false := by
          refine Bool.eq_false_iff.2 fun hx => h3 ?_
          rw [Bool.and_eq_true, decide_eq_true_eq] at hx ⊢
          obtain ⟨x1, x2⟩ := hx
          simp only [dpS] at x1
          simp only [formS, Bool.and_eq_true] at x2
          exact ⟨by omega, x2.1.1.2⟩
        rw [this]
    · rw [if_neg h2]
      have : formS (aheadS a i) (cons e c c₂ l) = false := by
        simp only [formS]
        cases hx : (frP c c₂ && decide (c ≠ 0)) with
        | true => exact absurd hx h2
        | false => simp
      rw [this, Bool.and_false]
theorem sform_all : ∀ (k : Nat) (a : S) (depth : Int), a.sizeS + 300 < k → a.sizeS ≤ cap → -1 ≤ depth → depth ≤ 6 → spec_suForm k a.rowsS depth = some (decide ((dpS a : Int) ≤ depth) && formS none a)
  | 0, _, _, h, _, _, _ => absurd h (Nat.not_lt_zero _)
  | k + 1, a, depth, h, hc, d0, d6 => by
    have hl := a.len_sizeS
    simp only [spec_suForm, spec_suForm_b]
    by_cases h1 : depth < 0
    · rw [if_pos h1]
      have : decide ((dpS a : Int) ≤ depth) = false := by simp; omega
      rw [this, Bool.false_and]
    · rw [if_neg h1, if_pos (by rw [rowsS_len]; omega), sform_loop_all (a := a) (by omega) (by omega) hc (fun e he => sform_all k e (depth - 1) (by omega) (by omega) (by omega) (by omega)) a 0 (drop_zeroS a) (by omega) (by intro q hq; cases hq)]
      rfl
theorem suGood_all (k : Nat) (a : S) (h : a.sizeS + 300 < k) (hc : a.sizeS ≤ cap) : spec_suGood k a.rowsS = some (surP a) := by
  unfold spec_suGood
  obtain ⟨r, er, q1, q2, q3, q4⟩ := sleft_eq k a 6 60 (by omega) hc (by omega) (by omega) (by omega) (by omega)
  rw [er, Option.bind_some]
  by_cases h1 : 1 + nodesS a ≤ 60 ∧ dpS a ≤ 6
  · have := q3 ⟨by omega, by omega⟩
    rw [if_pos (by omega), sform_all k a 6 h hc (by omega) (by omega), Option.bind_some]
    have h2 : decide ((dpS a : Int) ≤ 6) = true := by simp; omega
    simp only [surP, h2, h1.1, h1.2, decide_true, Bool.true_and]
    cases formS none a <;> rfl
  · have := q4 (by omega)
    rw [if_neg (by omega)]
    have : surP a = false := by
      cases hx : surP a with
      | false => rfl
      | true => simp only [surP, Bool.and_eq_true, decide_eq_true_eq] at hx; exact absurd hx.1 h1
    rw [this]
end Go.Proofs.Try

namespace Go.Proofs.Try
open Go Go.AX S
theorem cmpS_trans {a : S} : ∀ {b c : S}, gdS a → gdS b → gdS c → cmpS a b = 1 → cmpS b c = 1 → cmpS a c = 1 := by
  induction a with
  | nil =>
    intro b c ga gb gc h1 h2
    cases b with
    | nil => simp [cmpS] at h1
    | cons f m g r =>
      simp only [cmpS] at h1
      have hm : m < 0 := sg_neg.1 (by omega)
      have hg := frP_in gb.2.1.1
      cases c with
      | nil => simp only [cmpS] at h2; omega
      | cons k u v s =>
        have hv := frP_in gc.2.1.1
        have hr := cmpS_range f k
        simp only [cmpS] at h2 ⊢
        by_cases q1 : cmpS f k = 1
        · rw [if_pos q1] at h2; omega
        · rw [if_neg q1] at h2
          by_cases q2 : cmpS f k = -1
          · rw [if_pos q2] at h2; exact h2
          · rw [if_neg q2] at h2
            have hu : u < 0 := by
              by_cases q3 : cmpF m g u v = 0
              · have := (cmpF_eq gb.2.1.1 gc.2.1.1).1 q3; omega
              · rw [if_neg q3] at h2
                exact cmpF_ng (by omega) (by omega) h2 hm
            have := sg_neg.2 hu; omega
  | cons e n d l ihe ihl =>
    intro b c ga gb gc h1 h2
    have hd := frP_in ga.2.1.1
    cases b with
    | nil =>
      simp only [cmpS] at h1
      have hn : 0 < n := sg_one.1 h1
      cases c with
      | nil => simp [cmpS] at h2
      | cons k u v s =>
        simp only [cmpS] at h2
        have hu : u < 0 := sg_neg.1 (by omega)
        have hv := frP_in gc.2.1.1
        have hF := cmpF_sign (show 0 < d by omega) (show 0 < v by omega) hn hu
        simp only [cmpS]
        by_cases q1 : cmpS e k = 1
        · rw [if_pos q1]; exact h1
        · rw [if_neg q1]
          by_cases q2 : cmpS e k = -1
          · rw [if_pos q2]; exact h2
          · rw [if_neg q2, if_neg (by omega)]; exact hF
    | cons f m g r =>
      have hg := frP_in gb.2.1.1
      cases c with
      | nil =>
        simp only [cmpS] at h1 h2 ⊢
        have hm : 0 < m := sg_one.1 h2
        have hr := cmpS_range e f
        by_cases q1 : cmpS e f = 1
        · rw [if_pos q1] at h1; exact h1
        · rw [if_neg q1] at h1
          by_cases q2 : cmpS e f = -1
          · rw [if_pos q2] at h1; omega
          · rw [if_neg q2] at h1
            refine sg_one.2 ?_
            by_cases q3 : cmpF n d m g = 0
            · have := (cmpF_eq ga.2.1.1 gb.2.1.1).1 q3; omega
            · rw [if_neg q3] at h1
              exact cmpF_pos (by omega) (by omega) h1 hm
      | cons k u v s =>
        have hv := frP_in gc.2.1.1
        have t1 := @ihe f k ga.1 gb.1 gc.1
        have t2 := @ihe k f ga.1 gc.1 gb.1
        have x0 := cmpS_eq ga.1 gb.1
        have y0 := cmpS_eq gb.1 gc.1
        have z0 := cmpS_eq ga.1 gc.1
        have hx := cmpS_range e f
        have hy := cmpS_range f k
        have hz := cmpS_range e k
        have ny := cmpS_neg f k
        have F1 := cmpF_eq ga.2.1.1 gb.2.1.1
        have F2 := cmpF_eq gb.2.1.1 gc.2.1.1
        have F3 := cmpF_eq ga.2.1.1 gc.2.1.1
        have tl := @ihl r s ga.2.2 gb.2.2 gc.2.2
        simp only [cmpS] at h1 h2 ⊢
        rcases hx with hx | hx | hx
        · -- e < f
          rw [if_neg (by omega), if_pos hx] at h1
          have hm : m < 0 := sg_neg.1 (by omega)
          rcases hy with hy | hy | hy
          · rw [if_neg (by omega), if_pos hy] at h2
            have hz' : cmpS e k = -1 := by
              rcases hz with hz | hz | hz
              · exact hz
              · have := z0.1 hz; subst this; rw [cmpS_neg e f] at hy; omega
              · have := t2 hz (by omega); omega
            rw [if_neg (by omega), if_pos hz']; exact h2
          · rw [if_neg (by omega), if_neg (by omega)] at h2
            have := y0.1 hy; subst this
            rw [if_neg (by omega), if_pos hx]
            have hu : u < 0 := by
              by_cases q3 : cmpF m g u v = 0
              · have := F2.1 q3; omega
              · rw [if_neg q3] at h2; exact cmpF_ng (by omega) (by omega) h2 hm
            have := sg_neg.2 hu; omega
          · rw [if_pos hy] at h2; omega
        · -- e = f
          rw [if_neg (by omega), if_neg (by omega)] at h1
          have := x0.1 hx; subst this
          rcases hy with hy | hy | hy
          · rw [if_neg (by omega), if_pos hy] at h2
            rw [if_neg (by omega), if_pos hy]; exact h2
          · rw [if_neg (by omega), if_neg (by omega)] at h2
            rw [if_neg (by omega), if_neg (by omega)]
            by_cases q1 : cmpF n d m g = 0
            · rw [if_pos q1] at h1
              obtain ⟨rfl, rfl⟩ := F1.1 q1
              by_cases q2 : cmpF n d u v = 0
              · rw [if_pos q2] at h2 ⊢; exact tl h1 h2
              · rw [if_neg q2] at h2 ⊢; exact h2
            · rw [if_neg q1] at h1
              have h3 : cmpF n d u v = 1 := by
                by_cases q2 : cmpF m g u v = 0
                · obtain ⟨rfl, rfl⟩ := F2.1 q2; exact h1
                · rw [if_neg q2] at h2; exact cmpF_trans (by omega) (by omega) (by omega) h1 h2
              rw [if_neg (by omega)]; exact h3
          · rw [if_pos hy] at h2 ⊢
            have hm := sg_one.1 h2
            refine sg_one.2 ?_
            by_cases q1 : cmpF n d m g = 0
            · have := F1.1 q1; omega
            · rw [if_neg q1] at h1; exact cmpF_pos (by omega) (by omega) h1 hm
        · -- e > f
          rw [if_pos hx] at h1
          have hn := sg_one.1 h1
          rcases hy with hy | hy | hy
          · rw [if_neg (by omega), if_pos hy] at h2
            have hu : u < 0 := sg_neg.1 (by omega)
            have hF := cmpF_sign (show 0 < d by omega) (show 0 < v by omega) hn hu
            rcases hz with hz | hz | hz
            · rw [if_neg (by omega), if_pos hz]; exact h2
            · rw [if_neg (by omega), if_neg (by omega), if_neg (by omega)]; exact hF
            · rw [if_pos hz]; exact h1
          · have := y0.1 hy; subst this
            rw [if_pos hx]; exact h1
          · rw [if_pos (t1 hx hy)]; exact h1
end Go.Proofs.Try

namespace Go.Proofs.Try
open Go Go.AX T
/-! ### rows of terms -/
@[simp] theorem cell_T {α : Type} (x : Rw) (c : Int) (K : Rw → Int → Option α) : cell_si [.sl x, .int .i64 c] K = K x c := rfl
theorem row_T {α : Type} {t : T} {i : Int} {n : Nat} (hi : i = n) {e : T} {c : Int} {l : T} (h : drop t n = cons e c l) (K : Rw → Int → Option α) : row_si t.rows i K = K e.rows c := by
  subst hi
  unfold row_si
  rw [if_pos (by omega), Int.toNat_natCast, rows_get h]; rfl
@[simp] theorem row_T0 {α : Type} (e : T) (c : Int) (l : T) (K : Rw → Int → Option α) : row_si (cons e c l).rows 0 K = K e.rows c := row_T (n := 0) rfl rfl K
theorem lenI (t : T) : ((t.rows.length : Nat) : Int) = (t.len : Int) := by rw [rows_len]
/-! ### impl's order -/
theorem impl_compare_eq (a b : Int) : impl_compare a b = some (cmpI a b) := by unfold impl_compare cmpI; split <;> (try split) <;> rfl
theorem CompareFunc_loop {rec_ : Rw → Rw → Option Int} {a b : T} {K : Option Int} (hr : ∀ e f : T, e.size < a.size → rec_ e.rows f.rows = some (cmpT e f)) (hK : K = (if (a.len : Int) < b.len then some (-1) else some 0)) :
    ∀ (t : T) (i : Nat), drop a i = t → i ≤ a.len → i ≤ b.len → slices_CompareFunc__cmpTerms_l0 rec_ a.rows b.rows K t.rows i = some (cmpT t (drop b i))
  | nil, i, hd, ha', hb => by
    simp only [rows, slices_CompareFunc__cmpTerms_l0, hK]
    have h1 := drop_ge hd
    by_cases h2 : i < b.len
    · cases hq : drop b i with
      | nil => have := drop_ge hq; omega
      | cons f d m =>
        have : a.len = i ∨ a.len < i := by omega
        rw [if_pos (by omega)]; rfl
    · rw [drop_of_ge (t := b) (by omega), if_neg (by
        intro q
        omega)]; rfl
  | cons e c l, i, hd, ha', hb => by
    simp only [rows, slices_CompareFunc__cmpTerms_l0, cell_T]
    have hs := drop_cons_size hd
    by_cases h2 : b.len ≤ i
    · rw [if_pos (by rw [lenI]; omega), drop_of_ge h2]; rfl
    · rw [if_neg (by rw [lenI]; omega)]
      cases hq : drop b i with
      | nil => have := drop_ge hq; omega
      | cons f d m =>
        rw [row_T rfl hq]
        simp only [impl_cmpTerms, hr e f (by omega), Option.bind_some, impl_compare_eq]
        by_cases h3 : cmpT e f = 0
        · simp only [h3, if_true, Option.bind_some]
          by_cases h4 : cmpI c d = 0
          · rw [if_pos h4, CompareFunc_loop hr hK l (i + 1) (drop_succ hd) (drop_lt hd) (by omega), drop_succ hq]
            simp [cmpT, h3, h4]
          · rw [if_neg h4]; simp [cmpT, h3, h4]
        · simp only [if_neg h3, Option.bind_some]; simp [cmpT, h3]
theorem impl_cmp_eq : ∀ (k : Nat) (a b : T), a.size < k → a.size ≤ cap → impl_cmp k a.rows b.rows = some (cmpT a b)
  | 0, _, _, h, _ => absurd h (Nat.not_lt_zero _)
  | k + 1, a, b, h, hc => by
    have hl := a.len_size
    simp only [impl_cmp, impl_cmp_b, slices_CompareFunc__cmpTerms]
    rw [if_pos (by rw [rows_len]; omega)]
    rw [CompareFunc_loop (a := a) (b := b) (fun e f he => impl_cmp_eq k e f (by omega) (by omega)) (by rw [lenI, lenI]) a 0 (drop_zero a) (by omega) (by omega)]
    simp
/-! ### spec's order -/
/-- Coefficients whose differences do not run over. -/
def calm : T → Prop
  | nil => True
  | cons e c l => calm e ∧ (-1000000000000000 ≤ c ∧ c ≤ 1000000000000000) ∧ calm l
theorem calm_drop {t : T} (h : calm t) : ∀ {i : Nat}, calm (drop t i) := by
  induction t with
  | nil => intro i; simpa using h
  | cons e c l _ ih => intro i; cases i with
    | zero => simpa using h
    | succ i => exact ih h.2.2
theorem sign_eq {c d : Int} (hc : -1000000000000000 ≤ c ∧ c ≤ 1000000000000000) (hd : -1000000000000000 ≤ d ∧ d ≤ 1000000000000000) : spec_l1Sign (IntKind.i64.wrap (c - d)) = some (cmpI c d) := by
  rw [wid (by omega) (by omega)]
  unfold spec_l1Sign cmpI
  by_cases h1 : c < d
  · rw [if_neg (by omega), if_pos (by omega), if_pos h1]
  · by_cases h2 : d < c
    · rw [if_pos (by omega), if_neg h1, if_pos h2]
    · rw [if_neg (by omega), if_neg (by omega), if_neg h1, if_neg h2]
end Go.Proofs.Try

namespace Go.Proofs.Try
open Go Go.AX T
theorem impl_in_eq (n a b : Int) : impl_in n a b = some (decide (a ≤ n) && decide (n ≤ b)) := by
  unfold impl_in
  by_cases h1 : a ≤ n <;> by_cases h2 : n ≤ b <;> simp [h1, h2]
theorem l1In_eq (n a b : Int) : spec_l1In n a b = some (decide (a ≤ n) && decide (n ≤ b)) := by
  unfold spec_l1In
  by_cases h1 : a ≤ n <;> by_cases h2 : n ≤ b <;> simp [h1, h2]
/-- The exponent of the term ahead of the i-th. -/
def ahead (t : T) : Nat → Option T
  | 0 => none
  | i + 1 => match drop t i with
    | cons e _ _ => some e
    | nil => none
theorem ahead_succ {t : T} {i : Nat} {e : T} {c : Int} {l : T} (h : drop t i = cons e c l) : ahead t (i + 1) = some e := by simp [ahead, h]
theorem ahead_some {t : T} {i : Nat} (h0 : 0 < i) (h : i ≤ t.len) : ∃ q c l, drop t (i - 1) = cons q c l ∧ ahead t i = some q := by
  obtain ⟨j, rfl⟩ : ∃ j, i = j + 1 := ⟨i - 1, by omega⟩
  cases hq : drop t j with
  | nil => have := drop_ge hq; omega
  | cons q c l => exact ⟨q, c, l, hq, ahead_succ hq⟩
theorem dp_drop {t : T} : ∀ {i : Nat}, dp (drop t i) ≤ dp t := by
  induction t with
  | nil => intro i; simp
  | cons e c l _ ih => intro i; cases i with
    | zero => simp
    | succ i => have := ih (i := i); simp only [drop, dp]; omega
/-- What a check of a tree tells. -/
def Tells (r : Bool × Int) (n : Int) (ok : Prop) (m : Int) : Prop := (r.1 = true ↔ ok) ∧ (r.1 = true → r.2 = m) ∧ 0 ≤ r.2 ∧ r.2 ≤ 61 ∧ n ≤ r.2
theorem at2_loop {k : Nat} {rec_ : Rw → Int → Int → Int → Option (Bool × Int)} {a : T} {d1 deep : Int} (hd : 0 ≤ deep ∧ deep ≤ 6) (hk : a.size ≤ k) (hc : a.size ≤ cap)
    (hr : ∀ (e : T) (x n : Int), e.size < a.size → 0 ≤ n → n ≤ 60 → ∃ r, rec_ e.rows x (deep + 1) n = some r ∧ Tells r n (n + 1 + nodesL e ≤ 60 ∧ deep + 1 + dp e ≤ 6 ∧ formA none e = true) (n + 1 + nodesL e)) :
    ∀ (t : T) (i : Nat) (m : Int), drop a i = t → i ≤ a.len → 0 ≤ m → m ≤ 60 → ∃ r, impl_ordinalAt_2_l0 k rec_ a.rows d1 deep (fun v => impl_ordinalAt_2_p3 v) t.rows i m = some r ∧ Tells r m (m + nodesL t ≤ 60 ∧ deep + dp t ≤ 6 ∧ formA (ahead a i) t = true) (m + nodesL t)
  | nil, i, m, hdr, hi, h0, h60 => by
    refine ⟨(true, m), rfl, ?_⟩
    simp only [Tells, nodesL, dp, formA]
    refine ⟨⟨fun _ => ⟨by omega, by omega, trivial⟩, fun _ => trivial⟩, fun _ => by omega, h0, by omega, by omega⟩
  | cons e c l, i, m, hdr, hi, h0, h60 => by
    have hs := drop_cons_size hdr
    simp only [rows, impl_ordinalAt_2_l0, cell_T]
    rw [wid (n := m + 1) (by omega) (by omega)]
    by_cases h1 : 60 < m + 1
    · rw [if_pos h1]
      refine ⟨_, rfl, ?_⟩
      simp only [Tells, nodesL]
      refine ⟨⟨fun h => (by cases h), fun h => by omega⟩, fun h => (by cases h), by omega, by omega, by omega⟩
    · rw [if_neg h1, impl_in_eq, Option.bind_some]
      by_cases h2 : (decide (1 ≤ c) && decide (c ≤ 1000000)) = true
      · rw [if_pos h2, wid (n := deep + 1) (by omega) (by omega)]
        obtain ⟨r1, e1, t1, t2, t3, t4, t5⟩ := hr e c (m + 1) (by omega) (by omega) (by omega)
        rw [e1, Option.bind_some]
        obtain ⟨b1, m1⟩ := r1
        dsimp only at t1 t2 t3 t4 t5 ⊢
        cases b1 with
        | false =>
          rw [if_neg (by simp)]
          refine ⟨_, rfl, ?_⟩
          simp only [Tells]
          refine ⟨⟨fun h => (by cases h), fun h => ?_⟩, fun h => (by cases h), t3, t4, by omega⟩
          obtain ⟨q1, q2, q3⟩ := h
          simp only [nodesL, dp, formA, Bool.and_eq_true] at q1 q2 q3
          exact t1.2 ⟨by omega, by omega, q3.1.1.2⟩
        | true =>
          obtain ⟨u1, u2, u3⟩ := t1.1 rfl
          obtain rfl := t2 rfl
          rw [if_pos rfl]
          have go : ∀ (hp : (match ahead a i with | none => true | some q => decide (0 < cmpT q e)) = true), ∃ r, impl_ordinalAt_2_l0 k rec_ a.rows d1 deep (fun v => impl_ordinalAt_2_p3 v) l.rows (i + 1) (m + 1 + 1 + nodesL e) = some r ∧ Tells r m (m + nodesL (cons e c l) ≤ 60 ∧ deep + dp (cons e c l) ≤ 6 ∧ formA (ahead a i) (cons e c l) = true) (m + nodesL (cons e c l)) := by
            intro hp
            obtain ⟨r, er, s1, s2, s3, s4, s5⟩ := at2_loop hd hk hc hr l (i + 1) (m + 1 + 1 + nodesL e) (drop_succ hdr) (drop_lt hdr) (by omega) (by omega)
            refine ⟨r, er, ?_⟩
            rw [ahead_succ hdr] at s1
            simp only [Tells, nodesL, dp, formA, Bool.and_eq_true]
            refine ⟨s1.trans ⟨fun q => ⟨by have := q.1; omega, by have := q.2.1; omega, ⟨⟨(by simpa using h2), u3⟩, hp⟩, q.2.2⟩, fun q => ⟨by have := q.1; omega, by have := q.2.1; omega, q.2.2.2⟩⟩, fun q => by rw [s2 q]; omega, s3, s4, by omega⟩
          by_cases h3 : (0 : Int) < (i : Int)
          · obtain ⟨q, qc, ql, hq, ha⟩ := ahead_some (t := a) (i := i) (by omega) hi
            have hqs := drop_cons_size hq
            rw [if_pos h3, wid (n := (i : Int) - 1) (by omega) (by have := a.len_size; have : cap = 1099511627776 := rfl; omega), row_T (n := i - 1) (by omega) hq, impl_cmp_eq k q e (by omega) (by omega), Option.bind_some]
            by_cases h4 : cmpT q e ≤ 0
            · rw [if_pos h4]
              refine ⟨_, rfl, ?_⟩
              simp only [Tells]
              refine ⟨⟨fun h => (by cases h), fun h => ?_⟩, fun h => (by cases h), t3, t4, by omega⟩
              obtain ⟨_, _, q3⟩ := h
              simp only [formA, ha, Bool.and_eq_true, decide_eq_true_eq] at q3
              have := q3.1.2
              omega
            · rw [if_neg h4]
              exact go (by rw [ha]; simp; omega)
          · rw [if_neg h3]
            have : i = 0 := by omega
            subst this
            exact go rfl
      · rw [if_neg h2]
        refine ⟨_, rfl, ?_⟩
        simp only [Tells]
        refine ⟨⟨fun h => (by cases h), fun h => ?_⟩, fun h => (by cases h), by omega, by omega, by omega⟩
        obtain ⟨_, _, q3⟩ := h
        simp only [formA, Bool.and_eq_true] at q3 h2
        exact absurd q3.1.1.1 h2
theorem at2_eq : ∀ (k : Nat) (a : T) (x deep n : Int), a.size < k → a.size ≤ cap → 0 ≤ deep → deep ≤ 7 → 0 ≤ n → n ≤ 60 →
    ∃ r, impl_ordinalAt_2 k a.rows x deep n = some r ∧ Tells r n (n + 1 + nodesL a ≤ 60 ∧ deep + dp a ≤ 6 ∧ formA none a = true) (n + 1 + nodesL a)
  | 0, _, _, _, _, h, _, _, _, _, _ => absurd h (Nat.not_lt_zero _)
  | k + 1, a, x, deep, n, h, hc, h0, h7, n0, n60 => by
    have hl := a.len_size
    simp only [impl_ordinalAt_2, impl_ordinalAt_2_b]
    rw [wid (n := n + 1) (by omega) (by omega)]
    by_cases h1 : 60 < n + 1
    · rw [if_pos h1]
      refine ⟨_, rfl, ?_⟩
      simp only [Tells]
      exact ⟨⟨fun h => (by cases h), fun h => by omega⟩, fun h => (by cases h), by omega, by omega, by omega⟩
    · rw [if_neg h1]
      by_cases h2 : 6 < deep
      · rw [if_pos h2]
        refine ⟨_, rfl, ?_⟩
        simp only [Tells]
        exact ⟨⟨fun h => (by cases h), fun h => by omega⟩, fun h => (by cases h), by omega, by omega, by omega⟩
      · rw [if_neg h2, if_pos (by rw [rows_len]; omega)]
        obtain ⟨r, e, s1, s2, s3, s4, s5⟩ := at2_loop (k := k) (rec_ := impl_ordinalAt_2 k) (a := a) (d1 := x) (deep := deep) (by omega) (by omega) hc (fun e y m he m0 m60 => at2_eq k e y (deep + 1) m (by omega) (by omega) (by omega) (by omega) m0 m60) a 0 (n + 1) (drop_zero a) (by omega) (by omega) (by omega)
        exact ⟨r, e, s1, s2, s3, s4, by omega⟩
theorem at1_loop {k : Nat} {a : T} (hk : a.size < k) (hc : a.size ≤ cap) :
    ∀ (t : T) (i : Nat) (m : Int), drop a i = t → i ≤ a.len → 0 ≤ m → m ≤ 60 → ∃ r : Bool × Int, impl_ordinalAt_l0 k a.rows 0 (fun v => impl_ordinalAt_p3 a.rows v) t.rows i m = some (r.1, a.rows, r.2) ∧ (r.1 = true ↔ m + nodesL t ≤ 60 ∧ dp t ≤ 6 ∧ formA (ahead a i) t = true) ∧ (r.1 = true → r.2 = m + nodesL t)
  | nil, i, m, hdr, hi, h0, h60 => by
    refine ⟨(true, m), rfl, ?_⟩
    simp only [nodesL, dp, formA]
    exact ⟨⟨fun _ => ⟨by omega, by omega, trivial⟩, fun _ => trivial⟩, fun _ => by omega⟩
  | cons e c l, i, m, hdr, hi, h0, h60 => by
    have hs := drop_cons_size hdr
    simp only [rows, impl_ordinalAt_l0, cell_T]
    rw [wid (n := m + 1) (by omega) (by omega)]
    by_cases h1 : 60 < m + 1
    · rw [if_pos h1]
      exact ⟨(false, _), rfl, ⟨fun h => (by cases h), fun h => by simp only [nodesL] at h; omega⟩, fun h => (by cases h)⟩
    · rw [if_neg h1, impl_in_eq, Option.bind_some]
      by_cases h2 : (decide (1 ≤ c) && decide (c ≤ 1000000)) = true
      · rw [if_pos h2, wid (n := 0 + 1) (by omega) (by omega)]
        obtain ⟨r1, e1, t1, t2, t3, t4, t5⟩ := at2_eq k e c (0 + 1) (m + 1) (by omega) (by omega) (by omega) (by omega) (by omega) (by omega)
        rw [e1, Option.bind_some]
        obtain ⟨b1, m1⟩ := r1
        dsimp only at t1 t2 t3 t4 t5 ⊢
        cases b1 with
        | false =>
          rw [if_neg (by simp)]
          refine ⟨(false, _), rfl, ⟨fun h => (by cases h), fun h => ?_⟩, fun h => (by cases h)⟩
          obtain ⟨q1, q2, q3⟩ := h
          simp only [nodesL, dp, formA, Bool.and_eq_true] at q1 q2 q3
          exact t1.2 ⟨by omega, by omega, q3.1.1.2⟩
        | true =>
          obtain ⟨u1, u2, u3⟩ := t1.1 rfl
          obtain rfl := t2 rfl
          rw [if_pos rfl]
          have go : ∀ (hp : (match ahead a i with | none => true | some q => decide (0 < cmpT q e)) = true), ∃ r : Bool × Int, impl_ordinalAt_l0 k a.rows 0 (fun v => impl_ordinalAt_p3 a.rows v) l.rows (i + 1) (m + 1 + 1 + nodesL e) = some (r.1, a.rows, r.2) ∧ (r.1 = true ↔ m + nodesL (cons e c l) ≤ 60 ∧ dp (cons e c l) ≤ 6 ∧ formA (ahead a i) (cons e c l) = true) ∧ (r.1 = true → r.2 = m + nodesL (cons e c l)) := by
            intro hp
            obtain ⟨r, er, s1, s2⟩ := at1_loop hk hc l (i + 1) (m + 1 + 1 + nodesL e) (drop_succ hdr) (drop_lt hdr) (by omega) (by omega)
            refine ⟨r, er, ?_⟩
            rw [ahead_succ hdr] at s1
            simp only [nodesL, dp, formA, Bool.and_eq_true]
            exact ⟨s1.trans ⟨fun q => ⟨by have := q.1; omega, by have := q.2.1; omega, ⟨⟨(by simpa using h2), u3⟩, hp⟩, q.2.2⟩, fun q => ⟨by have := q.1; omega, by have := q.2.1; omega, q.2.2.2⟩⟩, fun q => by rw [s2 q]; omega⟩
          by_cases h3 : (0 : Int) < (i : Int)
          · obtain ⟨q, qc, ql, hq, ha⟩ := ahead_some (t := a) (i := i) (by omega) hi
            have hqs := drop_cons_size hq
            rw [if_pos h3, wid (n := (i : Int) - 1) (by omega) (by have := a.len_size; have : cap = 1099511627776 := rfl; omega), row_T (n := i - 1) (by omega) hq, impl_cmp_eq k q e (by omega) (by omega), Option.bind_some]
            by_cases h4 : cmpT q e ≤ 0
            · rw [if_pos h4]
              refine ⟨(false, _), rfl, ⟨fun h => (by cases h), fun h => ?_⟩, fun h => (by cases h)⟩
              obtain ⟨_, _, q3⟩ := h
              simp only [formA, ha, Bool.and_eq_true, decide_eq_true_eq] at q3
              have := q3.1.2
              omega
            · rw [if_neg h4]
              exact go (by rw [ha]; simp; omega)
          · rw [if_neg h3]
            have : i = 0 := by omega
            subst this
            exact go rfl
      · rw [if_neg h2]
        refine ⟨(false, _), rfl, ⟨fun h => (by cases h), fun h => ?_⟩, fun h => (by cases h)⟩
        obtain ⟨_, _, q3⟩ := h
        simp only [formA, Bool.and_eq_true] at q3 h2
        exact absurd q3.1.1.1 h2
theorem at1_eq (k : Nat) (a : T) (hk : a.size < k) (hc : a.size ≤ cap) : ∃ r : Bool × Int, impl_ordinalAt k a.rows 0 0 = some (r.1, a.rows, r.2) ∧ (r.1 = true ↔ ordP a = true) ∧ (r.1 = true → r.2 = 1 + nodesL a) := by
  have hl := a.len_size
  unfold impl_ordinalAt
  rw [wid (n := 0 + 1) (by omega) (by omega), if_neg (by omega), if_neg (by omega), if_pos (by rw [rows_len]; omega)]
  obtain ⟨r, e, s, v⟩ := at1_loop hk hc a 0 (0 + 1) (drop_zero a) (by omega) (by omega) (by omega)
  refine ⟨r, e, s.trans ?_, fun q => by rw [v q]; omega⟩
  simp only [ordP, Bool.and_eq_true, decide_eq_true_eq, ahead]
  exact ⟨fun q => ⟨⟨by have := q.1; omega, q.2.1⟩, q.2.2⟩, fun q => ⟨by have := q.1.1; omega, q.1.2, q.2⟩⟩
theorem IsOrdinal_eq (k : Nat) (a : T) (hk : a.size < k) (hc : a.size ≤ cap) : impl_IsOrdinal k a.rows = some (ordP a) := by
  obtain ⟨r, e, s, _⟩ := at1_eq k a hk hc
  unfold impl_IsOrdinal
  rw [e, Option.bind_some]
  cases hb : ordP a with
  | true => rw [if_pos (s.2 hb)]
  | false => rw [if_neg (fun q => by rw [s.1 q] at hb; cases hb)]
theorem clone_loop {rec_ : Rw → Option Rw} {a : T} {K : Rw → Option Rw} (hr : ∀ e : T, e.size < a.size → rec_ e.rows = some e.rows) : ∀ (t : T) (acc : Rw), t.size ≤ a.size → acc.length + t.len ≤ cap → impl_cloneOrdinal_l0 rec_ a.rows K t.rows acc = K (acc ++ t.rows)
  | nil, acc, _, _ => by simp [rows, impl_cloneOrdinal_l0]
  | cons e c l, acc, hs, hl => by
    simp only [size, len] at hs hl
    simp only [rows, impl_cloneOrdinal_l0, cell_T, hr e (by omega), Option.bind_some]
    rw [if_pos (by omega), clone_loop hr l _ (by omega) (by simp; omega)]
    simp
theorem clone_eq : ∀ (k : Nat) (a : T), a.size < k → a.size ≤ cap → impl_cloneOrdinal k a.rows = some a.rows
  | 0, _, h, _ => absurd h (Nat.not_lt_zero _)
  | k + 1, a, h, hc => by
    have hl := a.len_size
    simp only [impl_cloneOrdinal, impl_cloneOrdinal_b]
    rw [if_pos (by rw [rows_len]; omega), clone_loop (fun e he => clone_eq k e (by omega) (by omega)) a [] (Nat.le_refl _) (by simp; omega)]
    simp
def toldT (t : T) : T × Bool := if ordP t then (t, true) else (nil, false)
/-! ### spec's check -/
end Go.Proofs.Try

namespace Go.Proofs.Try
open Go Go.AX T
theorem fr_snocLen (l e : T) (c : Int) : (app l (cons e c nil)).len = l.len + 1 := by rw [len_app]; rfl
theorem eqOrd_loop {rec_ : Rw → Rw → Option Bool} {a : T} (hr : ∀ e : T, e.size < a.size → rec_ e.rows e.rows = some true) : ∀ (t : T) (i : Nat), drop a i = t → laws_eqOrdinalTermS_l0 rec_ a.rows a.rows (some true) t.rows i = some true
  | nil, i, _ => rfl
  | cons e c l, i, hd => by
    have hs := drop_cons_size hd
    simp only [rows, laws_eqOrdinalTermS_l0, cell_T, laws_eqOrdinalTerm]
    rw [row_T rfl hd, hr e (by omega), Option.bind_some, if_pos rfl, if_pos rfl, Option.bind_some, if_pos rfl]
    exact eqOrd_loop hr l (i + 1) (drop_succ hd)
theorem eqOrd_refl : ∀ (k : Nat) (a : T), a.size < k → a.size ≤ cap → laws_eqOrdinal k a.rows a.rows = some true
  | 0, _, h, _ => absurd h (Nat.not_lt_zero _)
  | k + 1, a, h, hc => by
    have hl := a.len_size
    simp only [laws_eqOrdinal, laws_eqOrdinal_b, laws_eqOrdinalTermS]
    rw [if_pos True.intro, if_pos (by rw [rows_len]; omega), eqOrd_loop (a := a) (fun e he => eqOrd_refl k e (by omega) (by omega)) a 0 (drop_zero a)]
    rfl
/-- Slices no longer than a machine has. -/
def fitT : T → Prop
  | nil => True
  | cons e c l => fitT e ∧ (e.len : Int) ≤ 9223372036854775807 ∧ fitT l
end Go.Proofs.Try

namespace Go.Proofs.Try
open Go Go.AX T
theorem fr_drop_app (l r : T) : drop (app l r) l.len = r := by
  induction l with
  | nil => simp [app, len]
  | cons e c l _ ih => exact ih
def mkT : T → Int → T
  | nil, _ => nil
  | cons e _ l, k => cons (mkT e k) (k + size e) (mkT l (k + size e + 1))
theorem mkT_len (t : T) (k : Int) : (mkT t k).len = t.len := by
  induction t generalizing k with
  | nil => rfl
  | cons e c l _ ih => simp [mkT, len, ih]
theorem mkT_size (t : T) (k : Int) : (mkT t k).size = t.size := by
  induction t generalizing k with
  | nil => rfl
  | cons e c l ihe ih => simp [mkT, size, ihe, ih]
theorem set_rows (l e e' r : T) (c c' : Int) : (app l (cons e c r)).rows.set l.len [D.sl e'.rows, D.int .i64 c'] = (app l (cons e' c' r)).rows := by
  rw [rows_app, rows_app, ← rows_len l, List.set_append_right (h := Nat.le_refl _), Nat.sub_self]; rfl
theorem mark_loop {rec_ : Rw → Int → Option (Int × Rw)} {K0 : Int → Rw → Option (Int × Rw)} {N : Nat} (hr : ∀ (e : T) (k : Int), e.size < N → 0 ≤ k → k + e.size ≤ 4000000000000000000 → rec_ e.rows k = some (k + e.size, (mkT e k).rows)) :
    ∀ (t done : T) (n : Nat) (k : Int), t.size ≤ N → t.len < n → 0 ≤ k → k + t.size ≤ 4000000000000000000 → done.len + t.len ≤ 4000000000000000000 → laws_markOrdinalTermS_l0 rec_ K0 n (app done t).rows k done.len = K0 (k + t.size) (app done (mkT t k)).rows
  | _, _, 0, _, _, h, _, _, _ => absurd h (Nat.not_lt_zero _)
  | nil, done, n + 1, k, _, _, _, _, _ => by
    simp only [laws_markOrdinalTermS_l0]
    rw [if_neg (by rw [app_nil, lenI]; omega)]
    simp [size, mkT]
  | cons e c l, done, n + 1, k, hs, hn, h0, hk, hl => by
    simp only [size] at hs hk
    simp only [len] at hn hl
    have hlen : ((app done (cons e c l)).rows.length : Int) = done.len + l.len + 1 := by rw [lenI, len_app]; simp only [len]; omega
    have hd : ∀ (e' : T) (c' : Int), drop (app done (cons e' c' l)) done.len = cons e' c' l := fun e' c' => fr_drop_app done _
    simp only [laws_markOrdinalTermS_l0]
    rw [if_pos (by omega), if_pos (by omega), row_T rfl (hd e c), hr e k (by omega) h0 (by omega), Option.bind_some, Int.toNat_natCast]
    simp only
    rw [set_rows, row_T rfl (hd (mkT e k) c), set_rows, wid (by omega) (by omega), wid (by omega) (by omega)]
    have e1 : app done (cons (mkT e k) (k + e.size) l) = app (app done (cons (mkT e k) (k + e.size) nil)) l := by rw [app_assoc]; rfl
    have e2 : ((done.len : Int) + 1) = ((app done (cons (mkT e k) (k + e.size) nil)).len : Int) := by rw [fr_snocLen]; rfl
    rw [e1, e2, mark_loop hr l _ n (k + e.size + 1) (by omega) (by omega) (by omega) (by omega) (by rw [fr_snocLen]; omega), app_assoc]
    have e3 : k + (e.size : Int) + 1 + (l.size : Int) = k + ((cons e c l).size : Int) := by simp only [size]; omega
    rw [e3]; rfl
theorem markS_eq : ∀ (K : Nat) (t : T) (k : Int), t.size + 1 < K → 0 ≤ k → k + t.size ≤ 4000000000000000000 → laws_markOrdinalTermS K t.rows k = some (k + t.size, (mkT t k).rows)
  | 0, _, _, h, _, _ => absurd h (Nat.not_lt_zero _)
  | K + 1, nil, k, h, _, _ => by
    obtain ⟨m, rfl⟩ : ∃ m, K = m + 1 := ⟨K - 1, by omega⟩
    simp only [laws_markOrdinalTermS, laws_markOrdinalTermS_b, laws_markOrdinalTermS_2, laws_markOrdinalTermS_2_l0]
    simp [rows, mkT, size]
  | K + 1, cons e c l, k, h, h0, hk => by
    have hl := (cons e c l).len_size
    simp only [laws_markOrdinalTermS, laws_markOrdinalTermS_b]
    rw [if_neg (by simp [rows])]
    have := mark_loop (rec_ := laws_markOrdinalTermS K) (K0 := fun (v30 : Int) (v31 : Rw) => (if v31.length = (cons e c l).rows.length then some (v30, v31) else none)) (N := (cons e c l).size) (fun e' k' he h0' hk' => markS_eq K e' k' (by omega) h0' hk') (cons e c l) nil K k (Nat.le_refl _) (by omega) h0 hk (by simp only [len] at hl ⊢; omega)
    refine this.trans ?_
    show (if (mkT (cons e c l) k).rows.length = (cons e c l).rows.length then _ else _) = _
    rw [if_pos (by rw [rows_len, rows_len, mkT_len])]
    rfl
theorem mark_eq (K : Nat) (t : T) (k : Int) (h : t.size + 1 < K) (h0 : 0 ≤ k) (hk : k + t.size ≤ 4000000000000000000) : laws_markOrdinal K t.rows k = some (k + t.size, (mkT t k).rows) := by
  unfold laws_markOrdinal
  cases t with
  | nil =>
    obtain ⟨m, rfl⟩ : ∃ m, K = m + 1 := ⟨K - 1, by omega⟩
    simp [rows, mkT, size, laws_markOrdinal_2, laws_markOrdinalTermS_2, laws_markOrdinalTermS_2_l0]
  | cons e c l =>
    rw [if_neg (by simp [rows]), markS_eq K _ k h h0 hk, Option.bind_some]
    simp only
    rw [if_pos (by rw [rows_len, rows_len, mkT_len])]
theorem held_loop {rec_ : Rw → Int → Option Int} {a : Rw} {K0 : Int → Option Int} {N : Nat} (hr : ∀ (e : T) (k : Int), e.size < N → 0 ≤ k → k + e.size ≤ 4000000000000000000 → rec_ (mkT e k).rows k = some (k + e.size)) :
    ∀ (t : T) (k : Int), t.size ≤ N → 0 ≤ k → k + t.size ≤ 4000000000000000000 → laws_heldOrdinalTermS_l0 rec_ a K0 (mkT t k).rows k = K0 (k + t.size)
  | nil, k, _, _, _ => by simp [mkT, rows, laws_heldOrdinalTermS_l0, size]
  | cons e c l, k, hs, h0, hk => by
    simp only [size] at hs hk
    simp only [mkT, rows, laws_heldOrdinalTermS_l0, cell_T]
    rw [hr e k (by omega) h0 (by omega), Option.bind_some, if_neg (by omega), if_pos rfl, wid (by omega) (by omega), held_loop hr l _ (by omega) (by omega) (by omega)]
    congr 1; simp only [size]; omega
theorem heldS_eq : ∀ (K : Nat) (t : T) (k : Int), t.size < K → t.size ≤ cap → 0 ≤ k → k + t.size ≤ 4000000000000000000 → laws_heldOrdinalTermS K (mkT t k).rows k = some (k + t.size)
  | 0, _, _, h, _, _, _ => absurd h (Nat.not_lt_zero _)
  | K + 1, t, k, h, hc, h0, hk => by
    have hl := t.len_size
    simp only [laws_heldOrdinalTermS, laws_heldOrdinalTermS_b]
    rw [if_pos (by rw [rows_len, mkT_len]; omega), held_loop (N := t.size) (fun e' k' he h0' hk' => heldS_eq K e' k' (by omega) (by omega) h0' hk') t k (Nat.le_refl _) h0 hk]
theorem held_eq (K : Nat) (t : T) (k : Int) (h : t.size < K) (hc : t.size ≤ cap) (h0 : 0 ≤ k) (hk : k + t.size ≤ 4000000000000000000) : laws_heldOrdinal K (mkT t k).rows k = some (k + t.size) := by
  unfold laws_heldOrdinal
  rw [heldS_eq K t k h hc h0 hk, Option.bind_some, if_neg (by omega)]
end Go.Proofs.Try

namespace Go.Proofs.Try
open Go Go.AX T
abbrev w (n : Int) : Int := IntKind.i64.wrap n
theorem drop_app (l r : T) : drop (app l r) l.len = r := by
  induction l with
  | nil => simp [app, len]
  | cons e c l _ ih => exact ih
theorem T.snoc (t : T) : t = nil ∨ ∃ l x c, t = app l (cons x c nil) := by
  induction t with
  | nil => exact .inl rfl
  | cons e c l _ ih =>
    rcases ih with rfl | ⟨l', x, d, rfl⟩
    · exact .inr ⟨nil, e, c, rfl⟩
    · exact .inr ⟨cons e c l', x, d, rfl⟩
theorem calm_app {a b : T} : calm (app a b) ↔ calm a ∧ calm b := by
  induction a with
  | nil => simp [app, calm]
  | cons e c l _ ih => simp only [app, calm, ih, and_assoc]
/-! ### impl's sum -/
def goP : T → T → Int → T → T
  | nil, f, d, m => cons f d m
  | cons e c l, f, d, m => if cmpT e f = 1 then cons e c (goP l f d m) else if cmpT e f = 0 then cons e (w (c + d)) m else goP l f d m
def plusT : T → T → T
  | a, nil => a
  | a, cons f d m => goP a f d m
theorem goP_size (a f : T) (d : Int) (m : T) : (goP a f d m).size ≤ a.size + f.size + m.size + 1 := by
  induction a with
  | nil => simp [goP, size]
  | cons e c l _ ih =>
    simp only [goP]
    split
    · simp only [size]; omega
    · split
      · simp only [size]; omega
      · simp only [size]; omega
theorem plusT_size (a b : T) : (plusT a b).size ≤ a.size + b.size := by
  cases b with
  | nil => simp [plusT]
  | cons f d m => simp only [plusT, size]; have := goP_size a f d m; omega
theorem calm_less {a b : T} (h : ordP a = true) : True := trivial
theorem form_calm {p : Option T} {t : T} (h : formA p t = true) : calm t := by
  induction t generalizing p with
  | nil => trivial
  | cons e c l ihe ihl =>
    simp only [formA, Bool.and_eq_true, decide_eq_true_eq] at h
    obtain ⟨⟨⟨⟨h1, h2⟩, h3⟩, _⟩, h5⟩ := h
    exact ⟨ihe h3, by omega, ihl h5⟩
theorem ordP_form {t : T} (h : ordP t = true) : formA none t = true := by
  simp only [ordP, Bool.and_eq_true] at h; exact h.2
theorem form_any {p : Option T} {t : T} (h : formA p t = true) : formA none t = true := by
  cases t with
  | nil => rfl
  | cons e c l =>
    simp only [formA, Bool.and_eq_true] at h ⊢
    exact ⟨⟨⟨h.1.1.1, h.1.1.2⟩, trivial⟩, h.2⟩
end Go.Proofs.Try

namespace Go.Proofs.Try
open Go Go.AX T
/-- Without the terms at the end that are less than w^e. -/
def popT : T → T → T
  | nil, _ => nil
  | cons x c l, e => match popT l e with
    | nil => if cmpT x e < 0 then nil else cons x c nil
    | cons y d m => cons x c (cons y d m)
/-- A term added at the end. -/
def addL : T → T → Int → T
  | nil, e, d => cons e d nil
  | cons x c l, e, d => match l with
    | nil => if cmpT x e = 0 then cons x (w (c + d)) nil else cons x c (cons e d nil)
    | cons _ _ _ => cons x c (addL l e d)
def splus : T → T → T
  | a, nil => a
  | a, cons f d m => splus (addL (popT a f) f d) m
theorem popT_snoc (l x : T) (c : Int) (e : T) : popT (app l (cons x c nil)) e = if cmpT x e < 0 then popT l e else app l (cons x c nil) := by
  induction l with
  | nil => simp [app, popT]
  | cons y d l _ ih =>
    by_cases h : cmpT x e < 0
    · rw [if_pos h] at ih ⊢
      simp only [app, popT]
      rw [ih]
    · rw [if_neg h] at ih ⊢
      simp only [app, popT]
      rw [ih]
      cases l <;> simp [app]
theorem addL_snoc (l x : T) (c : Int) (e : T) (d : Int) : addL (app l (cons x c nil)) e d = if cmpT x e = 0 then app l (cons x (w (c + d)) nil) else app (app l (cons x c nil)) (cons e d nil) := by
  induction l with
  | nil => simp only [app, addL]
  | cons y k l _ ih =>
    have : app l (cons x c nil) ≠ nil := by cases l <;> simp [app]
    simp only [app, addL]
    split
    · rename_i h; exact absurd h this
    · rename_i h
      rw [ih]
      split <;> rfl
theorem popT_size (a e : T) : (popT a e).size ≤ a.size := by
  induction a with
  | nil => simp [popT, size]
  | cons x c l _ ih =>
    simp only [popT]
    split
    · split <;> simp [size]
    · rename_i h; rw [h] at ih; simp only [size] at ih ⊢; omega
theorem addL_size (a e : T) (d : Int) : (addL a e d).size ≤ a.size + e.size + 1 := by
  induction a with
  | nil => simp [addL, size]
  | cons x c l _ ih =>
    simp only [addL]
    split
    · split <;> simp [size] <;> omega
    · simp only [size] at ih ⊢; omega
theorem splus_size (a b : T) : (splus a b).size ≤ a.size + b.size := by
  induction b generalizing a with
  | nil => simp [splus, size]
  | cons f d m _ ih =>
    have h1 := ih (addL (popT a f) f d)
    have h2 := addL_size (popT a f) f d
    have h3 := popT_size a f
    simp only [splus, size] at *; omega
/-- Coefficients within a bound. -/
def sm (B : Int) : T → Prop
  | nil => True
  | cons e c l => sm B e ∧ (-B ≤ c ∧ c ≤ B) ∧ sm B l
theorem sm_calm {B : Int} {t : T} (h : sm B t) (hB : B ≤ 1000000000000000) : calm t := by
  induction t with
  | nil => trivial
  | cons e c l ihe ihl => exact ⟨ihe h.1, by have := h.2.1; omega, ihl h.2.2⟩
theorem sm_mono {B C : Int} {t : T} (h : sm B t) (hB : B ≤ C) : sm C t := by
  induction t with
  | nil => trivial
  | cons e c l ihe ihl => exact ⟨ihe h.1, by have := h.2.1; omega, ihl h.2.2⟩
theorem sm_app {B : Int} {a b : T} : sm B (app a b) ↔ sm B a ∧ sm B b := by
  induction a with
  | nil => simp [app, sm]
  | cons e c l _ ih => simp only [app, sm, ih, and_assoc]
theorem sm_pop {B : Int} {a e : T} (h : sm B a) : sm B (popT a e) := by
  induction a with
  | nil => trivial
  | cons x c l _ ih =>
    have ih := ih h.2.2
    simp only [popT]
    split
    · split
      · trivial
      · exact ⟨h.1, h.2.1, trivial⟩
    · rename_i hq; rw [hq] at ih; exact ⟨h.1, h.2.1, ih⟩
theorem sm_addL {B C : Int} {a e : T} {d : Int} (h : sm B a) (he : sm C e) (hd : -C ≤ d ∧ d ≤ C) (hB : 0 ≤ B ∧ 0 ≤ C ∧ B + C ≤ 1000000000000000) : sm (B + C) (addL a e d) := by
  induction a with
  | nil => exact ⟨sm_mono he (by omega), by omega, trivial⟩
  | cons x c l _ ih =>
    obtain ⟨h1, h2, h3⟩ := h
    simp only [addL]
    split
    · split
      · refine ⟨sm_mono h1 (by omega), ?_, trivial⟩
        show _ ≤ w (c + d) ∧ w (c + d) ≤ _
        rw [show w (c + d) = c + d from wid (by omega) (by omega)]; omega
      · exact ⟨sm_mono h1 (by omega), by omega, sm_mono he (by omega), by omega, trivial⟩
    · exact ⟨sm_mono h1 (by omega), by omega, ih h3⟩
theorem snoc_last (l x : T) (c : Int) : drop (app l (cons x c nil)) l.len = cons x c nil := drop_app l _
/-! ### right ones -/
theorem form_sm {p : Option T} {t : T} (h : formA p t = true) : sm 1000000 t := by
  induction t generalizing p with
  | nil => trivial
  | cons e c l ihe ihl =>
    simp only [formA, Bool.and_eq_true, decide_eq_true_eq] at h
    obtain ⟨⟨⟨⟨h1, h2⟩, h3⟩, _⟩, h5⟩ := h
    exact ⟨ihe h3, by omega, ihl h5⟩
/-- Exponents that fall, from below p on. -/
def falls : Option T → T → Prop
  | _, nil => True
  | p, cons e _ l => (∀ q, p = some q → 0 < cmpT q e) ∧ falls (some e) l
theorem form_falls {p : Option T} {t : T} (h : formA p t = true) : falls p t := by
  induction t generalizing p with
  | nil => trivial
  | cons e c l _ ihl =>
    simp only [formA, Bool.and_eq_true, decide_eq_true_eq] at h
    refine ⟨fun q hq => ?_, ihl h.2⟩
    subst hq
    simpa using h.1.2
theorem cmp_lt_of {a b c : T} (h1 : 0 < cmpT a b) (h2 : cmpT b c = 1 ∨ cmpT b c = 0) : 0 < cmpT a c := by
  rcases h2 with h2 | h2
  · have q1 : cmpT b a < 0 := by rw [cmpT_neg a b]; omega
    have q2 : cmpT c b < 0 := by rw [cmpT_neg b c]; omega
    have := cmpT_trans q2 q1
    rw [cmpT_neg c a]; omega
  · obtain rfl := cmpT_eq.1 h2; exact h1
/-- In falling terms, those ahead of a greater one are greater. -/
theorem goP_pop {a f : T} {d : Int} : ∀ {p : Option T}, falls p a → addL (popT a f) f d = goP a f d nil
  | p, h => by
    induction a generalizing p with
    | nil => rfl
    | cons e c l _ ih =>
      have h2 := h.2
      have key : ∀ {x : T}, falls (some x) l → cmpT x f ≤ 0 → popT l f = nil := by
        intro x hx hxf
        clear ih h h2
        induction l generalizing x with
        | nil => rfl
        | cons y k m _ ihm =>
          have hy := hx.1 x rfl
          have hyf : cmpT y f < 0 := by
            rcases cmpT_range x f with q | q | q
            · have q2 : cmpT y x < 0 := by rw [cmpT_neg x y]; omega
              exact cmpT_trans q2 (by omega)
            · obtain rfl := cmpT_eq.1 q
              rw [cmpT_neg x y]; omega
            · omega
          simp only [popT, ihm hx.2 (by omega), if_pos hyf]
      have ih := ih _ h2
      simp only [popT, goP]
      rcases cmpT_range e f with q | q | q
      · rw [key h2 (by omega)]
        have e1 : ¬ cmpT e f = 1 := by omega
        have e2 : ¬ cmpT e f = 0 := by omega
        simp only [if_neg e1, if_neg e2, if_pos (by omega : cmpT e f < 0)]
        rw [← ih, key h2 (by omega)]
      · rw [key h2 (by omega)]
        have e1 : ¬ cmpT e f = 1 := by omega
        simp only [if_neg e1, if_pos q, if_neg (by omega : ¬ cmpT e f < 0), addL]
      · simp only [if_pos q]
        rw [← ih]
        cases hq : popT l f with
        | nil =>
          simp only [if_neg (by omega : ¬ cmpT e f < 0), addL, if_neg (by omega : ¬ cmpT e f = 0)]
        | cons y k m => simp only [addL]
theorem goP_app {a f : T} {d : Int} {m : T} : goP a f d m = app (goP a f d nil) m := by
  induction a with
  | nil => rfl
  | cons e c l _ ih =>
    simp only [goP]
    split
    · simp only [app, ih]
    · split
      · rfl
      · exact ih
/-- What is less than all ahead of it is only added at the end. -/
theorem splus_end {a x : T} {c : Int} : ∀ {m : T}, falls (some x) m → splus (app a (cons x c nil)) m = app (app a (cons x c nil)) m
  | nil, _ => by simp [splus]
  | cons g k m, h => by
    have h1 := h.1 x rfl
    simp only [splus]
    rw [popT_snoc, if_neg (by omega), addL_snoc, if_neg (by omega)]
    rw [splus_end (a := app a (cons x c nil)) h.2, app_assoc (app a (cons x c nil))]
    rfl
theorem goP_snoc {a f : T} {d : Int} : ∃ l c, goP a f d nil = app l (cons f c nil) := by
  induction a with
  | nil => exact ⟨nil, d, rfl⟩
  | cons e c l _ ih =>
    obtain ⟨l', c', h⟩ := ih
    simp only [goP]
    split
    · exact ⟨cons e c l', c', by rw [h]; rfl⟩
    · split
      · rename_i q; obtain rfl := cmpT_eq.1 q; exact ⟨nil, _, rfl⟩
      · exact ⟨l', c', h⟩
theorem splus_plus {a b : T} (ha : falls none a) (hb : falls none b) : splus a b = plusT a b := by
  cases b with
  | nil => cases a <;> rfl
  | cons f d m =>
    simp only [splus, plusT]
    rw [goP_pop ha, goP_app (m := m)]
    obtain ⟨l, c, h⟩ := goP_snoc (a := a) (f := f) (d := d)
    rw [h]
    exact splus_end hb.2
theorem plusT_sm {B C : Int} {a b : T} (ha : sm B a) (hb : sm C b) (hB : 0 ≤ B ∧ 0 ≤ C ∧ B + C ≤ 1000000000000000) : sm (B + C) (plusT a b) := by
  cases b with
  | nil => exact sm_mono ha (by omega)
  | cons f d m =>
    simp only [plusT]
    have hm : sm (B + C) m := sm_mono hb.2.2 (by omega)
    induction a with
    | nil => exact ⟨sm_mono hb.1 (by omega), by have := hb.2.1; omega, hm⟩
    | cons e c l _ ih =>
      have h1 := ha.2.1
      have h2 := hb.2.1
      simp only [goP]
      split
      · exact ⟨sm_mono ha.1 (by omega), by omega, ih ha.2.2⟩
      · split
        · refine ⟨sm_mono ha.1 (by omega), ?_, hm⟩
          show _ ≤ w (c + d) ∧ w (c + d) ≤ _
          rw [show w (c + d) = c + d from wid (by omega) (by omega)]; omega
        · exact ih ha.2.2
def intT (n : Int) : T := if n = 0 then nil else cons nil n nil
theorem intT_size (n : Int) : (intT n).size ≤ 1 := by unfold intT; split <;> simp [size]
theorem intT_sm {n B : Int} (h : -B ≤ n ∧ n ≤ B) : sm B (intT n) := by
  unfold intT; split
  · trivial
  · exact ⟨trivial, h, trivial⟩
theorem snocRows (l e : T) (c : Int) : l.rows ++ [[D.sl e.rows, D.int .i64 c]] = (app l (cons e c nil)).rows := by rw [rows_app]; rfl
end Go.Proofs.Try

namespace Go.Proofs.Try
open Go Go.AX T
end Go.Proofs.Try

namespace Go.Proofs.Try
open Go Go.AX T
theorem told_eq (k : Nat) (a : T) (h : a.size < k) (hc : a.size ≤ cap) : impl_told k a.rows = some ((toldT a).1.rows, (toldT a).2) := by
  unfold impl_told toldT
  rw [IsOrdinal_eq k a h hc, Option.bind_some]
  cases ordP a with
  | false => rfl
  | true => rw [if_pos rfl, clone_eq k a h hc]; rfl
end Go.Proofs.Try

namespace Go.Proofs.Try
open Go Go.AX T S
def surT : T → S
  | .nil => .nil
  | .cons e c l => .cons (surT e) c 1 (surT l)
theorem surT_size (a : T) : (surT a).sizeS = a.size := by
  induction a with
  | nil => rfl
  | cons e c l ihe ihl => simp [surT, sizeS, T.size, ihe, ihl]
theorem surT_len (a : T) : (surT a).lenS = a.len := by
  induction a with
  | nil => rfl
  | cons e c l ihe ihl => simp [surT, lenS, T.len, ihl]
theorem surT_nodes (a : T) : nodesS (surT a) = nodesL a := by rw [nodesS_size, nodes_size, surT_size]
theorem surT_dp (a : T) : dpS (surT a) = dp a := by
  induction a with
  | nil => rfl
  | cons e c l ihe ihl => simp [surT, dpS, dp, ihe, ihl]
theorem cmpF_one (c d : Int) : cmpF c 1 d 1 = cmpI c d := by unfold cmpF; rw [Int.mul_one, Int.mul_one]
theorem surT_cmp : ∀ {p q : Option T} {a b : T}, formA p a = true → formA q b = true → cmpS (surT a) (surT b) = cmpT a b
  | _, _, .nil, .nil, _, _ => rfl
  | _, _, .nil, .cons f d m, _, hb => by
    simp only [formA, Bool.and_eq_true, decide_eq_true_eq] at hb
    simp only [surT, cmpS, cmpT, sg]
    unfold cmpI; rw [if_neg (by omega), if_pos (by omega)]
  | _, _, .cons e c l, .nil, ha, _ => by
    simp only [formA, Bool.and_eq_true, decide_eq_true_eq] at ha
    simp only [surT, cmpS, cmpT, sg]
    unfold cmpI; rw [if_neg (by omega), if_pos (by omega)]
  | _, _, .cons e c l, .cons f d m, ha, hb => by
    simp only [formA, Bool.and_eq_true, decide_eq_true_eq] at ha hb
    have ih1 := surT_cmp ha.1.1.2 hb.1.1.2
    have ih2 := surT_cmp ha.2 hb.2
    have hr := cmpT_range e f
    simp only [surT, cmpS, cmpT, ih1, ih2, cmpF_one, sg]
    by_cases q1 : cmpT e f = 1
    · rw [if_pos q1, if_neg (by omega), q1]; unfold cmpI; rw [if_neg (by omega), if_pos (by omega)]
    · by_cases q2 : cmpT e f = -1
      · rw [if_neg q1, if_pos q2, if_neg (by omega), q2]; unfold cmpI; rw [if_neg (by omega), if_pos (by omega)]
      · rw [if_neg q1, if_neg q2, if_pos (show cmpT e f = 0 by omega)]
theorem surT_form : ∀ {p : Option T} {a : T}, (∀ q, p = some q → formA none q = true) → formA p a = true → formS (p.map surT) (surT a) = true
  | _, .nil, _, _ => rfl
  | p, .cons e c l, hp, h => by
    have h0 := h
    simp only [formA, Bool.and_eq_true, decide_eq_true_eq] at h
    obtain ⟨⟨⟨⟨h1, h2⟩, h3⟩, h4⟩, h5⟩ := h
    have i1 := surT_form (p := none) (fun q hq => by cases hq) h3
    have i2 := surT_form (p := some e) (fun q hq => by cases hq; exact h3) h5
    have hf : frP c 1 = true := by
      unfold frP
      simp only [Bool.and_eq_true, decide_eq_true_eq]
      refine ⟨by omega, by omega, ?_⟩
      simp
    simp only [surT, formS, Bool.and_eq_true, hf, decide_eq_true_eq]
    refine ⟨⟨⟨⟨trivial, by omega⟩, i1⟩, ?_⟩, i2⟩
    cases p with
    | none => rfl
    | some q =>
      simp only [decide_eq_true_eq] at h4
      simp only [Option.map_some, decide_eq_true_eq]
      rw [surT_cmp (hp q rfl) h3]; exact h4
theorem surT_ok {a : T} (h : ordP a = true) : surP (surT a) = true := by
  simp only [ordP, Bool.and_eq_true, decide_eq_true_eq] at h
  simp only [surP, Bool.and_eq_true, decide_eq_true_eq, surT_nodes, surT_dp]
  exact ⟨h.1, surT_form (p := none) (fun q hq => by cases hq) h.2⟩
end Go.Proofs.Try

namespace Go.Proofs.Try
open Go Go.AX S
theorem toldST_size (t : S) : (toldST t).1.sizeS ≤ 30 := by
  unfold toldST
  cases h : surP t with
  | false => simp [sizeS]
  | true => exact surP_size h
theorem surP_form {t : S} (h : surP t = true) : formS none t = true := by
  simp only [surP, Bool.and_eq_true] at h; exact h.2
end Go.Proofs.Try

namespace Go.Proofs.Try
open Go Go.AX T S
/-- The ordinal with the terms of a number. -/
def toL : S → Option T
  | .nil => some .nil
  | .cons e n d l => match toL e with
    | none => none
    | some e' => if d = 1 then (if n < 1 then none else (toL l).map (T.cons e' n)) else none
def resT : Option T → Rw × Bool
  | some r => (r.rows, true)
  | none => ([], false)
def posAll : T → Prop
  | .nil => True
  | .cons e c l => posAll e ∧ 1 ≤ c ∧ posAll l
theorem toL_back : ∀ {x : S} {a : T}, toL x = some a → x = surT a ∧ posAll a
  | .nil, a, h => by simp only [toL, Option.some.injEq] at h; subst h; exact ⟨rfl, trivial⟩
  | .cons e n d l, a, h => by
    simp only [toL] at h
    cases he : toL e with
    | none => rw [he] at h; cases h
    | some e' =>
      rw [he] at h
      simp only at h
      split at h
      · rename_i hd
        split at h
        · cases h
        · rename_i hn
          cases hl : toL l with
          | none => rw [hl] at h; cases h
          | some l' =>
            rw [hl] at h
            simp only [Option.map_some, Option.some.injEq] at h
            subst h
            obtain ⟨e1, e2⟩ := toL_back he
            obtain ⟨l1, l2⟩ := toL_back hl
            exact ⟨by rw [surT, ← e1, ← l1, hd], e2, by omega, l2⟩
      · cases h
theorem form_back : ∀ {p : Option T} {a : T}, (∀ q, p = some q → formA none q = true) → posAll a → formS (p.map surT) (surT a) = true → formA p a = true
  | _, .nil, _, _, _ => rfl
  | p, .cons e c l, hp, pa, h => by
    simp only [surT, formS, Bool.and_eq_true, decide_eq_true_eq] at h
    obtain ⟨⟨⟨⟨h1, h2⟩, h3⟩, h4⟩, h5⟩ := h
    have i1 := form_back (p := none) (fun q hq => by cases hq) pa.1 h3
    have i2 := form_back (p := some e) (fun q hq => by cases hq; exact i1) pa.2.2 h5
    have hf := frP_in h1
    simp only [formA, Bool.and_eq_true, decide_eq_true_eq]
    refine ⟨⟨⟨⟨pa.2.1, by omega⟩, i1⟩, ?_⟩, i2⟩
    cases p with
    | none => rfl
    | some q =>
      simp only [Option.map_some, decide_eq_true_eq] at h4
      simp only [decide_eq_true_eq]
      rw [← surT_cmp (hp q rfl) i1]; exact h4
theorem back_ok {a : T} (pa : posAll a) (h : surP (surT a) = true) : ordP a = true := by
  simp only [surP, Bool.and_eq_true, decide_eq_true_eq, surT_nodes, surT_dp] at h
  simp only [ordP, Bool.and_eq_true, decide_eq_true_eq]
  exact ⟨h.1, form_back (p := none) (fun q hq => by cases hq) pa h.2⟩
theorem rowsT_snoc (l e : T) (c : Int) : l.rows ++ [[D.sl e.rows, D.int .i64 c]] = (app l (T.cons e c .nil)).rows := by rw [rows_app]; rfl
theorem to_loops {r1 r2 : Rw → Option (Rw × Bool)} {a : S} (hr : ∀ e : S, e.sizeS < a.sizeS → r1 e.rowsS = some (resT (toL e)) ∧ r2 e.rowsS = some (resT (toL e))) : ∀ (t : S) (acc : T), t.sizeS ≤ a.sizeS → acc.len + t.lenS ≤ cap →
    impl_toOrdinal_l0 r1 a.rowsS (fun v => impl_toOrdinal_p3 v) t.rowsS acc.rows = some (resT ((toL t).map (app acc))) ∧ spec_suTo_l0 r2 a.rowsS (fun v => spec_suTo_p3 v) t.rowsS acc.rows = some (resT ((toL t).map (app acc)))
  | .nil, acc, _, _ => by
    simp only [rowsS, impl_toOrdinal_l0, spec_suTo_l0, toL, Option.map_some, T.app_nil]
    exact ⟨rfl, rfl⟩
  | .cons e n d l, acc, hs, hl => by
    simp only [sizeS, lenS] at hs hl
    obtain ⟨h1, h2⟩ := hr e (by omega)
    simp only [rowsS, impl_toOrdinal_l0, spec_suTo_l0, cell_S]
    rw [h1, h2]
    simp only [Option.bind_some, toL]
    cases he : toL e with
    | none => exact ⟨rfl, rfl⟩
    | some e' =>
      simp only [resT, if_true]
      by_cases hd : d = 1
      · rw [if_pos hd, if_pos hd, if_pos hd]
        by_cases hn : n < 1
        · rw [if_pos hn, if_pos hn, if_pos hn]; exact ⟨rfl, rfl⟩
        · rw [if_neg hn, if_neg hn, if_neg hn, if_pos (by rw [rows_len]; omega), if_pos (by rw [rows_len]; omega), rowsT_snoc]
          obtain ⟨i1, i2⟩ := to_loops hr l (app acc (T.cons e' n .nil)) (by omega) (by rw [len_app]; simp only [T.len]; omega)
          rw [i1, i2]
          cases toL l with
          | none => exact ⟨rfl, rfl⟩
          | some y => simp only [Option.map_some, app_assoc]; exact ⟨rfl, rfl⟩
      · rw [if_neg hd, if_neg hd, if_neg hd]; exact ⟨rfl, rfl⟩
theorem to_eq : ∀ (k : Nat) (a : S), a.sizeS < k → a.sizeS ≤ cap → impl_toOrdinal k a.rowsS = some (resT (toL a)) ∧ spec_suTo k a.rowsS = some (resT (toL a))
  | 0, _, h, _ => absurd h (Nat.not_lt_zero _)
  | k + 1, a, h, hc => by
    have hl := a.len_sizeS
    simp only [impl_toOrdinal, impl_toOrdinal_b, spec_suTo, spec_suTo_b]
    obtain ⟨h1, h2⟩ := to_loops (r1 := impl_toOrdinal k) (r2 := spec_suTo k) (a := a) (fun e he => to_eq k e (by omega) (by omega)) a .nil (Nat.le_refl _) (by simp only [T.len]; omega)
    rw [if_pos (by rw [rowsS_len]; omega), if_pos (by rw [rowsS_len]; omega)]
    rw [show (T.nil).rows = ([] : Rw) from rfl] at h1 h2
    rw [h1, h2]
    cases toL a <;> exact ⟨rfl, rfl⟩
theorem to_both {k : Nat} {a : S} (ka : a.sizeS + 300 < k) (hc : a.sizeS ≤ cap) : ∃ (r : T) (ok : Bool), impl_ToOrdinal k a.rowsS = some (r.rows, ok) ∧ spec_ToOrdinal k a.rowsS = some (r.rows, ok) ∧ r.size ≤ 30 := by
  have h3 : cap = 1099511627776 := rfl
  unfold impl_ToOrdinal spec_ToOrdinal
  rw [IsSurreal_eq k a ka hc, suGood_all k a ka hc]
  simp only [Option.bind_some]
  cases ha : surP a with
  | false => exact ⟨.nil, false, rfl, rfl, by simp [T.size]⟩
  | true =>
    obtain ⟨e1, e2⟩ := to_eq k a (by omega) hc
    simp only [if_true]
    rw [e1, e2]
    simp only [Option.bind_some]
    cases hx : toL a with
    | none => exact ⟨.nil, false, rfl, rfl, by simp [T.size]⟩
    | some r =>
      obtain ⟨b1, b2⟩ := toL_back hx
      rw [b1] at ha
      have ho := back_ok b2 ha
      have hs := ordP_size ho
      have hz := surT_size r
      simp only [resT, if_true]
      rw [told_eq k r (by omega) (by omega)]
      unfold toldT
      rw [ho]
      exact ⟨r, true, rfl, rfl, hs⟩
end Go.Proofs.Try
