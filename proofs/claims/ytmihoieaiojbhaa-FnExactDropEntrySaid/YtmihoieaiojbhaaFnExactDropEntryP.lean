/- What the printed functions compute: plain data. -/
import Derived.Test.YtmihoieaiojbhaaDE1
import Derived.Lib.Strings
import Derived.Lib.Join
import Derived.Lib.ItoaLen
import Derived.Lib.Bytealg
set_option linter.unusedVariables false
set_option linter.unusedSimpArgs false
namespace Go.Proofs.Try
open Go Go.AX

theorem wid {n : Int} (h1 : -9223372036854775808 ≤ n) (h2 : n < 9223372036854775808) : IntKind.i64.wrap n = n := wrap_in h1 h2
/-- An ordinal: its terms, exponents and coefficients. -/
inductive T where
  | nil
  | cons (e : T) (c : Int) (l : T)
namespace T
def rows : T → Rw
  | nil => []
  | cons e c l => [.sl (rows e), .int .i64 c] :: rows l
def size : T → Nat
  | nil => 0
  | cons e _ l => size e + size l + 1
def len : T → Nat
  | nil => 0
  | cons _ _ l => len l + 1
def drop : T → Nat → T
  | t, 0 => t
  | nil, _ + 1 => nil
  | cons _ _ l, n + 1 => drop l n
def app : T → T → T
  | nil, b => b
  | cons e c l, b => cons e c (app l b)
@[simp] theorem drop_zero (t : T) : drop t 0 = t := by cases t <;> rfl
@[simp] theorem drop_nil (n : Nat) : drop nil n = nil := by cases n <;> rfl
@[simp] theorem rows_len (t : T) : (rows t).length = len t := by
  induction t with
  | nil => rfl
  | cons e c l _ ih => simp [rows, len, ih]
theorem len_size (t : T) : len t ≤ size t := by
  induction t with
  | nil => simp [len]
  | cons e c l _ ih => simp [len, size]; omega
@[simp] theorem rows_app (a b : T) : rows (app a b) = rows a ++ rows b := by
  induction a with
  | nil => rfl
  | cons e c l _ ih => simp [app, rows, ih]
theorem rows_drop (t : T) (i : Nat) : rows (drop t i) = (rows t).drop i := by
  induction t generalizing i with
  | nil => cases i <;> simp [drop, rows]
  | cons e c l _ ih => cases i with
    | zero => simp [drop]
    | succ i => simp [drop, rows, ih]
theorem rowsWide (t : T) : ∀ cs ∈ rows t, cs.length = 2 := by
  induction t with
  | nil => intro cs h; cases h
  | cons e c l _ ih =>
    intro cs h
    simp only [rows, List.mem_cons] at h
    rcases h with rfl | h
    · rfl
    · exact ih cs h
theorem rowsWide_drop (t : T) (i : Nat) : ∀ cs ∈ (rows t).drop i, cs.length = 2 := fun cs h => rowsWide t cs (List.mem_of_mem_drop h)
theorem drop_len (t : T) (i : Nat) : len (drop t i) = len t - i := by rw [← rows_len, rows_drop, List.length_drop, rows_len]
theorem drop_succ {t : T} {i : Nat} {e : T} {c : Int} {l : T} (h : drop t i = cons e c l) : drop t (i + 1) = l := by
  induction t generalizing i with
  | nil => simp at h
  | cons e' c' l' _ ih =>
    cases i with
    | zero => simp only [drop, cons.injEq] at h ⊢; simp [h.2.2]
    | succ i => exact ih h
theorem drop_size {t : T} {i : Nat} : size (drop t i) ≤ size t := by
  induction t generalizing i with
  | nil => simp
  | cons e c l _ ih =>
    cases i with
    | zero => simp
    | succ i => simp only [drop, size]; have := ih (i := i); omega
theorem drop_cons_size {t : T} {i : Nat} {e : T} {c : Int} {l : T} (h : drop t i = cons e c l) : size e + size l + 1 ≤ size t := by
  have := drop_size (t := t) (i := i); rw [h] at this; exact this
theorem drop_lt {t : T} {i : Nat} {e : T} {c : Int} {l : T} (h : drop t i = cons e c l) : i < len t := by
  have := drop_len t i; rw [h] at this; simp only [len] at this; omega
theorem drop_ge {t : T} {i : Nat} (h : drop t i = nil) : len t ≤ i := by
  have := drop_len t i; rw [h] at this; simp only [len] at this; omega
theorem drop_of_ge {t : T} {i : Nat} (h : len t ≤ i) : drop t i = nil := by
  have := drop_len t i
  cases hd : drop t i with
  | nil => rfl
  | cons e c l => rw [hd] at this; simp only [len] at this; omega
theorem rows_get {t : T} {i : Nat} {e : T} {c : Int} {l : T} (h : drop t i = cons e c l) : (rows t)[i]? = some [.sl (rows e), .int .i64 c] := by
  have := rows_drop t i
  rw [h] at this
  have h2 : ((rows t).drop i)[0]? = some [.sl (rows e), .int .i64 c] := by rw [← this]; rfl
  rwa [List.getElem?_drop, Nat.add_zero] at h2
@[simp] theorem app_nil (t : T) : app t nil = t := by
  induction t with
  | nil => rfl
  | cons e c l _ ih => simp [app, ih]
theorem app_assoc (a b c : T) : app (app a b) c = app a (app b c) := by
  induction a with
  | nil => rfl
  | cons e k l _ ih => simp [app, ih]
theorem size_app (a b : T) : (app a b).size = a.size + b.size := by
  induction a with
  | nil => simp [app, size]
  | cons e c l _ ih => simp [app, size, ih]; omega
theorem len_app (a b : T) : (app a b).len = a.len + b.len := by
  induction a with
  | nil => simp [app, len]
  | cons e c l _ ih => simp [app, len, ih]; omega
theorem rows_inj : ∀ {a b : T}, rows a = rows b → a = b
  | nil, nil, _ => rfl
  | nil, cons _ _ _, h => by simp [rows] at h
  | cons _ _ _, nil, h => by simp [rows] at h
  | cons e c l, cons f d m, h => by
    simp only [rows, List.cons.injEq, D.sl.injEq, D.int.injEq, true_and, and_true] at h
    obtain ⟨⟨h1, h2⟩, h3⟩ := h
    rw [rows_inj h1, h2, rows_inj h3]
end T
open T
theorem row_rows {α : Type} {t : T} {i : Int} {n : Nat} (hi : i = n) {e : T} {c : Int} {l : T} (h : drop t n = cons e c l) (F : Rw → List D → Option α) : (if 0 ≤ i then (match (rows t)[i.toNat]? with | some cs => F (rows t) cs | none => none) else none) = F (rows t) [.sl (rows e), .int .i64 c] := by
  subst hi
  rw [if_pos (by omega), Int.toNat_natCast, rows_get h]

/-! ### the order -/
def cmpI (a b : Int) : Int := if a < b then -1 else if b < a then 1 else 0
def cmpT : T → T → Int
  | nil, nil => 0
  | nil, cons _ _ _ => -1
  | cons _ _ _, nil => 1
  | cons e c l, cons f d m => if cmpT e f = 0 then (if cmpI c d = 0 then cmpT l m else cmpI c d) else cmpT e f
theorem cmpI_refl (a : Int) : cmpI a a = 0 := by simp [cmpI]
theorem cmpI_eq {a b : Int} : cmpI a b = 0 ↔ a = b := by unfold cmpI; split <;> (try split) <;> simp <;> omega
theorem cmpI_neg (a b : Int) : cmpI b a = - cmpI a b := by unfold cmpI; split <;> split <;> (try split) <;> omega
theorem cmpT_range (a b : T) : cmpT a b = -1 ∨ cmpT a b = 0 ∨ cmpT a b = 1 := by
  induction a generalizing b with
  | nil => cases b <;> simp [cmpT]
  | cons e c l ihe ihl =>
    cases b with
    | nil => simp [cmpT]
    | cons f d m =>
      simp only [cmpT]
      split
      · split
        · exact ihl m
        · unfold cmpI; split <;> (try split) <;> simp
      · exact ihe f
theorem cmpT_refl (a : T) : cmpT a a = 0 := by
  induction a with
  | nil => rfl
  | cons e c l ihe ihl => simp [cmpT, ihe, ihl, cmpI_refl]
theorem cmpT_eq {a b : T} : cmpT a b = 0 ↔ a = b := by
  induction a generalizing b with
  | nil => cases b <;> simp [cmpT]
  | cons e c l ihe ihl =>
    cases b with
    | nil => simp [cmpT]
    | cons f d m =>
      simp only [cmpT, cons.injEq]
      constructor
      · intro h
        split at h
        · rename_i h1
          split at h
          · rename_i h2; exact ⟨ihe.1 h1, cmpI_eq.1 h2, ihl.1 h⟩
          · rename_i h2; exact absurd h h2
        · rename_i h1; exact absurd h h1
      · rintro ⟨rfl, rfl, rfl⟩
        rw [if_pos (cmpT_refl e), if_pos (cmpI_refl c)]; exact cmpT_refl l
theorem cmpT_neg (a b : T) : cmpT b a = - cmpT a b := by
  induction a generalizing b with
  | nil => cases b <;> simp [cmpT]
  | cons e c l ihe ihl =>
    cases b with
    | nil => simp [cmpT]
    | cons f d m =>
      simp only [cmpT, ihe f, ihl m, cmpI_neg c d]
      split <;> split <;> (try split) <;> (try split) <;> omega
theorem cmpI_trans {a b c : Int} (h1 : cmpI a b < 0) (h2 : cmpI b c < 0) : cmpI a c < 0 := by
  unfold cmpI at *
  split at h1 <;> (try split at h1) <;> split at h2 <;> (try split at h2) <;> split <;> (try split) <;> omega
theorem cmpT_trans {a b c : T} (h1 : cmpT a b < 0) (h2 : cmpT b c < 0) : cmpT a c < 0 := by
  induction a generalizing b c with
  | nil =>
    cases b with
    | nil => simp [cmpT] at h1
    | cons f d m => cases c with
      | nil => simp [cmpT] at h2
      | cons g k n => simp [cmpT]
  | cons e x l ihe ihl =>
    cases b with
    | nil => simp [cmpT] at h1
    | cons f y m =>
      cases c with
      | nil => simp [cmpT] at h2
      | cons g z n =>
        simp only [cmpT] at h1 h2 ⊢
        by_cases q1 : cmpT e f = 0
        · rw [if_pos q1] at h1
          obtain rfl := cmpT_eq.1 q1
          by_cases q2 : cmpT e g = 0
          · rw [if_pos q2] at h2 ⊢
            by_cases q3 : cmpI x y = 0
            · rw [if_pos q3] at h1
              obtain rfl := cmpI_eq.1 q3
              by_cases q4 : cmpI x z = 0
              · rw [if_pos q4] at h2 ⊢; exact ihl h1 h2
              · rw [if_neg q4] at h2 ⊢; exact h2
            · rw [if_neg q3] at h1
              by_cases q4 : cmpI y z = 0
              · rw [if_pos q4] at h2
                obtain rfl := cmpI_eq.1 q4
                rw [if_neg q3]; exact h1
              · rw [if_neg q4] at h2
                have := cmpI_trans h1 h2
                rw [if_neg (by omega)]; exact this
          · rw [if_neg q2] at h2 ⊢; exact h2
        · rw [if_neg q1] at h1
          by_cases q2 : cmpT f g = 0
          · obtain rfl := cmpT_eq.1 q2
            rw [if_neg q1]; exact h1
          · rw [if_neg q2] at h2
            have := ihe h1 h2
            rw [if_neg (by omega)]; exact this

/-! ### what is right -/
def nodesL : T → Nat
  | nil => 0
  | cons e _ l => 2 + nodesL e + nodesL l
def dp : T → Nat
  | nil => 0
  | cons e _ l => max (1 + dp e) (dp l)
/-- Coefficients in their range, exponents that fall; p: the exponent ahead. -/
def formA : Option T → T → Bool
  | _, nil => true
  | p, cons e c l => decide (1 ≤ c) && decide (c ≤ 1000000) && formA none e && (match p with | none => true | some q => decide (0 < cmpT q e)) && formA (some e) l
def ordP (t : T) : Bool := decide (1 + nodesL t ≤ 60) && decide (dp t ≤ 6) && formA none t
theorem nodes_size (t : T) : nodesL t = 2 * size t := by
  induction t with
  | nil => rfl
  | cons e c l ihe ihl => simp only [nodesL, size, ihe, ihl]; omega
theorem ordP_size {t : T} (h : ordP t = true) : size t ≤ 30 := by
  simp only [ordP, Bool.and_eq_true, decide_eq_true_eq] at h
  have := nodes_size t
  omega
end Go.Proofs.Try

namespace Go.Proofs.Try
theorem bind_of {α β : Type} {o : Option α} {y : α} {K : α → Option β} {r : Option β} (h : o = some y) (hk : K y = r) : o.bind K = r := by rw [h]; exact hk
theorem ite_pos {α : Type} {c : Prop} [Decidable c] {a b r : α} (h : c) (hk : a = r) : (if c then a else b) = r := by rw [if_pos h]; exact hk
theorem ite_neg {α : Type} {c : Prop} [Decidable c] {a b r : α} (h : ¬ c) (hk : b = r) : (if c then a else b) = r := by rw [if_neg h]; exact hk
theorem cond_tt {α : Type} {a b r : α} (h : a = r) : cond true a b = r := h
theorem cond_ff {α : Type} {a b r : α} (h : b = r) : cond false a b = r := h
end Go.Proofs.Try

namespace Go.Proofs.Try
open Go Go.AX
/-- A surreal number: its terms, exponents and coefficients (fractions). -/
inductive S where
  | nil
  | cons (e : S) (c c₂ : Int) (l : S)
namespace S
def rowsS : S → Rw
  | nil => []
  | cons e c c₂ l => [.sl (rowsS e), .int .i64 c, .int .i64 c₂] :: rowsS l
def sizeS : S → Nat
  | nil => 0
  | cons e _ _ l => sizeS e + sizeS l + 1
def lenS : S → Nat
  | nil => 0
  | cons _ _ _ l => lenS l + 1
def dropS : S → Nat → S
  | t, 0 => t
  | nil, _ + 1 => nil
  | cons _ _ _ l, n + 1 => dropS l n
def appS : S → S → S
  | nil, b => b
  | cons e c c₂ l, b => cons e c c₂ (appS l b)
@[simp] theorem drop_zeroS (t : S) : dropS t 0 = t := by cases t <;> rfl
@[simp] theorem drop_nilS (n : Nat) : dropS nil n = nil := by cases n <;> rfl
@[simp] theorem rowsS_len (t : S) : (rowsS t).length = lenS t := by
  induction t with
  | nil => rfl
  | cons e c c₂ l _ ih => simp [rowsS, lenS, ih]
theorem len_sizeS (t : S) : lenS t ≤ sizeS t := by
  induction t with
  | nil => simp [lenS]
  | cons e c c₂ l _ ih => simp [lenS, sizeS]; omega
@[simp] theorem rows_appS (a b : S) : rowsS (appS a b) = rowsS a ++ rowsS b := by
  induction a with
  | nil => rfl
  | cons e c c₂ l _ ih => simp [appS, rowsS, ih]
theorem rows_dropS (t : S) (i : Nat) : rowsS (dropS t i) = (rowsS t).drop i := by
  induction t generalizing i with
  | nil => cases i <;> simp [dropS, rowsS]
  | cons e c c₂ l _ ih => cases i with
    | zero => simp [dropS]
    | succ i => simp [dropS, rowsS, ih]
theorem rowsWideS (t : S) : ∀ cs ∈ rowsS t, cs.length = 3 := by
  induction t with
  | nil => intro cs h; cases h
  | cons e c c₂ l _ ih =>
    intro cs h
    simp only [rowsS, List.mem_cons] at h
    rcases h with rfl | h
    · rfl
    · exact ih cs h
theorem rowsWide_dropS (t : S) (i : Nat) : ∀ cs ∈ (rowsS t).drop i, cs.length = 3 := fun cs h => rowsWideS t cs (List.mem_of_mem_drop h)
theorem drop_lenS (t : S) (i : Nat) : lenS (dropS t i) = lenS t - i := by rw [← rowsS_len, rows_dropS, List.length_drop, rowsS_len]
theorem drop_succS {t : S} {i : Nat} {e : S} {c c₂ : Int} {l : S} (h : dropS t i = cons e c c₂ l) : dropS t (i + 1) = l := by
  induction t generalizing i with
  | nil => simp at h
  | cons e' c' c₂' l' _ ih =>
    cases i with
    | zero => simp only [dropS, cons.injEq] at h ⊢; simp [h.2.2]
    | succ i => exact ih h
theorem drop_sizeS {t : S} {i : Nat} : sizeS (dropS t i) ≤ sizeS t := by
  induction t generalizing i with
  | nil => simp
  | cons e c c₂ l _ ih =>
    cases i with
    | zero => simp
    | succ i => simp only [dropS, sizeS]; have := ih (i := i); omega
theorem drop_cons_sizeS {t : S} {i : Nat} {e : S} {c c₂ : Int} {l : S} (h : dropS t i = cons e c c₂ l) : sizeS e + sizeS l + 1 ≤ sizeS t := by
  have := drop_sizeS (t := t) (i := i); rw [h] at this; exact this
theorem drop_ltS {t : S} {i : Nat} {e : S} {c c₂ : Int} {l : S} (h : dropS t i = cons e c c₂ l) : i < lenS t := by
  have := drop_lenS t i; rw [h] at this; simp only [lenS] at this; omega
theorem drop_geS {t : S} {i : Nat} (h : dropS t i = nil) : lenS t ≤ i := by
  have := drop_lenS t i; rw [h] at this; simp only [lenS] at this; omega
theorem drop_of_geS {t : S} {i : Nat} (h : lenS t ≤ i) : dropS t i = nil := by
  have := drop_lenS t i
  cases hd : dropS t i with
  | nil => rfl
  | cons e c c₂ l => rw [hd] at this; simp only [lenS] at this; omega
theorem rows_getS {t : S} {i : Nat} {e : S} {c c₂ : Int} {l : S} (h : dropS t i = cons e c c₂ l) : (rowsS t)[i]? = some [.sl (rowsS e), .int .i64 c, .int .i64 c₂] := by
  have := rows_dropS t i
  rw [h] at this
  have h2 : ((rowsS t).drop i)[0]? = some [.sl (rowsS e), .int .i64 c, .int .i64 c₂] := by rw [← this]; rfl
  rwa [List.getElem?_drop, Nat.add_zero] at h2
@[simp] theorem app_nilS (t : S) : appS t nil = t := by
  induction t with
  | nil => rfl
  | cons e c c₂ l _ ih => simp [appS, ih]
theorem app_assocS (a b c : S) : appS (appS a b) c = appS a (appS b c) := by
  induction a with
  | nil => rfl
  | cons e k k₂ l _ ih => simp [appS, ih]
theorem size_appS (a b : S) : (appS a b).sizeS = a.sizeS + b.sizeS := by
  induction a with
  | nil => simp [appS, sizeS]
  | cons e c c₂ l _ ih => simp [appS, sizeS, ih]; omega
theorem len_appS (a b : S) : (appS a b).lenS = a.lenS + b.lenS := by
  induction a with
  | nil => simp [appS, lenS]
  | cons e c c₂ l _ ih => simp [appS, lenS, ih]; omega
theorem rows_injS : ∀ {a b : S}, rowsS a = rowsS b → a = b
  | nil, nil, _ => rfl
  | nil, cons _ _ _ _, h => by simp [rowsS] at h
  | cons _ _ _ _, nil, h => by simp [rowsS] at h
  | cons e c c₂ l, cons f d d₂ m, h => by
    simp only [rowsS, List.cons.injEq, D.sl.injEq, D.int.injEq, true_and, and_true] at h
    obtain ⟨⟨h1, h2⟩, h3⟩ := h
    rw [rows_injS h1, h2.1, h2.2, rows_injS h3]
end S
open S
@[simp] theorem cell_S {α : Type} (x : Rw) (c c₂ : Int) (K : Rw → Int → Int → Option α) : cell_sii [.sl x, .int .i64 c, .int .i64 c₂] K = K x c c₂ := rfl
theorem row_S {α : Type} {t : S} {i : Int} {n : Nat} (hi : i = n) {e : S} {c c₂ : Int} {l : S} (h : dropS t n = cons e c c₂ l) (K : Rw → Int → Int → Option α) : row_sii t.rowsS i K = K e.rowsS c c₂ := by
  subst hi
  unfold row_sii
  rw [if_pos (by omega), Int.toNat_natCast, rows_getS h]; rfl
@[simp] theorem row_S0 {α : Type} (e : S) (c c₂ : Int) (l : S) (K : Rw → Int → Int → Option α) : row_sii (cons e c c₂ l).rowsS 0 K = K e.rowsS c c₂ := row_S (n := 0) rfl rfl K
theorem lenSI (t : S) : ((t.rowsS.length : Nat) : Int) = (t.lenS : Int) := by rw [rowsS_len]
end Go.Proofs.Try

namespace Go.Proofs.Try
open Go Go.AX S
theorem fr_snocLenS (l e : S) (c c₂ : Int) : (appS l (cons e c c₂ nil)).lenS = l.lenS + 1 := by rw [len_appS]; rfl
theorem toSur_loop {rec_ : Rw → Option Rw} {a : S} {K : Rw → Option Rw} (hr : ∀ e : S, e.sizeS < a.sizeS → rec_ e.rowsS = some e.rowsS) :
    ∀ (t : S) (i : Nat) (done : S), t.sizeS ≤ a.sizeS → done.lenS = i → laws_toSurrealTermS_l0 rec_ a.rowsS K t.rowsS i (done.rowsS ++ List.replicate t.lenS [D.sl ([]), D.int .i64 0, D.int .i64 0]) = K (appS done t).rowsS
  | nil, i, done, _, hd => by
    simp only [rowsS, laws_toSurrealTermS_l0, lenS, List.replicate_zero, List.append_nil, rows_appS]
  | cons e c c₂ l, i, done, hs, hd => by
    simp only [sizeS] at hs
    simp only [rowsS, laws_toSurrealTermS_l0, cell_S, laws_toSurrealTerm, laws_toFraction, lenS]
    rw [hr e (by omega)]
    have hlen : (done.rowsS ++ List.replicate (l.lenS + 1) [D.sl ([]), D.int .i64 0, D.int .i64 0]).length = i + (l.lenS + 1) := by rw [List.length_append, rowsS_len, hd, List.length_replicate]
    simp only [Option.bind_some]
    rw [if_pos ⟨by omega, by rw [hlen]; omega⟩]
    have hrow : ∀ {α : Type} (K : Rw → Int → Int → Option α), row_sii (done.rowsS ++ List.replicate (l.lenS + 1) [D.sl ([]), D.int .i64 0, D.int .i64 0]) (i : Int) K = K [] 0 0 := by
      intro α K
      unfold row_sii
      rw [if_pos (by omega), Int.toNat_natCast, List.getElem?_append_right (by rw [rowsS_len]; omega), rowsS_len, hd, Nat.sub_self, List.replicate_succ]
      rfl
    rw [hrow]
    have hset : (done.rowsS ++ List.replicate (l.lenS + 1) [D.sl ([]), D.int .i64 0, D.int .i64 0]).set (i : Int).toNat [D.sl e.rowsS, D.int .i64 c, .int .i64 c₂] = (appS done (cons e c c₂ nil)).rowsS ++ List.replicate l.lenS [D.sl ([]), D.int .i64 0, D.int .i64 0] := by
      rw [Int.toNat_natCast, List.set_append_right (h := by rw [rowsS_len]; omega), rowsS_len, hd, Nat.sub_self, List.replicate_succ, rows_appS]
      simp [rowsS]
    rw [hset, toSur_loop hr l (i + 1) (appS done (cons e c c₂ nil)) (by omega) (by rw [fr_snocLenS, hd]), app_assocS]
    rfl
theorem toSur_eq : ∀ (k : Nat) (a : S), a.sizeS < k → a.sizeS ≤ cap → laws_toSurreal k a.rowsS = some a.rowsS
  | 0, _, h, _ => absurd h (Nat.not_lt_zero _)
  | k + 1, a, h, hc => by
    have h3 : cap = 1099511627776 := rfl
    have hl := a.len_sizeS
    simp only [laws_toSurreal, laws_toSurreal_b, laws_toSurrealTermS]
    rw [if_pos (by rw [lenSI]; omega), if_pos (by rw [rowsS_len]; omega), lenSI, Int.toNat_natCast]
    have := toSur_loop (rec_ := laws_toSurreal k) (a := a) (K := fun v29 => some v29) (fun e he => toSur_eq k e (by omega) (by omega)) a 0 nil (Nat.le_refl _) rfl
    simp only [rowsS, List.nil_append, appS] at this
    rw [this]; rfl
theorem eqFrac_refl (n d : Int) : laws_eqFraction n d n d = some true := by unfold laws_eqFraction; rw [if_pos rfl, if_pos rfl]
theorem eqSur_loop {rec_ : Rw → Rw → Option Bool} {a : S} (hr : ∀ e : S, e.sizeS < a.sizeS → rec_ e.rowsS e.rowsS = some true) : ∀ (t : S) (i : Nat), dropS a i = t → laws_eqSurrealTermS_l0 rec_ a.rowsS a.rowsS (some true) t.rowsS i = some true
  | nil, i, _ => rfl
  | cons e c c₂ l, i, hd => by
    have hs := drop_cons_sizeS hd
    simp only [rowsS, laws_eqSurrealTermS_l0, cell_S, laws_eqSurrealTerm]
    have he : laws_eqFraction c c₂ c c₂ = some true := by unfold laws_eqFraction; rw [if_pos rfl, if_pos rfl]
    rw [row_S rfl hd, hr e (by omega), Option.bind_some, if_pos rfl, he, Option.bind_some, if_pos rfl, Option.bind_some, if_pos rfl]
    exact eqSur_loop hr l (i + 1) (drop_succS hd)
theorem eqSur_refl : ∀ (k : Nat) (a : S), a.sizeS < k → a.sizeS ≤ cap → laws_eqSurreal k a.rowsS a.rowsS = some true
  | 0, _, h, _ => absurd h (Nat.not_lt_zero _)
  | k + 1, a, h, hc => by
    have hl := a.len_sizeS
    simp only [laws_eqSurreal, laws_eqSurreal_b, laws_eqSurrealTermS]
    rw [if_pos True.intro, if_pos (by rw [rowsS_len]; omega), eqSur_loop (a := a) (fun e he => eqSur_refl k e (by omega) (by omega)) a 0 (drop_zeroS a)]
    rfl
/-- Slices no longer, and numerators no greater, than a machine has. -/
def fitS : S → Prop
  | nil => True
  | cons e c c₂ l => fitS e ∧ (e.lenS : Int) ≤ 9223372036854775807 ∧ fitS l ∧ (-9223372036854775808 ≤ c ∧ c ≤ 9223372036854775807)
theorem szSur_loop {rec_ : Rw → Int → Option Int} {a : S} {K : Int → Option Int} (hr : ∀ (e : S) (v : Int), e.sizeS < a.sizeS → fitS e → (e.lenS : Int) ≤ 9223372036854775807 → 0 ≤ v → v ≤ 1048576 → ∃ r : Int, rec_ e.rowsS v = some r ∧ r ≤ v ∧ -1 ≤ r ∧ (0 ≤ r → r + e.sizeS ≤ v)) :
    ∀ (t : S) (v : Int), t.sizeS ≤ a.sizeS → fitS t → 0 ≤ v → v ≤ 1048576 → (laws_szSurrealTermS_l0 rec_ a.rowsS K t.rowsS v = some (-1)) ∨ ∃ r : Int, laws_szSurrealTermS_l0 rec_ a.rowsS K t.rowsS v = K r ∧ 0 ≤ r ∧ r + t.sizeS ≤ v + t.lenS
  | nil, v, _, _, h0, h1 => Or.inr ⟨v, rfl, h0, by simp [sizeS, lenS]⟩
  | cons e c c₂ l, v, hs, hf, h0, h1 => by
    simp only [sizeS] at hs
    obtain ⟨r, e1, q1, q2, q3⟩ := hr e v (by omega) hf.1 hf.2.1 h0 h1
    simp only [rowsS, laws_szSurrealTermS_l0, cell_S, laws_szSurrealTerm]
    rw [e1, Option.bind_some]
    by_cases g : r < 0
    · left; rw [if_pos g, Option.bind_some, if_pos (by omega)]
    · rw [if_neg g, Option.bind_some, if_neg g]
      rcases szSur_loop hr l r (by omega) hf.2.2.1 (by omega) (by omega) with h | ⟨u, h, p1, p2⟩
      · left; exact h
      · right; exact ⟨u, h, p1, by simp only [sizeS, lenS]; omega⟩
theorem szSur_eq : ∀ (k : Nat) (a : S) (v : Int), a.sizeS < k → fitS a → (a.lenS : Int) ≤ 9223372036854775807 → 0 ≤ v → v ≤ 1048576 → ∃ r : Int, laws_szSurreal k a.rowsS v = some r ∧ r ≤ v ∧ -1 ≤ r ∧ (0 ≤ r → r + a.sizeS ≤ v)
  | 0, _, _, h, _, _, _, _ => absurd h (Nat.not_lt_zero _)
  | k + 1, a, v, h, hf, hl, h0, h1 => by
    have h3 : cap = 1099511627776 := rfl
    simp only [laws_szSurreal, laws_szSurreal_b, laws_szSurrealTermS]
    have e1 : IntKind.i64.wrap (v - (a.rowsS.length : Int)) = v - (a.lenS : Int) := by rw [lenSI, wid (by omega) (by omega)]
    rw [e1]
    by_cases g : v - (a.lenS : Int) < 0
    · rw [if_pos g, Option.bind_some, if_pos (by omega)]
      exact ⟨-1, rfl, by omega, by omega, fun h => by omega⟩
    · rw [if_neg g, if_pos (by rw [rowsS_len]; omega)]
      rcases szSur_loop (rec_ := laws_szSurreal k) (a := a) (K := fun v22 => some v22) (fun e v he hf hl h0 h1 => szSur_eq k e v (by omega) hf hl h0 h1) a (v - (a.lenS : Int)) (Nat.le_refl _) hf (by omega) (by omega) with q | ⟨r, q, p1, p2⟩
      · rw [q, Option.bind_some, if_pos (by omega)]
        exact ⟨-1, rfl, by omega, by omega, fun h => by omega⟩
      · rw [q, Option.bind_some, if_neg (by omega)]
        exact ⟨r, rfl, by omega, by omega, fun _ => by omega⟩
end Go.Proofs.Try

namespace Go.Proofs.Try
open Go Go.AX S
theorem fr_drop_appS (l r : S) : dropS (appS l r) l.lenS = r := by
  induction l with
  | nil => simp [appS, lenS]
  | cons e c c₂ l _ ih => exact ih
def mkS : S → Int → S
  | nil, _ => nil
  | cons e _ _ l, k => cons (mkS e k) (k + 2 * sizeS e) (k + 2 * sizeS e + 1) (mkS l (k + 2 * sizeS e + 2))
theorem mkS_len (t : S) (k : Int) : (mkS t k).lenS = t.lenS := by
  induction t generalizing k with
  | nil => rfl
  | cons e c c₂ l _ ih => simp [mkS, lenS, ih]
theorem mkS_size (t : S) (k : Int) : (mkS t k).sizeS = t.sizeS := by
  induction t generalizing k with
  | nil => rfl
  | cons e c c₂ l ihe ih => simp [mkS, sizeS, ihe, ih]
theorem set_rowsS (l e e' r : S) (c c₂ c' c₂' : Int) : (appS l (cons e c c₂ r)).rowsS.set l.lenS [D.sl e'.rowsS, D.int .i64 c', D.int .i64 c₂'] = (appS l (cons e' c' c₂' r)).rowsS := by
  rw [rows_appS, rows_appS, ← rowsS_len l, List.set_append_right (h := Nat.le_refl _), Nat.sub_self]; rfl
theorem markSur_loop {rec_ : Rw → Int → Option (Int × Rw)} {K0 : Int → Rw → Option (Int × Rw)} {N : Nat} (hr : ∀ (e : S) (k : Int), e.sizeS < N → 0 ≤ k → k + 2 * e.sizeS ≤ 4000000000000000000 → rec_ e.rowsS k = some (k + 2 * e.sizeS, (mkS e k).rowsS)) :
    ∀ (t done : S) (n : Nat) (k : Int), t.sizeS ≤ N → t.lenS < n → 0 ≤ k → k + 2 * t.sizeS ≤ 4000000000000000000 → done.lenS + t.lenS ≤ 4000000000000000000 → laws_markSurrealTermS_l0 rec_ K0 n (appS done t).rowsS k done.lenS = K0 (k + 2 * t.sizeS) (appS done (mkS t k)).rowsS
  | _, _, 0, _, _, h, _, _, _ => absurd h (Nat.not_lt_zero _)
  | nil, done, n + 1, k, _, _, _, _, _ => by
    simp only [laws_markSurrealTermS_l0]
    rw [if_neg (by rw [app_nilS, lenSI]; omega)]
    simp [sizeS, mkS]
  | cons e c c₂ l, done, n + 1, k, hs, hn, h0, hk, hl => by
    simp only [sizeS] at hs hk
    simp only [lenS] at hn hl
    have hlen : ((appS done (cons e c c₂ l)).rowsS.length : Int) = done.lenS + l.lenS + 1 := by rw [lenSI, len_appS]; simp only [lenS]; omega
    have hd : ∀ (e' : S) (c' c₂' : Int), dropS (appS done (cons e' c' c₂' l)) done.lenS = cons e' c' c₂' l := fun e' c' c₂' => fr_drop_appS done _
    simp only [laws_markSurrealTermS_l0]
    rw [if_pos (by omega), if_pos (by omega), row_S rfl (hd e c c₂), hr e k (by omega) h0 (by omega), Option.bind_some, Int.toNat_natCast]
    simp only
    rw [set_rowsS, row_S rfl (hd (mkS e k) c c₂), set_rowsS, row_S rfl (hd (mkS e k) (k + 2 * e.sizeS) c₂), set_rowsS, wid (by omega) (by omega), wid (by omega) (by omega), wid (by omega) (by omega)]
    have e1 : appS done (cons (mkS e k) (k + 2 * e.sizeS) (k + 2 * e.sizeS + 1) l) = appS (appS done (cons (mkS e k) (k + 2 * e.sizeS) (k + 2 * e.sizeS + 1) nil)) l := by rw [app_assocS]; rfl
    have e2 : ((done.lenS : Int) + 1) = ((appS done (cons (mkS e k) (k + 2 * e.sizeS) (k + 2 * e.sizeS + 1) nil)).lenS : Int) := by rw [fr_snocLenS]; rfl
    rw [e1, e2, show k + 2 * (e.sizeS : Int) + 1 + 1 = k + 2 * e.sizeS + 2 by omega, markSur_loop hr l _ n (k + 2 * e.sizeS + 2) (by omega) (by omega) (by omega) (by omega) (by rw [fr_snocLenS]; omega), app_assocS]
    have e3 : k + 2 * (e.sizeS : Int) + 2 + 2 * (l.sizeS : Int) = k + 2 * ((cons e c c₂ l).sizeS : Int) := by simp only [sizeS]; omega
    rw [e3]; rfl
theorem markSurS_eq : ∀ (K : Nat) (t : S) (k : Int), t.sizeS + 1 < K → 0 ≤ k → k + 2 * t.sizeS ≤ 4000000000000000000 → laws_markSurrealTermS K t.rowsS k = some (k + 2 * t.sizeS, (mkS t k).rowsS)
  | 0, _, _, h, _, _ => absurd h (Nat.not_lt_zero _)
  | K + 1, nil, k, h, _, _ => by
    obtain ⟨m, rfl⟩ : ∃ m, K = m + 1 := ⟨K - 1, by omega⟩
    simp only [laws_markSurrealTermS, laws_markSurrealTermS_b, laws_markSurrealTermS_2, laws_markSurrealTermS_2_l0]
    simp [rowsS, mkS, sizeS]
  | K + 1, cons e c c₂ l, k, h, h0, hk => by
    have hl := (cons e c c₂ l).len_sizeS
    simp only [laws_markSurrealTermS, laws_markSurrealTermS_b]
    rw [if_neg (by simp [rowsS])]
    have := markSur_loop (rec_ := laws_markSurrealTermS K) (K0 := fun (v30 : Int) (v31 : Rw) => (if v31.length = (cons e c c₂ l).rowsS.length then some (v30, v31) else none)) (N := (cons e c c₂ l).sizeS) (fun e' k' he h0' hk' => markSurS_eq K e' k' (by omega) h0' hk') (cons e c c₂ l) nil K k (Nat.le_refl _) (by omega) h0 hk (by simp only [lenS] at hl ⊢; omega)
    refine this.trans ?_
    show (if (mkS (cons e c c₂ l) k).rowsS.length = (cons e c c₂ l).rowsS.length then _ else _) = _
    rw [if_pos (by rw [rowsS_len, rowsS_len, mkS_len])]
    rfl
theorem heldSur_loop {rec_ : Rw → Int → Option Int} {a : Rw} {K0 : Int → Option Int} {N : Nat} (hr : ∀ (e : S) (k : Int), e.sizeS < N → 0 ≤ k → k + 2 * e.sizeS ≤ 4000000000000000000 → rec_ (mkS e k).rowsS k = some (k + 2 * e.sizeS)) :
    ∀ (t : S) (k : Int), t.sizeS ≤ N → 0 ≤ k → k + 2 * t.sizeS ≤ 4000000000000000000 → laws_heldSurrealTermS_l0 rec_ a K0 (mkS t k).rowsS k = K0 (k + 2 * t.sizeS)
  | nil, k, _, _, _ => by simp [mkS, rowsS, laws_heldSurrealTermS_l0, sizeS]
  | cons e c c₂ l, k, hs, h0, hk => by
    simp only [sizeS] at hs hk
    simp only [mkS, rowsS, laws_heldSurrealTermS_l0, cell_S]
    rw [hr e k (by omega) h0 (by omega), Option.bind_some, if_neg (by omega), if_pos rfl, wid (by omega) (by omega), if_pos rfl, wid (by omega) (by omega), show k + 2 * (e.sizeS : Int) + 1 + 1 = k + 2 * e.sizeS + 2 by omega, heldSur_loop hr l _ (by omega) (by omega) (by omega)]
    congr 1; simp only [sizeS]; omega
theorem heldSurS_eq : ∀ (K : Nat) (t : S) (k : Int), t.sizeS < K → t.sizeS ≤ cap → 0 ≤ k → k + 2 * t.sizeS ≤ 4000000000000000000 → laws_heldSurrealTermS K (mkS t k).rowsS k = some (k + 2 * t.sizeS)
  | 0, _, _, h, _, _, _ => absurd h (Nat.not_lt_zero _)
  | K + 1, t, k, h, hc, h0, hk => by
    have hl := t.len_sizeS
    simp only [laws_heldSurrealTermS, laws_heldSurrealTermS_b]
    rw [if_pos (by rw [rowsS_len, mkS_len]; omega), heldSur_loop (N := t.sizeS) (fun e' k' he h0' hk' => heldSurS_eq K e' k' (by omega) (by omega) h0' hk') t k (Nat.le_refl _) h0 hk]
end Go.Proofs.Try

namespace Go.Proofs.Try
open Go Go.AX
theorem gcd_step (a b : Int) : Int.gcd b (a.tmod b) = Int.gcd a b := by
  show Nat.gcd b.natAbs (a.tmod b).natAbs = Nat.gcd a.natAbs b.natAbs
  rw [Int.natAbs_tmod, Nat.gcd_comm b.natAbs, ← Nat.gcd_rec, Nat.gcd_comm]
theorem halve (a b : Nat) (h : 0 < b) : b % (a % b) ≤ b / 2 ∨ a % b = 0 := by
  by_cases h0 : a % b = 0
  · exact .inr h0
  · left
    have h1 := Nat.mod_lt a h
    by_cases h2 : a % b ≤ b / 2
    · have := Nat.mod_lt b (show 0 < a % b by omega); omega
    · have h3 : b % (a % b) = b - a % b := by
        rw [Nat.mod_eq_sub_mod (by omega), Nat.mod_eq_of_lt (by omega)]
      omega
theorem igcd_loop {K : Int → Option Int} : ∀ (f n : Nat) (a b : Int), b.natAbs < 2 ^ f → 2 * f + 1 ≤ n → ∃ g : Int, impl_gcd_l0 K n a b = K g ∧ g.natAbs = Int.gcd a b
  | f, 0, _, _, _, h => absurd h (by omega)
  | 0, n + 1, a, b, hb, _ => by
    have : b = 0 := by omega
    subst this
    exact ⟨a, by simp only [impl_gcd_l0, if_true], by simp⟩
  | f + 1, n + 1, a, b, hb, hn => by
    obtain ⟨m, rfl⟩ : ∃ m, n = m + 1 := ⟨n - 1, by omega⟩
    simp only [impl_gcd_l0]
    by_cases h0 : b = 0
    · subst h0
      rw [if_pos rfl]
      exact ⟨a, rfl, by simp⟩
    · rw [if_neg h0, if_pos h0]
      by_cases h1 : a.tmod b = 0
      · rw [if_pos h1]
        exact ⟨b, rfl, by rw [← gcd_step, h1]; simp⟩
      · rw [if_neg h1, if_pos h1]
        have hh := halve a.natAbs b.natAbs (by omega)
        have hz : a.natAbs % b.natAbs ≠ 0 := by rw [← Int.natAbs_tmod]; omega
        have e1 : (b.tmod (a.tmod b)).natAbs = b.natAbs % (a.natAbs % b.natAbs) := by rw [Int.natAbs_tmod, Int.natAbs_tmod]
        have hp : 2 ^ (f + 1) = 2 * 2 ^ f := by rw [Nat.pow_succ, Nat.mul_comm]
        obtain ⟨g, e, hg⟩ := igcd_loop f m (a.tmod b) (b.tmod (a.tmod b)) (by rw [e1]; omega) (by omega)
        exact ⟨g, e, by rw [hg, gcd_step, gcd_step]⟩
theorem sgcd_loop {K : Int → Option Int} : ∀ (f n : Nat) (a b : Int), b.natAbs < 2 ^ f → 2 * f + 1 ≤ n → ∃ g : Int, spec_shGcd_l0 K n a b = K g ∧ g.natAbs = Int.gcd a b
  | f, 0, _, _, _, h => absurd h (by omega)
  | 0, n + 1, a, b, hb, _ => by
    have : b = 0 := by omega
    subst this
    exact ⟨a, by simp only [spec_shGcd_l0, if_true], by simp⟩
  | f + 1, n + 1, a, b, hb, hn => by
    obtain ⟨m, rfl⟩ : ∃ m, n = m + 1 := ⟨n - 1, by omega⟩
    simp only [spec_shGcd_l0]
    by_cases h0 : b = 0
    · subst h0
      rw [if_pos rfl]
      exact ⟨a, rfl, by simp⟩
    · rw [if_neg h0, if_pos h0]
      by_cases h1 : a.tmod b = 0
      · rw [if_pos h1]
        exact ⟨b, rfl, by rw [← gcd_step, h1]; simp⟩
      · rw [if_neg h1, if_pos h1]
        have hh := halve a.natAbs b.natAbs (by omega)
        have hz : a.natAbs % b.natAbs ≠ 0 := by rw [← Int.natAbs_tmod]; omega
        have e1 : (b.tmod (a.tmod b)).natAbs = b.natAbs % (a.natAbs % b.natAbs) := by rw [Int.natAbs_tmod, Int.natAbs_tmod]
        have hp : 2 ^ (f + 1) = 2 * 2 ^ f := by rw [Nat.pow_succ, Nat.mul_comm]
        obtain ⟨g, e, hg⟩ := sgcd_loop f m (a.tmod b) (b.tmod (a.tmod b)) (by rw [e1]; omega) (by omega)
        exact ⟨g, e, by rw [hg, gcd_step, gcd_step]⟩
theorem gcd_le (a b : Int) : Int.gcd a b ≤ max a.natAbs b.natAbs := by
  show Nat.gcd a.natAbs b.natAbs ≤ _
  by_cases h : a.natAbs = 0
  · rw [h, Nat.gcd_zero_left]; omega
  · have := Nat.gcd_le_left b.natAbs (show 0 < a.natAbs by omega); omega
theorem lt64 {b : Int} (hb : -4000000000000000000 ≤ b ∧ b ≤ 4000000000000000000) : b.natAbs < 2 ^ 64 := by
  have : (2 : Nat) ^ 64 = 18446744073709551616 := by decide
  omega
theorem dvd_cop {d n g : Int} (h : Int.gcd n d = 1) (hd : d ∣ n * g) : d ∣ g := by
  have h1 : d.natAbs ∣ n.natAbs * g.natAbs := by rw [← Int.natAbs_mul]; exact Int.natAbs_dvd_natAbs.2 hd
  have h2 : Nat.Coprime d.natAbs n.natAbs := by
    show Nat.gcd d.natAbs n.natAbs = 1
    rw [Nat.gcd_comm]; exact h
  exact Int.natAbs_dvd_natAbs.1 (h2.dvd_of_dvd_mul_left h1)
theorem igcd_eq {k : Nat} {a b : Int} (hk : 200 < k) (ha : -4000000000000000000 ≤ a ∧ a ≤ 4000000000000000000) (hb : -4000000000000000000 ≤ b ∧ b ≤ 4000000000000000000) : impl_gcd k a b = some (Int.gcd a b : Int) := by
  unfold impl_gcd
  obtain ⟨g, e, hg⟩ := igcd_loop (K := fun v9 => (impl_size v9).bind fun y14 => some y14) 64 k a b (lt64 hb) (by omega)
  have hl := gcd_le a b
  rw [e]
  unfold impl_size
  rw [Option.bind_some, wid (by omega) (by omega)]
  congr 1
  split <;> omega
theorem sgcd_eq {k : Nat} {a b : Int} (hk : 200 < k) (ha : -4000000000000000000 ≤ a ∧ a ≤ 4000000000000000000) (hb : -4000000000000000000 ≤ b ∧ b ≤ 4000000000000000000) : spec_shGcd k a b = some (Int.gcd a b : Int) := by
  unfold spec_shGcd
  obtain ⟨g, e, hg⟩ := sgcd_loop (K := fun v9 => (spec_l1Abs v9).bind fun y14 => some y14) 64 k a b (lt64 hb) (by omega)
  have hl := gcd_le a b
  rw [e]
  unfold spec_l1Abs spec_l1Most
  rw [wid (by omega) (by omega)]
  split
  · simp only [Option.bind_some]; congr 1; omega
  · simp only [Option.bind_some]; congr 1; omega
/-- A fraction that is right. -/
def frP (n d : Int) : Bool := (decide (1 ≤ d) && decide (d ≤ 1000000)) && ((decide (-1000000 ≤ n) && decide (n ≤ 1000000)) && decide (Int.gcd n d = 1))
theorem iIn_eq (n a b : Int) : impl_in n a b = some (decide (a ≤ n) && decide (n ≤ b)) := by
  unfold impl_in
  by_cases h1 : a ≤ n <;> by_cases h2 : n ≤ b <;> simp [h1, h2]
theorem sIn_eq (n a b : Int) : spec_l1In n a b = some (decide (a ≤ n) && decide (n ≤ b)) := by
  unfold spec_l1In
  by_cases h1 : a ≤ n <;> by_cases h2 : n ≤ b <;> simp [h1, h2]
theorem IsFraction_eq {k : Nat} (hk : 200 < k) (n d : Int) : impl_IsFraction k n d = some (frP n d) := by
  unfold impl_IsFraction frP
  rw [iIn_eq, iIn_eq]
  simp only [Option.bind_some]
  cases h1 : (decide (1 ≤ d) && decide (d ≤ 1000000)) with
  | false => simp
  | true =>
    cases h2 : (decide (-1000000 ≤ n) && decide (n ≤ 1000000)) with
    | false => simp
    | true =>
      simp only [Bool.and_eq_true, decide_eq_true_eq] at h1 h2
      rw [if_pos rfl, if_pos rfl, igcd_eq hk (by omega) (by omega), Option.bind_some]
      by_cases h3 : Int.gcd n d = 1
      · rw [if_pos (by omega), h3]; rfl
      · rw [if_neg (by omega)]; simp [h3]
theorem shGood_eq {k : Nat} (hk : 200 < k) (n d : Int) : spec_shGood k n d = some (frP n d) := by
  unfold spec_shGood frP
  rw [sIn_eq, sIn_eq]
  simp only [Option.bind_some]
  cases h1 : (decide (1 ≤ d) && decide (d ≤ 1000000)) with
  | false => simp
  | true =>
    cases h2 : (decide (-1000000 ≤ n) && decide (n ≤ 1000000)) with
    | false => simp
    | true =>
      simp only [Bool.and_eq_true, decide_eq_true_eq] at h1 h2
      rw [if_pos rfl, if_pos rfl, sgcd_eq hk (by omega) (by omega), Option.bind_some]
      by_cases h3 : Int.gcd n d = 1
      · rw [if_pos (by omega), h3]; rfl
      · rw [if_neg (by omega)]; simp [h3]
theorem frP_in {n d : Int} (h : frP n d = true) : (1 ≤ d ∧ d ≤ 1000000) ∧ (-1000000 ≤ n ∧ n ≤ 1000000) ∧ Int.gcd n d = 1 := by
  simp only [frP, Bool.and_eq_true, decide_eq_true_eq] at h
  exact h
/-! ### their order -/
def cmpF (n d m g : Int) : Int := cmpI (n * g) (m * d)
theorem prod_in {a b B C : Int} (ha : -B ≤ a ∧ a ≤ B) (hb : 0 ≤ b ∧ b ≤ C) : -(B * C) ≤ a * b ∧ a * b ≤ B * C := by
  have hB : 0 ≤ B := by omega
  have h1 : a * b ≤ B * b := Int.mul_le_mul_of_nonneg_right ha.2 hb.1
  have h2 : B * b ≤ B * C := Int.mul_le_mul_of_nonneg_left hb.2 hB
  have h3 : -B * b ≤ a * b := Int.mul_le_mul_of_nonneg_right ha.1 hb.1
  rw [Int.neg_mul] at h3
  omega
theorem cmp_inB {n d m g : Int} (h1 : frP n d = true) (h2 : frP m g = true) : (-1000000000000 ≤ n * g ∧ n * g ≤ 1000000000000) ∧ (-1000000000000 ≤ m * d ∧ m * d ≤ 1000000000000) := by
  obtain ⟨a1, a2, _⟩ := frP_in h1
  obtain ⟨b1, b2, _⟩ := frP_in h2
  have q1 := prod_in (B := 1000000) (C := 1000000) a2 ⟨by omega, b1.2⟩
  have q2 := prod_in (B := 1000000) (C := 1000000) b2 ⟨by omega, a1.2⟩
  omega
theorem icompare_eq (a b : Int) : impl_compare a b = some (cmpI a b) := by unfold impl_compare cmpI; split <;> (try split) <;> rfl
theorem cmpFractions_eq {n d m g : Int} (h1 : frP n d = true) (h2 : frP m g = true) : impl_cmpFractions n d m g = some (cmpF n d m g) := by
  have := cmp_inB h1 h2
  unfold impl_cmpFractions cmpF
  rw [wid (by omega) (by omega), wid (by omega) (by omega), icompare_eq]; rfl
theorem l1Sign_eq (a : Int) : spec_l1Sign a = some (cmpI a 0) := by unfold spec_l1Sign cmpI; split <;> (try split) <;> (try split) <;> first | rfl | (exfalso; omega)
theorem cmpI_sub (a b : Int) : cmpI (a - b) 0 = cmpI a b := by
  unfold cmpI
  by_cases h1 : a < b
  · rw [if_pos (by omega), if_pos h1]
  · rw [if_neg (by omega), if_neg h1]
    by_cases h2 : b < a
    · rw [if_pos (by omega), if_pos h2]
    · rw [if_neg (by omega), if_neg h2]
theorem shCmp_eq {n d m g : Int} (h1 : frP n d = true) (h2 : frP m g = true) : spec_shCmp n d m g = some (cmpF n d m g) := by
  have := cmp_inB h1 h2
  unfold spec_shCmp cmpF
  rw [wid (n := n * g) (by omega) (by omega), wid (n := m * d) (by omega) (by omega), wid (by omega) (by omega), l1Sign_eq, cmpI_sub]; rfl
theorem cmpF_eq {n d m g : Int} (h1 : frP n d = true) (h2 : frP m g = true) : cmpF n d m g = 0 ↔ n = m ∧ d = g := by
  obtain ⟨a1, a2, a3⟩ := frP_in h1
  obtain ⟨b1, b2, b3⟩ := frP_in h2
  unfold cmpF
  rw [cmpI_eq]
  constructor
  · intro h
    have d1 : d ∣ g := by
      have : d ∣ n * g := ⟨m, by rw [h, Int.mul_comm]⟩
      exact dvd_cop a3 this
    have d2 : g ∣ d := by
      have : g ∣ m * d := ⟨n, by rw [← h, Int.mul_comm]⟩
      exact dvd_cop b3 this
    have e1 := Int.le_of_dvd (by omega) d1
    have e2 := Int.le_of_dvd (by omega) d2
    have e : d = g := by omega
    subst e
    exact ⟨Int.eq_of_mul_eq_mul_right (by omega) h, rfl⟩
  · rintro ⟨rfl, rfl⟩; rfl
theorem cmpF_neg (n d m g : Int) : cmpF m g n d = - cmpF n d m g := cmpI_neg _ _
end Go.Proofs.Try

namespace Go.Proofs.Try
open Go Go.AX S
def sg (n : Int) : Int := cmpI n 0
def cmpS : S → S → Int
  | nil, nil => 0
  | nil, cons _ m _ _ => - sg m
  | cons _ n _ _, nil => sg n
  | cons e n d l, cons f m g r => if cmpS e f = 1 then sg n else if cmpS e f = -1 then - sg m else if cmpF n d m g = 0 then cmpS l r else cmpF n d m g
/-- Fractions that are right, and not 0. -/
def gdS : S → Prop
  | nil => True
  | cons e n d l => gdS e ∧ (frP n d = true ∧ n ≠ 0) ∧ gdS l
theorem gd_drop {t : S} (h : gdS t) : ∀ {i : Nat}, gdS (dropS t i) := by
  induction t with
  | nil => intro i; simp [gdS]
  | cons e n d l _ ih => intro i; cases i with
    | zero => simpa using h
    | succ i => exact ih h.2.2
theorem cmpI_range (a b : Int) : cmpI a b = -1 ∨ cmpI a b = 0 ∨ cmpI a b = 1 := by unfold cmpI; split <;> (try split) <;> simp
theorem sg_range (n : Int) : sg n = -1 ∨ sg n = 0 ∨ sg n = 1 := cmpI_range n 0
theorem cmpS_range (a b : S) : cmpS a b = -1 ∨ cmpS a b = 0 ∨ cmpS a b = 1 := by
  induction a generalizing b with
  | nil =>
    cases b with
    | nil => simp [cmpS]
    | cons f m g r => have := sg_range m; simp only [cmpS]; omega
  | cons e n d l ihe ihl =>
    cases b with
    | nil => exact sg_range n
    | cons f m g r =>
      have h1 := sg_range n
      have h2 := sg_range m
      simp only [cmpS]
      split
      · exact h1
      · split
        · omega
        · split
          · exact ihl r
          · exact cmpI_range _ _
theorem cmpS_neg (a b : S) : cmpS b a = - cmpS a b := by
  induction a generalizing b with
  | nil => cases b <;> simp [cmpS]
  | cons e n d l ihe ihl =>
    cases b with
    | nil => simp [cmpS]
    | cons f m g r =>
      simp only [cmpS, ihe f, ihl r, cmpF_neg n d m g]
      have := cmpS_range e f
      split <;> split <;> (try split) <;> (try split) <;> (try split) <;> omega
theorem cmpS_refl (a : S) : cmpS a a = 0 := by have := cmpS_neg a a; omega
theorem sg_nz {n : Int} (h : n ≠ 0) : sg n ≠ 0 := by unfold sg cmpI; split <;> (try split) <;> omega
theorem cmpS_eq : ∀ {a b : S}, gdS a → gdS b → (cmpS a b = 0 ↔ a = b)
  | nil, nil, _, _ => by simp [cmpS]
  | nil, cons f m g r, _, gb => by
    have := sg_nz gb.2.1.2
    simp only [cmpS, reduceCtorEq, iff_false]; omega
  | cons e n d l, nil, ga, _ => by
    have := sg_nz ga.2.1.2
    simp only [cmpS, reduceCtorEq, iff_false]; omega
  | cons e n d l, cons f m g r, ga, gb => by
    have i1 := cmpS_eq ga.1 gb.1
    have i2 := cmpS_eq ga.2.2 gb.2.2
    have i3 := cmpF_eq ga.2.1.1 gb.2.1.1
    have h1 := sg_nz ga.2.1.2
    have h2 := sg_nz gb.2.1.2
    have hr := cmpS_range e f
    simp only [cmpS, S.cons.injEq]
    constructor
    · intro h
      split at h
      · omega
      · split at h
        · omega
        · split at h
          · rename_i q1 q2 q3
            obtain ⟨z1, z2⟩ := i3.1 q3
            exact ⟨i1.1 (by omega), z1, z2, i2.1 h⟩
          · rename_i q; exact absurd h q
    · rintro ⟨z1, z2, z3, z4⟩
      have y1 := i1.2 z1
      rw [if_neg (by omega), if_neg (by omega), if_pos (i3.2 ⟨z2, z3⟩)]
      exact i2.2 z4
theorem cmpF_lt {n d m g : Int} : cmpF n d m g = 1 ↔ m * d < n * g := by
  unfold cmpF cmpI
  split
  · omega
  · split <;> simp <;> omega
theorem cmpF_trans {n d m g u v : Int} (hd : 0 < d) (hg : 0 < g) (hv : 0 < v) (h1 : cmpF n d m g = 1) (h2 : cmpF m g u v = 1) : cmpF n d u v = 1 := by
  rw [cmpF_lt] at *
  have q1 : m * d * v < n * g * v := Int.mul_lt_mul_of_pos_right h1 hv
  have q2 : u * g * d < m * v * d := Int.mul_lt_mul_of_pos_right h2 hd
  have e1 : m * d * v = m * v * d := by rw [Int.mul_assoc, Int.mul_comm d v, ← Int.mul_assoc]
  have e2 : u * g * d = u * d * g := by rw [Int.mul_assoc, Int.mul_comm g d, ← Int.mul_assoc]
  have e3 : n * g * v = n * v * g := by rw [Int.mul_assoc, Int.mul_comm g v, ← Int.mul_assoc]
  have q3 : u * d * g < n * v * g := by omega
  exact Int.lt_of_mul_lt_mul_right q3 (by omega)
theorem sg_one {n : Int} : sg n = 1 ↔ 0 < n := by unfold sg cmpI; split <;> (try split) <;> omega
theorem sg_neg {n : Int} : sg n = -1 ↔ n < 0 := by unfold sg cmpI; split <;> (try split) <;> omega
/-- Signs and fractions. -/
theorem cmpF_sign {n d m g : Int} (hd : 0 < d) (hg : 0 < g) (hn : 0 < n) (hm : m < 0) : cmpF n d m g = 1 := by
  rw [cmpF_lt]
  have := Int.mul_pos hn hg
  have := Int.mul_neg_of_neg_of_pos hm hd
  omega
theorem cmpF_pos {n d m g : Int} (hd : 0 < d) (hg : 0 < g) (h : cmpF n d m g = 1) (hm : 0 < m) : 0 < n := by
  rw [cmpF_lt] at h
  have h1 := Int.mul_pos hm hd
  rcases Int.lt_or_le 0 n with x | x
  · exact x
  · have := Int.mul_nonpos_of_nonpos_of_nonneg x (show 0 ≤ g by omega); omega
theorem cmpF_ng {n d m g : Int} (hd : 0 < d) (hg : 0 < g) (h : cmpF n d m g = 1) (hn : n < 0) : m < 0 := by
  rw [cmpF_lt] at h
  have h1 := Int.mul_neg_of_neg_of_pos hn hg
  rcases Int.lt_or_le m 0 with x | x
  · exact x
  · have := Int.mul_nonneg x (show 0 ≤ d by omega); omega
theorem order_loop {rec_ : Rw → Rw → Option Int} {a b : S} (ga : gdS a) (gb : gdS b) (hc : a.sizeS ≤ cap) (hr : ∀ e f : S, e.sizeS < a.sizeS → gdS e → gdS f → rec_ e.rowsS f.rowsS = some (cmpS e f)) :
    ∀ (t : S) (i n : Nat), dropS a i = t → i ≤ a.lenS → i ≤ b.lenS → t.lenS + 1 ≤ n → impl_order_l0 rec_ a.rowsS b.rowsS (some 0) n i = some (cmpS t (dropS b i))
  | _, _, 0, _, _, _, h => absurd h (by omega)
  | nil, i, n + 1, hd, hi, hj, hn => by
    have h1 := drop_geS hd
    simp only [impl_order_l0]
    rw [if_neg (by rw [lenSI]; omega)]
    cases hb : dropS b i with
    | nil =>
      have h2 := drop_geS hb
      rw [if_neg (by rw [lenSI]; omega)]; rfl
    | cons f m g r =>
      have h2 := drop_ltS hb
      have := sg_range m
      rw [if_pos (by rw [lenSI]; omega), if_pos (by rw [lenSI]; omega), row_S rfl hb, icompare_eq, Option.bind_some, show cmpI m 0 = sg m from rfl, wid (by omega) (by omega)]
      simp only [cmpS]; congr 1; omega
  | cons e x d l, i, n + 1, hd, hi, hj, hn => by
    have h1 := drop_ltS hd
    have hs := drop_cons_sizeS hd
    have hl := a.len_sizeS
    have h3 : cap = 1099511627776 := rfl
    have g1 := gd_drop ga (i := i)
    rw [hd] at g1
    simp only [lenS] at hn
    simp only [impl_order_l0]
    rw [if_pos (by rw [lenSI]; omega), if_neg (by rw [lenSI]; omega)]
    cases hb : dropS b i with
    | nil =>
      have h2 := drop_geS hb
      rw [if_pos (by rw [lenSI]; omega), row_S rfl hd, icompare_eq]; rfl
    | cons f m g r =>
      have h2 := drop_ltS hb
      have g2 := gd_drop gb (i := i)
      rw [hb] at g2
      have := sg_range m
      rw [if_neg (by rw [lenSI]; omega), row_S rfl hd, row_S rfl hb, hr e f (by omega) g1.1 g2.1, Option.bind_some, icompare_eq, icompare_eq, cmpFractions_eq g1.2.1.1 g2.2.1.1]
      simp only [Option.bind_some, cmpS]
      by_cases q1 : cmpS e f = 1
      · rw [if_pos q1, if_pos q1]; rfl
      · rw [if_neg q1, if_neg q1]
        by_cases q2 : cmpS e f = -1
        · rw [if_pos q2, if_pos q2, show cmpI m 0 = sg m from rfl, wid (by omega) (by omega)]; congr 1; omega
        · rw [if_neg q2, if_neg q2]
          by_cases q3 : cmpF x d m g = 0
          · rw [if_pos q3, if_pos q3, wid (by omega) (by omega)]
            have := order_loop ga gb hc hr l (i + 1) n (drop_succS hd) (by omega) (by omega) (by omega)
            rw [drop_succS hb] at this
            exact this
          · rw [if_neg q3, if_neg q3]
theorem order_eq : ∀ (k : Nat) (a b : S), a.sizeS + 1 < k → a.sizeS ≤ cap → gdS a → gdS b → impl_order k a.rowsS b.rowsS = some (cmpS a b)
  | 0, _, _, h, _, _, _ => absurd h (Nat.not_lt_zero _)
  | k + 1, a, b, h, hc, ga, gb => by
    have hl := a.len_sizeS
    simp only [impl_order, impl_order_b, impl_order_p2]
    have := order_loop (rec_ := impl_order k) ga gb hc (fun e f he ge gf => order_eq k e f (by omega) (by omega) ge gf) a 0 k (drop_zeroS a) (by omega) (by omega) (by omega)
    rw [drop_zeroS] at this
    exact this
theorem suCmp_loop {rec_ : Rw → Rw → Option Int} {a b : S} (ga : gdS a) (gb : gdS b) (hc : a.sizeS ≤ cap) (hr : ∀ e f : S, e.sizeS < a.sizeS → gdS e → gdS f → rec_ e.rowsS f.rowsS = some (cmpS e f)) :
    ∀ (t : S) (i : Nat), dropS a i = t → i ≤ a.lenS → i ≤ b.lenS → spec_suCmp_l0 rec_ a.rowsS b.rowsS (spec_suCmp_p2 a.rowsS b.rowsS) t.rowsS i = some (cmpS t (dropS b i))
  | nil, i, hd, hi, hj => by
    have h1 := drop_geS hd
    have hia : a.lenS = i := by omega
    simp only [rowsS, spec_suCmp_l0]
    unfold spec_suCmp_p2 spec_suCmp_p3
    rw [if_pos ⟨by rw [lenSI]; omega, by rw [lenSI, lenSI]; omega, rowsWideS b⟩, lenSI, Int.toNat_natCast, hia, ← rows_dropS]
    cases hb : dropS b i with
    | nil => rfl
    | cons f m g r =>
      have := sg_range m
      unfold spec_suSign
      rw [if_neg (by rw [lenSI]; simp only [lenS]; omega), row_S0, l1Sign_eq]
      simp only [Option.bind_some, cmpS]
      rw [show cmpI m 0 = sg m from rfl, wid (by omega) (by omega)]; congr 1; omega
  | cons e x d l, i, hd, hi, hj => by
    have h1 := drop_ltS hd
    have hs := drop_cons_sizeS hd
    have g1 := gd_drop ga (i := i)
    rw [hd] at g1
    simp only [rowsS, spec_suCmp_l0, cell_S]
    cases hb : dropS b i with
    | nil =>
      have h2 := drop_geS hb
      rw [if_pos (by rw [lenSI]; omega), l1Sign_eq]; rfl
    | cons f m g r =>
      have h2 := drop_ltS hb
      have g2 := gd_drop gb (i := i)
      rw [hb] at g2
      have := sg_range m
      have hrng := cmpS_range e f
      have hF := cmpF_eq g1.2.1.1 g2.2.1.1
      rw [if_neg (by rw [lenSI]; omega), row_S rfl hb, hr e f (by omega) g1.1 g2.1, Option.bind_some, l1Sign_eq, l1Sign_eq, shCmp_eq g1.2.1.1 g2.2.1.1]
      simp only [Option.bind_some, cmpS]
      by_cases q1 : cmpS e f = 1
      · rw [if_pos (by omega), if_pos q1]; rfl
      · rw [if_neg (by omega), if_neg q1]
        by_cases q2 : cmpS e f = -1
        · rw [if_pos (by omega), if_pos q2, show cmpI m 0 = sg m from rfl, wid (by omega) (by omega)]; congr 1; omega
        · rw [if_neg (by omega), if_neg q2]
          by_cases q3 : cmpF x d m g = 0
          · obtain ⟨z1, z2⟩ := hF.1 q3
            rw [if_pos q3, if_neg (by simp [z1, z2])]
            have := suCmp_loop ga gb hc hr l (i + 1) (drop_succS hd) (by omega) (by omega)
            rw [drop_succS hb] at this
            exact this
          · have : ¬ (x = m ∧ d = g) := fun z => q3 (hF.2 z)
            rw [if_neg q3, if_pos (by simp only [Bool.and_true, Bool.not_eq_true', Bool.and_eq_false_iff, decide_eq_false_iff_not]; exact Decidable.not_and_iff_or_not.1 this)]
theorem suCmp_eq : ∀ (k : Nat) (a b : S), a.sizeS < k → a.sizeS ≤ cap → gdS a → gdS b → spec_suCmp k a.rowsS b.rowsS = some (cmpS a b)
  | 0, _, _, h, _, _, _ => absurd h (Nat.not_lt_zero _)
  | k + 1, a, b, h, hc, ga, gb => by
    have hl := a.len_sizeS
    simp only [spec_suCmp, spec_suCmp_b]
    rw [if_pos (by rw [rowsS_len]; omega)]
    have := suCmp_loop (rec_ := spec_suCmp k) ga gb hc (fun e f he ge gf => suCmp_eq k e f (by omega) (by omega) ge gf) a 0 (drop_zeroS a) (by omega) (by omega)
    rw [drop_zeroS] at this
    exact this
end Go.Proofs.Try

namespace Go.Proofs.Try
open Go Go.AX S
theorem two_if {α : Type} {p : Bool} {c : Int} {X F : α} : (if p = true then (if c = 0 then F else X) else F) = if (p && decide (c ≠ 0)) = true then X else F := by
  cases p <;> by_cases h : c = 0 <;> simp [h]
/-! ### what is right -/
def nodesS : S → Nat
  | nil => 0
  | cons e _ _ l => 2 + nodesS e + nodesS l
def dpS : S → Nat
  | nil => 0
  | cons e _ _ l => max (1 + dpS e) (dpS l)
/-- Coefficients in their range, exponents that fall; p: the exponent aheadS. -/
def formS : Option S → S → Bool
  | _, nil => true
  | p, cons e c c₂ l => frP c c₂ && decide (c ≠ 0) && formS none e && (match p with | none => true | some q => decide (0 < cmpS q e)) && formS (some e) l
def surP (t : S) : Bool := decide (1 + nodesS t ≤ 60) && decide (dpS t ≤ 6) && formS none t
theorem nodesS_size (t : S) : nodesS t = 2 * sizeS t := by
  induction t with
  | nil => rfl
  | cons e c c₂ l ihe ihl => simp only [nodesS, sizeS, ihe, ihl]; omega
theorem surP_size {t : S} (h : surP t = true) : sizeS t ≤ 30 := by
  simp only [surP, Bool.and_eq_true, decide_eq_true_eq] at h
  have := nodesS_size t
  omega
theorem sform_gd {p : Option S} {t : S} (h : formS p t = true) : gdS t := by
  induction t generalizing p with
  | nil => trivial
  | cons e c c₂ l ihe ihl =>
    simp only [formS, Bool.and_eq_true] at h
    exact ⟨ihe h.1.1.2, ⟨h.1.1.1.1, by have := h.1.1.1.2; simpa using this⟩, ihl h.2⟩
/-- The exponent of the term aheadS of the i-th. -/
def aheadS (t : S) : Nat → Option S
  | 0 => none
  | i + 1 => match dropS t i with
    | cons e _ _ _ => some e
    | nil => none
theorem aheadS_succ {t : S} {i : Nat} {e : S} {c c₂ : Int} {l : S} (h : dropS t i = cons e c c₂ l) : aheadS t (i + 1) = some e := by simp [aheadS, h]
theorem aheadS_some {t : S} {i : Nat} (h0 : 0 < i) (h : i ≤ t.lenS) : ∃ q c c₂ l, dropS t (i - 1) = cons q c c₂ l ∧ aheadS t i = some q := by
  obtain ⟨j, rfl⟩ : ∃ j, i = j + 1 := ⟨i - 1, by omega⟩
  cases hq : dropS t j with
  | nil => have := drop_geS hq; omega
  | cons q c c₂ l => exact ⟨q, c, c₂, l, hq, aheadS_succ hq⟩
theorem dpS_drop {t : S} : ∀ {i : Nat}, dpS (dropS t i) ≤ dpS t := by
  induction t with
  | nil => intro i; simp
  | cons e c c₂ l _ ih => intro i; cases i with
    | zero => simp
    | succ i => have := ih (i := i); simp only [dropS, dpS]; omega
/-- What a check of a tree tells. -/
def TellsS (r : Bool × Int) (n : Int) (ok : Prop) (m : Int) : Prop := (r.1 = true ↔ ok) ∧ (r.1 = true → r.2 = m) ∧ 0 ≤ r.2 ∧ r.2 ≤ 61 ∧ n ≤ r.2
theorem sat2_loop {k : Nat} {rec_ : Rw → Int → Int → Int → Int → Option (Bool × Int)} {a : S} {d1 d2 deep : Int} (hd : 0 ≤ deep ∧ deep ≤ 6) (hk : a.sizeS + 300 ≤ k) (hc : a.sizeS ≤ cap)
    (hr : ∀ (e : S) (x y n : Int), e.sizeS < a.sizeS → 0 ≤ n → n ≤ 60 → ∃ r, rec_ e.rowsS x y (deep + 1) n = some r ∧ TellsS r n (n + 1 + nodesS e ≤ 60 ∧ deep + 1 + dpS e ≤ 6 ∧ formS none e = true) (n + 1 + nodesS e)) :
    ∀ (t : S) (i : Nat) (m : Int), dropS a i = t → i ≤ a.lenS → (∀ q, aheadS a i = some q → gdS q) → 0 ≤ m → m ≤ 60 → ∃ r, impl_surrealAt_2_l0 k rec_ a.rowsS d1 d2 deep (fun v => impl_surrealAt_2_p3 v) t.rowsS i m = some r ∧ TellsS r m (m + nodesS t ≤ 60 ∧ deep + dpS t ≤ 6 ∧ formS (aheadS a i) t = true) (m + nodesS t)
  | nil, i, m, hdr, hi, _, h0, h60 => by
    refine ⟨(true, m), rfl, ?_⟩
    simp only [TellsS, nodesS, dpS, formS]
    refine ⟨⟨fun _ => ⟨by omega, by omega, trivial⟩, fun _ => trivial⟩, fun _ => by omega, h0, by omega, by omega⟩
  | cons e c c₂ l, i, m, hdr, hi, hcalm, h0, h60 => by
    have hs := drop_cons_sizeS hdr
    simp only [rowsS, impl_surrealAt_2_l0, cell_S]
    rw [wid (n := m + 1) (by omega) (by omega)]
    by_cases h1 : 60 < m + 1
    · rw [if_pos h1]
      refine ⟨_, rfl, ?_⟩
      simp only [TellsS, nodesS]
      refine ⟨⟨fun h => (by cases h), fun h => by omega⟩, fun h => (by cases h), by omega, by omega, by omega⟩
    · rw [if_neg h1, IsFraction_eq (by omega), Option.bind_some, two_if]
      by_cases h2 : (frP c c₂ && decide (c ≠ 0)) = true
      · rw [if_pos h2, wid (n := deep + 1) (by omega) (by omega)]
        obtain ⟨r1, e1, t1, t2, t3, t4, t5⟩ := hr e c c₂ (m + 1) (by omega) (by omega) (by omega)
        rw [e1, Option.bind_some]
        obtain ⟨b1, m1⟩ := r1
        dsimp only at t1 t2 t3 t4 t5 ⊢
        cases b1 with
        | false =>
          rw [if_neg (by simp)]
          refine ⟨_, rfl, ?_⟩
          simp only [TellsS]
          refine ⟨⟨fun h => (by cases h), fun h => ?_⟩, fun h => (by cases h), t3, t4, by omega⟩
          obtain ⟨q1, q2, q3⟩ := h
          simp only [nodesS, dpS, formS, Bool.and_eq_true] at q1 q2 q3
          exact t1.2 ⟨by omega, by omega, q3.1.1.2⟩
        | true =>
          obtain ⟨u1, u2, u3⟩ := t1.1 rfl
          obtain rfl := t2 rfl
          rw [if_pos rfl]
          have go : ∀ (hp : (match aheadS a i with | none => true | some q => decide (0 < cmpS q e)) = true), ∃ r, impl_surrealAt_2_l0 k rec_ a.rowsS d1 d2 deep (fun v => impl_surrealAt_2_p3 v) l.rowsS (i + 1) (m + 1 + 1 + nodesS e) = some r ∧ TellsS r m (m + nodesS (cons e c c₂ l) ≤ 60 ∧ deep + dpS (cons e c c₂ l) ≤ 6 ∧ formS (aheadS a i) (cons e c c₂ l) = true) (m + nodesS (cons e c c₂ l)) := by
            intro hp
            obtain ⟨r, er, s1, s2, s3, s4, s5⟩ := sat2_loop hd hk hc hr l (i + 1) (m + 1 + 1 + nodesS e) (drop_succS hdr) (drop_ltS hdr) (by rw [aheadS_succ hdr]; intro q hq; cases hq; exact sform_gd u3) (by omega) (by omega)
            refine ⟨r, er, ?_⟩
            rw [aheadS_succ hdr] at s1
            simp only [TellsS, nodesS, dpS, formS, Bool.and_eq_true]
            refine ⟨s1.trans ⟨fun q => ⟨by have := q.1; omega, by have := q.2.1; omega, ⟨⟨(by simpa using h2), u3⟩, hp⟩, q.2.2⟩, fun q => ⟨by have := q.1; omega, by have := q.2.1; omega, q.2.2.2⟩⟩, fun q => by rw [s2 q]; omega, s3, s4, by omega⟩
          by_cases h3 : (0 : Int) < (i : Int)
          · obtain ⟨q, qc, qc₂, ql, hq, ha⟩ := aheadS_some (t := a) (i := i) (by omega) hi
            have hqs := drop_cons_sizeS hq
            rw [if_pos h3, wid (n := (i : Int) - 1) (by omega) (by have := a.len_sizeS; have : cap = 1099511627776 := rfl; omega), row_S (n := i - 1) (by omega) hq, order_eq k q e (by omega) (by omega) (hcalm q ha) (sform_gd u3), Option.bind_some]
            by_cases h4 : cmpS q e ≤ 0
            · rw [if_pos h4]
              refine ⟨_, rfl, ?_⟩
              simp only [TellsS]
              refine ⟨⟨fun h => (by cases h), fun h => ?_⟩, fun h => (by cases h), t3, t4, by omega⟩
              obtain ⟨_, _, q3⟩ := h
              simp only [formS, ha, Bool.and_eq_true, decide_eq_true_eq] at q3
              have := q3.1.2
              omega
            · rw [if_neg h4]
              exact go (by rw [ha]; simp; omega)
          · rw [if_neg h3]
            have : i = 0 := by omega
            subst this
            exact go rfl
      · rw [if_neg h2]
        refine ⟨_, rfl, ?_⟩
        simp only [TellsS]
        refine ⟨⟨fun h => (by cases h), fun h => ?_⟩, fun h => (by cases h), by omega, by omega, by omega⟩
        obtain ⟨_, _, q3⟩ := h
        simp only [formS, Bool.and_eq_true] at q3 h2
        exact absurd q3.1.1.1 h2
theorem sat2_eq : ∀ (k : Nat) (a : S) (x y deep n : Int), a.sizeS + 300 < k → a.sizeS ≤ cap → 0 ≤ deep → deep ≤ 7 → 0 ≤ n → n ≤ 60 →
    ∃ r, impl_surrealAt_2 k a.rowsS x y deep n = some r ∧ TellsS r n (n + 1 + nodesS a ≤ 60 ∧ deep + dpS a ≤ 6 ∧ formS none a = true) (n + 1 + nodesS a)
  | 0, _, _, _, _, _, h, _, _, _, _, _ => absurd h (Nat.not_lt_zero _)
  | k + 1, a, x, y, deep, n, h, hc, h0, h7, n0, n60 => by
    have hl := a.len_sizeS
    simp only [impl_surrealAt_2, impl_surrealAt_2_b]
    rw [wid (n := n + 1) (by omega) (by omega)]
    by_cases h1 : 60 < n + 1
    · rw [if_pos h1]
      refine ⟨_, rfl, ?_⟩
      simp only [TellsS]
      exact ⟨⟨fun h => (by cases h), fun h => by omega⟩, fun h => (by cases h), by omega, by omega, by omega⟩
    · rw [if_neg h1]
      by_cases h2 : 6 < deep
      · rw [if_pos h2]
        refine ⟨_, rfl, ?_⟩
        simp only [TellsS]
        exact ⟨⟨fun h => (by cases h), fun h => by omega⟩, fun h => (by cases h), by omega, by omega, by omega⟩
      · rw [if_neg h2, if_pos (by rw [rowsS_len]; omega)]
        obtain ⟨r, e, s1, s2, s3, s4, s5⟩ := sat2_loop (k := k) (rec_ := impl_surrealAt_2 k) (a := a) (d1 := x) (d2 := y) (deep := deep) (by omega) (by omega) hc (fun e y z m he m0 m60 => sat2_eq k e y z (deep + 1) m (by omega) (by omega) (by omega) (by omega) m0 m60) a 0 (n + 1) (drop_zeroS a) (by omega) (by intro q hq; cases hq) (by omega) (by omega)
        exact ⟨r, e, s1, s2, s3, s4, by omega⟩
theorem sat1_loop {k : Nat} {a : S} (hk : a.sizeS + 300 < k) (hc : a.sizeS ≤ cap) :
    ∀ (t : S) (i : Nat) (m : Int), dropS a i = t → i ≤ a.lenS → (∀ q, aheadS a i = some q → gdS q) → 0 ≤ m → m ≤ 60 → ∃ r : Bool × Int, impl_surrealAt_l0 k a.rowsS 0 (fun v => impl_surrealAt_p3 a.rowsS v) t.rowsS i m = some (r.1, a.rowsS, r.2) ∧ (r.1 = true ↔ m + nodesS t ≤ 60 ∧ dpS t ≤ 6 ∧ formS (aheadS a i) t = true) ∧ (r.1 = true → r.2 = m + nodesS t)
  | nil, i, m, hdr, hi, _, h0, h60 => by
    refine ⟨(true, m), rfl, ?_⟩
    simp only [nodesS, dpS, formS]
    exact ⟨⟨fun _ => ⟨by omega, by omega, trivial⟩, fun _ => trivial⟩, fun _ => by omega⟩
  | cons e c c₂ l, i, m, hdr, hi, hcalm, h0, h60 => by
    have hs := drop_cons_sizeS hdr
    simp only [rowsS, impl_surrealAt_l0, cell_S]
    rw [wid (n := m + 1) (by omega) (by omega)]
    by_cases h1 : 60 < m + 1
    · rw [if_pos h1]
      exact ⟨(false, _), rfl, ⟨fun h => (by cases h), fun h => by simp only [nodesS] at h; omega⟩, fun h => (by cases h)⟩
    · rw [if_neg h1, IsFraction_eq (by omega), Option.bind_some, two_if]
      by_cases h2 : (frP c c₂ && decide (c ≠ 0)) = true
      · rw [if_pos h2, wid (n := 0 + 1) (by omega) (by omega)]
        obtain ⟨r1, e1, t1, t2, t3, t4, t5⟩ := sat2_eq k e c c₂ (0 + 1) (m + 1) (by omega) (by omega) (by omega) (by omega) (by omega) (by omega)
        rw [e1, Option.bind_some]
        obtain ⟨b1, m1⟩ := r1
        dsimp only at t1 t2 t3 t4 t5 ⊢
        cases b1 with
        | false =>
          rw [if_neg (by simp)]
          refine ⟨(false, _), rfl, ⟨fun h => (by cases h), fun h => ?_⟩, fun h => (by cases h)⟩
          obtain ⟨q1, q2, q3⟩ := h
          simp only [nodesS, dpS, formS, Bool.and_eq_true] at q1 q2 q3
          exact t1.2 ⟨by omega, by omega, q3.1.1.2⟩
        | true =>
          obtain ⟨u1, u2, u3⟩ := t1.1 rfl
          obtain rfl := t2 rfl
          rw [if_pos rfl]
          have go : ∀ (hp : (match aheadS a i with | none => true | some q => decide (0 < cmpS q e)) = true), ∃ r : Bool × Int, impl_surrealAt_l0 k a.rowsS 0 (fun v => impl_surrealAt_p3 a.rowsS v) l.rowsS (i + 1) (m + 1 + 1 + nodesS e) = some (r.1, a.rowsS, r.2) ∧ (r.1 = true ↔ m + nodesS (cons e c c₂ l) ≤ 60 ∧ dpS (cons e c c₂ l) ≤ 6 ∧ formS (aheadS a i) (cons e c c₂ l) = true) ∧ (r.1 = true → r.2 = m + nodesS (cons e c c₂ l)) := by
            intro hp
            obtain ⟨r, er, s1, s2⟩ := sat1_loop hk hc l (i + 1) (m + 1 + 1 + nodesS e) (drop_succS hdr) (drop_ltS hdr) (by rw [aheadS_succ hdr]; intro q hq; cases hq; exact sform_gd u3) (by omega) (by omega)
            refine ⟨r, er, ?_⟩
            rw [aheadS_succ hdr] at s1
            simp only [nodesS, dpS, formS, Bool.and_eq_true]
            exact ⟨s1.trans ⟨fun q => ⟨by have := q.1; omega, by have := q.2.1; omega, ⟨⟨(by simpa using h2), u3⟩, hp⟩, q.2.2⟩, fun q => ⟨by have := q.1; omega, by have := q.2.1; omega, q.2.2.2⟩⟩, fun q => by rw [s2 q]; omega⟩
          by_cases h3 : (0 : Int) < (i : Int)
          · obtain ⟨q, qc, qc₂, ql, hq, ha⟩ := aheadS_some (t := a) (i := i) (by omega) hi
            have hqs := drop_cons_sizeS hq
            rw [if_pos h3, wid (n := (i : Int) - 1) (by omega) (by have := a.len_sizeS; have : cap = 1099511627776 := rfl; omega), row_S (n := i - 1) (by omega) hq, order_eq k q e (by omega) (by omega) (hcalm q ha) (sform_gd u3), Option.bind_some]
            by_cases h4 : cmpS q e ≤ 0
            · rw [if_pos h4]
              refine ⟨(false, _), rfl, ⟨fun h => (by cases h), fun h => ?_⟩, fun h => (by cases h)⟩
              obtain ⟨_, _, q3⟩ := h
              simp only [formS, ha, Bool.and_eq_true, decide_eq_true_eq] at q3
              have := q3.1.2
              omega
            · rw [if_neg h4]
              exact go (by rw [ha]; simp; omega)
          · rw [if_neg h3]
            have : i = 0 := by omega
            subst this
            exact go rfl
      · rw [if_neg h2]
        refine ⟨(false, _), rfl, ⟨fun h => (by cases h), fun h => ?_⟩, fun h => (by cases h)⟩
        obtain ⟨_, _, q3⟩ := h
        simp only [formS, Bool.and_eq_true] at q3 h2
        exact absurd q3.1.1.1 h2
theorem sat1_eq (k : Nat) (a : S) (hk : a.sizeS + 300 < k) (hc : a.sizeS ≤ cap) : ∃ r : Bool × Int, impl_surrealAt k a.rowsS 0 0 = some (r.1, a.rowsS, r.2) ∧ (r.1 = true ↔ surP a = true) ∧ (r.1 = true → r.2 = 1 + nodesS a) := by
  have hl := a.len_sizeS
  unfold impl_surrealAt
  rw [wid (n := 0 + 1) (by omega) (by omega), if_neg (by omega), if_neg (by omega), if_pos (by rw [rowsS_len]; omega)]
  obtain ⟨r, e, s, v⟩ := sat1_loop hk hc a 0 (0 + 1) (drop_zeroS a) (by omega) (by intro q hq; cases hq) (by omega) (by omega)
  refine ⟨r, e, s.trans ?_, fun q => by rw [v q]; omega⟩
  simp only [surP, Bool.and_eq_true, decide_eq_true_eq, aheadS]
  exact ⟨fun q => ⟨⟨by have := q.1; omega, q.2.1⟩, q.2.2⟩, fun q => ⟨by have := q.1.1; omega, q.1.2, q.2⟩⟩
theorem IsSurreal_eq (k : Nat) (a : S) (hk : a.sizeS + 300 < k) (hc : a.sizeS ≤ cap) : impl_IsSurreal k a.rowsS = some (surP a) := by
  obtain ⟨r, e, s, _⟩ := sat1_eq k a hk hc
  unfold impl_IsSurreal
  rw [e, Option.bind_some]
  cases hb : surP a with
  | true => rw [if_pos (s.2 hb)]
  | false => rw [if_neg (fun q => by rw [s.1 q] at hb; cases hb)]
theorem sclone_loop {rec_ : Rw → Option Rw} {a : S} {K : Rw → Option Rw} (hr : ∀ e : S, e.sizeS < a.sizeS → rec_ e.rowsS = some e.rowsS) : ∀ (t : S) (acc : Rw), t.sizeS ≤ a.sizeS → acc.length + t.lenS ≤ cap → impl_cloneSurreal_l0 rec_ a.rowsS K t.rowsS acc = K (acc ++ t.rowsS)
  | nil, acc, _, _ => by simp [rowsS, impl_cloneSurreal_l0]
  | cons e c c₂ l, acc, hs, hl => by
    simp only [sizeS, lenS] at hs hl
    simp only [rowsS, impl_cloneSurreal_l0, cell_S, hr e (by omega), Option.bind_some]
    rw [if_pos (by omega), sclone_loop hr l _ (by omega) (by simp; omega)]
    simp
theorem sclone_eq : ∀ (k : Nat) (a : S), a.sizeS < k → a.sizeS ≤ cap → impl_cloneSurreal k a.rowsS = some a.rowsS
  | 0, _, h, _ => absurd h (Nat.not_lt_zero _)
  | k + 1, a, h, hc => by
    have hl := a.len_sizeS
    simp only [impl_cloneSurreal, impl_cloneSurreal_b]
    rw [if_pos (by rw [rowsS_len]; omega), sclone_loop (fun e he => sclone_eq k e (by omega) (by omega)) a [] (Nat.le_refl _) (by simp; omega)]
    simp
def toldST (t : S) : S × Bool := if surP t then (t, true) else (nil, false)
theorem sown_loop {rec_ : Rw → Option Rw} {a : S} {K : Rw → Option Rw} (hr : ∀ e : S, e.sizeS < a.sizeS → rec_ e.rowsS = some e.rowsS) : ∀ (t : S) (acc : Rw), t.sizeS ≤ a.sizeS → acc.length + t.lenS ≤ cap → spec_suOwn_l0 rec_ a.rowsS K t.rowsS acc = K (acc ++ t.rowsS)
  | nil, acc, _, _ => by simp [rowsS, spec_suOwn_l0]
  | cons e c c₂ l, acc, hs, hl => by
    simp only [sizeS, lenS] at hs hl
    simp only [rowsS, spec_suOwn_l0, cell_S, hr e (by omega), Option.bind_some]
    rw [if_pos (by omega), sown_loop hr l _ (by omega) (by simp; omega)]
    simp
theorem sown_eq : ∀ (k : Nat) (a : S), a.sizeS < k → a.sizeS ≤ cap → spec_suOwn k a.rowsS = some a.rowsS
  | 0, _, h, _ => absurd h (Nat.not_lt_zero _)
  | k + 1, a, h, hc => by
    have hl := a.len_sizeS
    simp only [spec_suOwn, spec_suOwn_b]
    rw [if_pos (by rw [rowsS_len]; omega), sown_loop (fun e he => sown_eq k e (by omega) (by omega)) a [] (Nat.le_refl _) (by simp; omega)]
    simp
/-! ### spec's check -/
theorem sleft_loop {rec_ : Rw → Int → Int → Option Int} {a : S} {depth : Int} (hd : 0 ≤ depth ∧ depth ≤ 6) (hr : ∀ (e : S) (v : Int), e.sizeS < a.sizeS → 0 < depth → -1 ≤ v → v ≤ 60 → ∃ r, rec_ e.rowsS (depth - 1) v = some r ∧ -2 ≤ r ∧ r ≤ 60 ∧ (1 + nodesS e ≤ v ∧ dpS e ≤ depth - 1 → r = v - 1 - nodesS e) ∧ (¬ (1 + nodesS e ≤ v ∧ dpS e ≤ depth - 1) → r < 0)) :
    ∀ (t : S) (v : Int), t.sizeS ≤ a.sizeS → -2 ≤ v → v ≤ 60 → ∃ r, spec_suLeft_l0 rec_ a.rowsS depth (fun v => some v) t.rowsS v = some r ∧ -2 ≤ r ∧ r ≤ 60 ∧ (nodesS t ≤ v ∧ dpS t ≤ depth → r = v - nodesS t) ∧ (¬ (nodesS t ≤ v ∧ dpS t ≤ depth) → r < 0)
  | nil, v, _, v0, v60 => ⟨v, rfl, v0, v60, fun _ => by simp [nodesS], fun h => by simp only [nodesS, dpS] at h; omega⟩
  | cons e c c₂ l, v, hs, v0, v60 => by
    simp only [sizeS] at hs
    simp only [rowsS, spec_suLeft_l0, cell_S]
    by_cases h1 : v < 0
    · rw [if_pos h1]
      exact ⟨-1, rfl, by omega, by omega, fun h => by simp only [nodesS] at h; omega, fun _ => by omega⟩
    · rw [if_neg h1]
      by_cases h2 : depth = 0
      · rw [if_pos h2]
        exact ⟨-1, rfl, by omega, by omega, fun h => by simp only [dpS] at h; omega, fun _ => by omega⟩
      · rw [if_neg h2, wid (n := depth - 1) (by omega) (by omega), wid (n := v - 1) (by omega) (by omega)]
        obtain ⟨r1, e1, p1, p2, p3, p4⟩ := hr e (v - 1) (by omega) (by omega) (by omega) (by omega)
        rw [e1, Option.bind_some]
        obtain ⟨r, er, q1, q2, q3, q4⟩ := sleft_loop hd hr l r1 (by omega) p1 p2
        refine ⟨r, er, q1, q2, fun h => ?_, fun h => ?_⟩
        · simp only [nodesS, dpS] at h ⊢
          have e2 := p3 ⟨by omega, by omega⟩
          rw [q3 ⟨by omega, by omega⟩, e2]; omega
        · by_cases h3 : 1 + (nodesS e : Int) ≤ v - 1 ∧ dpS e ≤ depth - 1
          · have e2 := p3 h3
            refine q4 fun q => h ?_
            simp only [nodesS, dpS]
            omega
          · exact q4 fun q => by have := p4 h3; omega
theorem sleft_eq : ∀ (k : Nat) (a : S) (depth v : Int), a.sizeS < k → a.sizeS ≤ cap → 0 ≤ depth → depth ≤ 6 → -1 ≤ v → v ≤ 60 →
    ∃ r, spec_suLeft k a.rowsS depth v = some r ∧ -2 ≤ r ∧ r ≤ 60 ∧ (1 + nodesS a ≤ v ∧ dpS a ≤ depth → r = v - 1 - nodesS a) ∧ (¬ (1 + nodesS a ≤ v ∧ dpS a ≤ depth) → r < 0)
  | 0, _, _, _, h, _, _, _, _, _ => absurd h (Nat.not_lt_zero _)
  | k + 1, a, depth, v, h, hc, d0, d6, v0, v60 => by
    have hl := a.len_sizeS
    simp only [spec_suLeft, spec_suLeft_b]
    rw [if_pos (by rw [rowsS_len]; omega), wid (n := v - 1) (by omega) (by omega)]
    obtain ⟨r, er, q1, q2, q3, q4⟩ := sleft_loop (rec_ := spec_suLeft k) (a := a) (depth := depth) ⟨d0, d6⟩ (fun e u he hd u0 u60 => sleft_eq k e (depth - 1) u (by omega) (by omega) (by omega) (by omega) u0 u60) a (v - 1) (Nat.le_refl _) (by omega) (by omega)
    exact ⟨r, er, q1, q2, fun q => q3 ⟨by omega, q.2⟩, fun q => q4 fun u => q ⟨by omega, u.2⟩⟩
theorem sform_loop_all {k : Nat} {rec_ : Rw → Int → Option Bool} {a : S} {depth : Int} (hd : 0 ≤ depth ∧ depth ≤ 6) (hk : a.sizeS + 300 ≤ k) (hc : a.sizeS ≤ cap)
    (hr : ∀ e : S, e.sizeS < a.sizeS → rec_ e.rowsS (depth - 1) = some (decide ((dpS e : Int) ≤ depth - 1) && formS none e)) :
    ∀ (t : S) (i : Nat), dropS a i = t → i ≤ a.lenS → (∀ q, aheadS a i = some q → gdS q) → spec_suForm_l0 k rec_ a.rowsS depth spec_suForm_p3 t.rowsS i = some (decide ((dpS t : Int) ≤ depth) && formS (aheadS a i) t)
  | nil, i, hdr, hi, _ => by
    have : decide ((dpS nil : Int) ≤ depth) = true := decide_eq_true (by simp only [dpS]; omega)
    rw [this]; rfl
  | cons e c c₂ l, i, hdr, hi, hgdS => by
    have hs := drop_cons_sizeS hdr
    simp only [rowsS, spec_suForm_l0, cell_S, shGood_eq (show 200 < k by omega), Option.bind_some, two_if]
    by_cases h2 : (frP c c₂ && decide (c ≠ 0)) = true
    · rw [if_pos h2, wid (n := depth - 1) (by omega) (by omega), hr e (by omega), Option.bind_some]
      by_cases h3 : (decide ((dpS e : Int) ≤ depth - 1) && formS none e) = true
      · rw [if_pos h3]
        simp only [Bool.and_eq_true, decide_eq_true_eq] at h3
        have hce := sform_gd h3.2
        have go : ∀ (hp : (match aheadS a i with | none => true | some q => decide (0 < cmpS q e)) = true), spec_suForm_l0 k rec_ a.rowsS depth spec_suForm_p3 l.rowsS (i + 1) = some (decide ((dpS (cons e c c₂ l) : Int) ≤ depth) && formS (aheadS a i) (cons e c c₂ l)) := by
          intro hp
          rw [sform_loop_all hd hk hc hr l (i + 1) (drop_succS hdr) (drop_ltS hdr) (by rw [aheadS_succ hdr]; intro q hq; cases hq; exact hce), aheadS_succ hdr]
          have e1 : decide ((dpS (cons e c c₂ l) : Int) ≤ depth) = decide ((dpS l : Int) ≤ depth) := by simp only [dpS]; congr 1; apply propext; omega
          have h6 : formS (aheadS a i) (cons e c c₂ l) = formS (some e) l := by
            simp only [formS, h2, h3.2, Bool.true_and]
            cases hq : aheadS a i with
            | none => simp
            | some q => rw [hq] at hp; simp only at hp; simp [hp]
          rw [e1, h6]
        by_cases h4 : (0 : Int) < (i : Int)
        · obtain ⟨q, qc, qc₂, ql, hq, ha'⟩ := aheadS_some (t := a) (i := i) (by omega) hi
          have hqs := drop_cons_sizeS hq
          have hcq := hgdS q ha'
          rw [if_pos h4, wid (n := (i : Int) - 1) (by omega) (by have := a.len_sizeS; have : cap = 1099511627776 := rfl; omega), row_S (n := i - 1) (by omega) hq, suCmp_eq k q e (by omega) (by omega) hcq hce, Option.bind_some]
          by_cases h5 : cmpS q e ≤ 0
          · rw [if_pos h5]
            have : decide (0 < cmpS q e) = false := by simpa using h5
            simp [formS, ha', this]
          · rw [if_neg h5]
            exact go (by rw [ha']; simp; omega)
        · rw [if_neg h4]
          have : i = 0 := by omega
          subst this
          exact go rfl
      · rw [if_neg h3]
        have : (decide ((dpS (cons e c c₂ l) : Int) ≤ depth) && formS (aheadS a i) (cons e c c₂ l)) = false := by
          refine Bool.eq_false_iff.2 fun hx => h3 ?_
          rw [Bool.and_eq_true, decide_eq_true_eq] at hx ⊢
          obtain ⟨x1, x2⟩ := hx
          simp only [dpS] at x1
          simp only [formS, Bool.and_eq_true] at x2
          exact ⟨by omega, x2.1.1.2⟩
        rw [this]
    · rw [if_neg h2]
      have : formS (aheadS a i) (cons e c c₂ l) = false := by
        simp only [formS]
        cases hx : (frP c c₂ && decide (c ≠ 0)) with
        | true => exact absurd hx h2
        | false => simp
      rw [this, Bool.and_false]
theorem sform_all : ∀ (k : Nat) (a : S) (depth : Int), a.sizeS + 300 < k → a.sizeS ≤ cap → -1 ≤ depth → depth ≤ 6 → spec_suForm k a.rowsS depth = some (decide ((dpS a : Int) ≤ depth) && formS none a)
  | 0, _, _, h, _, _, _ => absurd h (Nat.not_lt_zero _)
  | k + 1, a, depth, h, hc, d0, d6 => by
    have hl := a.len_sizeS
    simp only [spec_suForm, spec_suForm_b]
    by_cases h1 : depth < 0
    · rw [if_pos h1]
      have : decide ((dpS a : Int) ≤ depth) = false := by simp; omega
      rw [this, Bool.false_and]
    · rw [if_neg h1, if_pos (by rw [rowsS_len]; omega), sform_loop_all (a := a) (by omega) (by omega) hc (fun e he => sform_all k e (depth - 1) (by omega) (by omega) (by omega) (by omega)) a 0 (drop_zeroS a) (by omega) (by intro q hq; cases hq)]
      rfl
theorem suGood_all (k : Nat) (a : S) (h : a.sizeS + 300 < k) (hc : a.sizeS ≤ cap) : spec_suGood k a.rowsS = some (surP a) := by
  unfold spec_suGood
  obtain ⟨r, er, q1, q2, q3, q4⟩ := sleft_eq k a 6 60 (by omega) hc (by omega) (by omega) (by omega) (by omega)
  rw [er, Option.bind_some]
  by_cases h1 : 1 + nodesS a ≤ 60 ∧ dpS a ≤ 6
  · have := q3 ⟨by omega, by omega⟩
    rw [if_pos (by omega), sform_all k a 6 h hc (by omega) (by omega), Option.bind_some]
    have h2 : decide ((dpS a : Int) ≤ 6) = true := by simp; omega
    simp only [surP, h2, h1.1, h1.2, decide_true, Bool.true_and]
    cases formS none a <;> rfl
  · have := q4 (by omega)
    rw [if_neg (by omega)]
    have : surP a = false := by
      cases hx : surP a with
      | false => rfl
      | true => simp only [surP, Bool.and_eq_true, decide_eq_true_eq] at hx; exact absurd hx.1 h1
    rw [this]
end Go.Proofs.Try

namespace Go.Proofs.Try
open Go Go.AX
abbrev L8 := List UInt8
def bA (l : L8) : ByteArray := ⟨l.toArray⟩
theorem bA_data (l : L8) : (bA l).data.toList = l := by simp [bA]
theorem bA_size (l : L8) : (bA l).size = l.length := by rw [Lib.size_eq, bA_data]
theorem bA_toList (l : L8) : (bA l).toList = l := by rw [ByteArray.toList_eq, bA_data]
theorem bA_inj {a b : ByteArray} (h : a.data.toList = b.data.toList) : a = b := by
  cases a; cases b; simp only [ByteArray.mk.injEq]; exact Array.toList_inj.1 h
theorem bA_app (a b : L8) : bA a ++ bA b = bA (a ++ b) := by
  apply bA_inj
  rw [ByteArray.data_append, Array.toList_append, bA_data, bA_data, bA_data]
theorem bA_nil : ByteArray.mk #[] = bA [] := rfl
theorem bA_43 : ByteArray.mk #[43] = bA [43] := rfl
theorem bA_42 : ByteArray.mk #[42] = bA [42] := rfl
theorem bA_41 : ByteArray.mk #[41] = bA [41] := rfl
theorem bA_45 : ByteArray.mk #[45] = bA [45] := rfl
theorem bA_47 : ByteArray.mk #[47] = bA [47] := rfl
theorem bA_48 : ByteArray.mk #[48] = bA [48] := rfl
theorem bA_94 : ByteArray.mk #[94, 40] = bA [94, 40] := rfl
theorem bA_119 : ByteArray.mk #[119] = bA [119] := rfl
theorem u8_lt {n : Int} (h0 : 0 ≤ n) (h1 : n ≤ 255) : IntKind.u8.wrap n = n := by
  simp only [IntKind.wrap, IntKind.bits, IntKind.signed]
  simp
  omega
theorem strD_one {n : Int} (h0 : 0 ≤ n) (h1 : n ≤ 9) : strD [[.int .u8 (IntKind.u8.wrap (IntKind.i64.wrap (48 + n)))]] = some (bA [UInt8.ofNat (48 + n.toNat)]) := by
  rw [wrap_in (by omega) (by omega), u8_lt (by omega) (by omega)]
  have : (48 + n).toNat = 48 + n.toNat := by omega
  simp only [strD, strN, Option.map_some, List.foldl_cons, List.foldl_nil, this]
  rfl
theorem dec_len {u : Nat} (hu : u ≤ 1000000000000000) : (Lib.decDigits u).length ≤ 21 := by
  have := Lib.itoa_length_le (u : Int) (by omega) (by omega)
  unfold Lib.itoa at this
  rwa [if_neg (by omega), show ((u : Int)).toNat = u by omega] at this
theorem dec_ne (u : Nat) : Lib.decDigits u ≠ [] := by
  rw [Lib.decDigits]
  split <;> simp
end Go.Proofs.Try

namespace Go.Proofs.Try
open Go Go.AX S
abbrev Bk := List (ByteArray × S)
def rowsB (b : Bk) : Rw := b.map fun e => [D.str e.1, D.sl e.2.rowsS]
def sizeB : Bk → Nat
  | [] => 0
  | e :: l => e.1.size + e.2.sizeS + 1 + sizeB l
def fitB (b : Bk) : Prop := ∀ e ∈ b, fitS e.2 ∧ (e.2.lenS : Int) ≤ 9223372036854775807 ∧ e.1.size ≤ 9223372036854775807
theorem rowsB_len (b : Bk) : (rowsB b).length = b.length := by simp [rowsB]
theorem lenB_size : ∀ b : Bk, b.length ≤ sizeB b
  | [] => by simp [sizeB]
  | e :: l => by have := lenB_size l; simp only [List.length_cons, sizeB]; omega
@[simp] theorem cell_B {α : Type} (n : ByteArray) (x : Rw) (K : ByteArray → Rw → Option α) : cell_ts [.str n, .sl x] K = K n x := rfl
theorem row_B {α : Type} {b : Bk} {i : Int} {j : Nat} (hi : i = j) {e : ByteArray × S} (h : b[j]? = some e) (K : ByteArray → Rw → Option α) : row_ts (rowsB b) i K = K e.1 e.2.rowsS := by
  subst hi
  unfold row_ts
  rw [if_pos (by omega), Int.toNat_natCast]
  simp only [rowsB, List.getElem?_map, h, Option.map_some]
  rfl
/-! ### sizes -/
theorem szB_loop {k : Nat} {a : Rw} {K : Int → Option Int} : ∀ (b : Bk) (v : Int), fitB b → sizeB b ≤ k → 0 ≤ v → v ≤ 1048576 →
    (laws_szEntryS_l0 k a K (rowsB b) v = some (-1)) ∨ ∃ r : Int, laws_szEntryS_l0 k a K (rowsB b) v = K r ∧ 0 ≤ r ∧ r + sizeB b ≤ v + b.length
  | [], v, _, _, h0, _ => .inr ⟨v, rfl, h0, by simp [sizeB]⟩
  | e :: l, v, hf, hk, h0, h1 => by
    simp only [sizeB] at hk
    obtain ⟨g1, g2, g3⟩ := hf e (by simp)
    simp only [rowsB, List.map_cons, laws_szEntryS_l0, cell_B, laws_szEntry]
    rw [wrap_in (by omega) (by omega)]
    by_cases hn : v - (e.1.size : Int) < 0
    · rw [if_pos hn, Option.bind_some, if_pos (by decide)]
      exact .inl rfl
    · rw [if_neg hn]
      obtain ⟨r, er, u1, u2, u3⟩ := szSur_eq k e.2 (v - e.1.size) (by omega) g1 g2 (by omega) (by omega)
      rw [er, Option.bind_some]
      by_cases hr : r < 0
      · rw [if_pos hr, Option.bind_some, if_pos (by decide)]
        exact .inl rfl
      · rw [if_neg hr, Option.bind_some, if_neg hr]
        have q := u3 (by omega)
        rcases szB_loop (k := k) (a := a) (K := K) l r (fun x hx => hf x (by simp [hx])) (by omega) (by omega) (by omega) with h | ⟨r2, e2, p1, p2⟩
        · exact .inl h
        · refine .inr ⟨r2, e2, p1, ?_⟩
          simp only [sizeB, List.length_cons]
          omega
theorem szB_eq (k : Nat) (b : Bk) (v : Int) (hf : fitB b) (hl : (b.length : Int) ≤ 9223372036854775807) (hk : sizeB b ≤ k) (h0 : 0 ≤ v) (h1 : v ≤ 1048576) : ∃ r : Int, laws_szNotebook k (rowsB b) v = some r ∧ r ≤ v ∧ -1 ≤ r ∧ (0 ≤ r → r + sizeB b ≤ v) := by
  have h3 : cap = 1099511627776 := rfl
  have hls := lenB_size b
  unfold laws_szNotebook laws_szEntryS
  rw [rowsB_len, wrap_in (by omega) (by omega)]
  by_cases hn : v - (b.length : Int) < 0
  · rw [if_pos hn, Option.bind_some, if_pos (by decide)]
    exact ⟨-1, rfl, by omega, by omega, by omega⟩
  · rw [if_neg hn, if_pos (by omega)]
    rcases szB_loop (k := k) (a := rowsB b) (K := fun v22 => some v22) b (v - b.length) hf hk (by omega) (by omega) with h | ⟨r, e, p1, p2⟩
    · rw [h, Option.bind_some, if_pos (by decide)]
      exact ⟨-1, rfl, by omega, by omega, by omega⟩
    · rw [e, Option.bind_some, if_neg (by omega)]
      exact ⟨r, rfl, by omega, by omega, by omega⟩
/-! ### copies -/
theorem toB_loop {k : Nat} {a : Rw} {K : Rw → Option Rw} : ∀ (b done : Bk), (∀ e ∈ b, e.2.sizeS < k ∧ e.2.sizeS ≤ cap) →
    laws_toEntryS_l0 k a K (rowsB b) done.length (rowsB done ++ List.replicate b.length [D.str ByteArray.empty, D.sl ([])]) = K (rowsB (done ++ b))
  | [], done, _ => by simp [rowsB, laws_toEntryS_l0]
  | e :: l, done, h => by
    obtain ⟨h1, h2⟩ := h e (by simp)
    have hd : (rowsB done).length = done.length := rowsB_len done
    simp only [rowsB, List.map_cons, laws_toEntryS_l0, cell_B, laws_toEntry, toSur_eq k e.2 h1 h2, Option.bind_some, List.length_cons]
    have hlen : (rowsB done ++ List.replicate (l.length + 1) [D.str ByteArray.empty, D.sl ([])]).length = done.length + (l.length + 1) := by rw [List.length_append, hd, List.length_replicate]
    have hrow : ∀ {α : Type} (K : ByteArray → Rw → Option α), row_ts (rowsB done ++ List.replicate (l.length + 1) [D.str ByteArray.empty, D.sl ([])]) (done.length : Int) K = K ByteArray.empty [] := by
      intro α K
      unfold row_ts
      rw [if_pos (by omega), Int.toNat_natCast, List.getElem?_append_right (by rw [hd]; omega), hd, Nat.sub_self, List.replicate_succ]
      rfl
    have hset : (rowsB done ++ List.replicate (l.length + 1) [D.str ByteArray.empty, D.sl ([])]).set (done.length : Int).toNat [D.str e.1, D.sl e.2.rowsS] = rowsB (done ++ [e]) ++ List.replicate l.length [D.str ByteArray.empty, D.sl ([])] := by
      rw [Int.toNat_natCast, List.set_append_right (h := by rw [hd]; omega), hd, Nat.sub_self, List.replicate_succ]
      simp [rowsB]
    have ih := toB_loop (k := k) (a := a) (K := K) l (done ++ [e]) (fun x hx => h x (by simp [hx]))
    rw [List.length_append, List.length_singleton, List.append_assoc, List.singleton_append] at ih
    show (if 0 ≤ (done.length : Int) ∧ (done.length : Int) < ((rowsB done ++ List.replicate (l.length + 1) [D.str ByteArray.empty, D.sl ([])]).length : Int) then _ else none) = _
    rw [if_pos ⟨by omega, by rw [hlen]; omega⟩]
    show row_ts (rowsB done ++ List.replicate (l.length + 1) [D.str ByteArray.empty, D.sl ([])]) (done.length : Int) _ = _
    rw [hrow]
    show laws_toEntryS_l0 k a K (rowsB l) (done.length + 1) ((rowsB done ++ List.replicate (l.length + 1) [D.str ByteArray.empty, D.sl ([])]).set (done.length : Int).toNat [D.str e.1, D.sl e.2.rowsS]) = _
    rw [hset, ih]
    rfl
theorem memB_size : ∀ {b : Bk} {e : ByteArray × S}, e ∈ b → e.1.size + e.2.sizeS + 1 ≤ sizeB b
  | x :: l, e, h => by
    simp only [sizeB]
    rcases List.mem_cons.1 h with rfl | h
    · omega
    · have := memB_size h; omega
theorem toB_eq (k : Nat) (b : Bk) (h : sizeB b < k) (hc : sizeB b ≤ cap) : laws_toNotebook k (rowsB b) = some (rowsB b) := by
  have h3 : cap = 1099511627776 := rfl
  have hl := lenB_size b
  unfold laws_toNotebook laws_toEntryS
  rw [rowsB_len, if_pos ⟨by omega, by omega⟩, if_pos (by omega), Int.toNat_natCast]
  have := toB_loop (k := k) (a := rowsB b) (K := fun v29 => some v29) b [] (fun e he => by have := memB_size he; omega)
  simp only [rowsB, List.map_nil, List.nil_append, List.length_nil] at this ⊢
  rw [this]
  rfl
/-! ### comparing -/
theorem eqB_loop {k : Nat} {b : Bk} : ∀ (l : Bk) (i : Nat), b.drop i = l → (∀ e ∈ l, e.2.sizeS < k ∧ e.2.sizeS ≤ cap) → laws_eqEntryS_l0 k (rowsB b) (rowsB b) (some true) (rowsB l) i = some true
  | [], i, _, _ => rfl
  | e :: l, i, hd, h => by
    obtain ⟨h1, h2⟩ := h e (by simp)
    have hg : b[i]? = some e := by
      have := congrArg (·[0]?) hd
      simpa [List.getElem?_drop] using this
    have hd2 : b.drop (i + 1) = l := by rw [← List.drop_drop, hd]; rfl
    simp only [rowsB, List.map_cons, laws_eqEntryS_l0, cell_B]
    refine (row_B (b := b) (i := (i : Int)) rfl hg _).trans ?_
    have he : laws_eqEntry k e.1 e.2.rowsS e.1 e.2.rowsS = some true := by
      unfold laws_eqEntry
      rw [if_neg (by simp), eqSur_refl k e.2 h1 h2, Option.bind_some, if_pos rfl]
    rw [he, Option.bind_some, if_pos rfl]
    exact eqB_loop l (i + 1) hd2 (fun x hx => h x (by simp [hx]))
theorem eqB_refl (k : Nat) (b : Bk) (h : sizeB b < k) (hc : sizeB b ≤ cap) : laws_eqNotebook k (rowsB b) (rowsB b) = some true := by
  have h3 : cap = 1099511627776 := rfl
  have hl := lenB_size b
  unfold laws_eqNotebook laws_eqEntryS
  rw [if_pos rfl, if_pos (by rw [rowsB_len]; omega), eqB_loop (b := b) b 0 rfl (fun e he => by have := memB_size he; omega)]
  rfl
end Go.Proofs.Try

namespace Go.Proofs.Try
open Go Go.AX S
/-! ### marks -/
theorem markText_loop {K : ByteArray → Option ByteArray} (hK : ∀ l : L8, l.length ≤ 1000000000 → ∃ t, K (bA l) = some t) : ∀ (n : Nat) (v : Int) (l : L8), 0 ≤ v → v < n → l.length + v ≤ 100000000 → ∃ t, laws_markText_l0 K n v (bA l) = some t
  | 0, v, l, h0, h1, _ => by omega
  | n + 1, v, l, h0, h1, hb => by
    simp only [laws_markText_l0]
    by_cases h : 0 < v
    · rw [if_pos h]
      have e1 : v.tdiv 10 = v / 10 := Int.tdiv_eq_ediv_of_nonneg h0
      have e2 : v.tmod 10 = v % 10 := Int.tmod_eq_emod_of_nonneg h0
      rw [e1, e2, strD_one (by omega) (by omega), Option.bind_some, if_pos (by rw [bA_size, bA_size, List.length_singleton]; omega), bA_app, wrap_in (by omega) (by omega)]
      exact markText_loop hK n (v / 10) _ (by omega) (by omega) (by rw [List.length_append, List.length_singleton]; omega)
    · rw [if_neg h]
      exact hK l (by omega)
theorem bA_109 : ByteArray.mk #[109] = bA [109] := rfl
theorem markText_ok (k : Nat) (v : Int) (h : v < k) (hb : v ≤ 10000000) : ∃ t, laws_markText k v = some t := by
  unfold laws_markText
  by_cases hv : v ≤ 0
  · rw [if_pos hv]; exact ⟨_, rfl⟩
  · rw [if_neg hv]
    refine markText_loop (fun l hl => ?_) k v [] (by omega) h (by simp only [List.length_nil]; omega)
    rw [bA_109, if_pos (by rw [bA_size, bA_size, List.length_singleton]; omega)]
    exact ⟨_, rfl⟩
theorem markB_loop {k : Nat} {K : Int → Rw → Option (Int × Rw)} (hk : 6000000 ≤ k) : ∀ (n : Nat) (b : Bk) (done : Rw) (v : Int), b.length < n → 0 ≤ v → v + 3 * sizeB b ≤ 5000000 → done.length + b.length ≤ 100000000 →
    ∃ (r : Int) (es : Rw), laws_markEntryS_l0 k K n (done ++ rowsB b) v done.length = K r es ∧ es.length = done.length + b.length ∧ v ≤ r ∧ r ≤ v + 3 * sizeB b
  | 0, b, _, _, h, _, _, _ => by omega
  | n + 1, [], done, v, _, h0, _, _ => by
    refine ⟨v, done, ?_, by simp, by omega, by simp [sizeB]⟩
    simp only [laws_markEntryS_l0, rowsB, List.map_nil, List.append_nil]
    rw [if_neg (by omega)]
  | n + 1, e :: l, done, v, hn, h0, hv, hd => by
    simp only [List.length_cons] at hd
    have hll := lenB_size l
    simp only [sizeB] at hv
    simp only [List.length_cons] at hn
    have hlen : (done ++ rowsB (e :: l)).length = done.length + (l.length + 1) := by rw [List.length_append, rowsB_len, List.length_cons]
    obtain ⟨t, ht⟩ := markText_ok k v (by omega) (by omega)
    have hrow : ∀ {α : Type} (x : ByteArray × S) (K : ByteArray → Rw → Option α), row_ts (done ++ rowsB (x :: l)) (done.length : Int) K = K x.1 x.2.rowsS := by
      intro α x K
      unfold row_ts
      rw [if_pos (by omega), Int.toNat_natCast, List.getElem?_append_right (by omega), Nat.sub_self]
      rfl
    have hset : ∀ x y : ByteArray × S, (done ++ rowsB (x :: l)).set (done.length : Int).toNat [D.str y.1, D.sl y.2.rowsS] = done ++ rowsB (y :: l) := by
      intro x y
      rw [Int.toNat_natCast, List.set_append_right (h := by omega), Nat.sub_self]
      rfl
    have hm := markSurS_eq k e.2 (v + 1) (by omega) (by omega) (by omega)
    obtain ⟨r, es, e1, e2, e3, e4⟩ := markB_loop (K := K) hk n l (done ++ [[D.str t, D.sl (mkS e.2 (v + 1)).rowsS]]) (v + 1 + 2 * e.2.sizeS) (by omega) (by omega) (by omega) (by rw [List.length_append, List.length_singleton]; omega)
    refine ⟨r, es, ?_, by rw [e2, List.length_append, List.length_singleton, List.length_cons]; omega, by omega, by simp only [sizeB]; omega⟩
    simp only [laws_markEntryS_l0]
    rw [if_pos (by rw [hlen]; omega), ht, Option.bind_some, if_pos ⟨by omega, by rw [hlen]; omega⟩, hrow]
    rw [hset e (t, e.2), hrow (t, e.2), wrap_in (by omega) (by omega)]
    show (laws_markSurrealTermS k e.2.rowsS (v + 1)).bind _ = _
    rw [hm, Option.bind_some]
    show laws_markEntryS_l0 k K n ((done ++ rowsB ((t, e.2) :: l)).set (done.length : Int).toNat [D.str t, D.sl (mkS e.2 (v + 1)).rowsS]) (v + 1 + 2 * e.2.sizeS) (IntKind.i64.wrap ((done.length : Int) + 1)) = K r es
    rw [hset (t, e.2) (t, mkS e.2 (v + 1)), wrap_in (by omega) (by omega)]
    rw [List.length_append, List.length_singleton] at e1
    rw [← e1]
    simp [rowsB]
theorem markB_eq (k : Nat) (b : Bk) (hk : sizeB b + 6000000 ≤ k) (hb : sizeB b ≤ 1100000) : ∃ (r : Int) (es : Rw), laws_markNotebook k (rowsB b) 1 = some (r, es) ∧ es.length = b.length ∧ 1 ≤ r := by
  have hl := lenB_size b
  unfold laws_markNotebook
  cases b with
  | nil =>
    refine ⟨1, [], ?_, rfl, Int.le_refl 1⟩
    have : laws_markEntryS_2 k 1 = some 1 := by
      unfold laws_markEntryS_2
      have key : ∀ n : Nat, 0 < n → laws_markEntryS_2_l0 1 (some 1) n = some 1 := by
        intro n hn
        cases n with
        | zero => exact absurd hn (Nat.lt_irrefl _)
        | succ m => rw [laws_markEntryS_2_l0]
      exact key k (Nat.lt_of_lt_of_le (by decide) (Nat.le_trans (Nat.le_add_left 6000000 _) hk))
    simp only [rowsB, List.map_nil, List.isEmpty_nil, if_true, laws_markNotebook_2, this, Option.bind_some]
  | cons e l =>
    obtain ⟨r, es, e1, e2, e3, e4⟩ := markB_loop (k := k) (K := fun v34 v35 => (if v35.length = (rowsB (e :: l)).length then some (v34, v35) else none)) (by omega) k (e :: l) [] 1 (by omega) (by omega) (by omega) (by simp only [List.length_nil]; omega)
    refine ⟨r, es, ?_, by simpa using e2, e3⟩
    have hE : laws_markEntryS k (rowsB (e :: l)) 1 = some (r, es) := by
      unfold laws_markEntryS
      rw [if_neg (by simp [rowsB])]
      simp only [List.nil_append, List.length_nil] at e1
      refine Eq.trans e1 ?_
      rw [if_pos (by rw [e2, rowsB_len]; simp)]
    rw [if_neg (by simp [rowsB]), hE, Option.bind_some, if_pos (by rw [e2, rowsB_len]; simp)]
/-! ### names, in order -/
theorem isName_same {s : ByteArray} {b : Bool} : ∀ (n : Nat) (v : Int), impl_isName_l0 s (some b) n v = spec_coName_l0 s (some b) n v
  | 0, _ => rfl
  | n + 1, v => by simp only [impl_isName_l0, spec_coName_l0, isName_same n]
theorem isName_some {s : ByteArray} {b : Bool} (hs : s.size ≤ 1000000000) : ∀ (n : Nat) (v : Int), 0 ≤ v → v ≤ s.size → (s.size : Int) - v < n → ∃ r, impl_isName_l0 s (some b) n v = some r
  | 0, v, h0, h1, h2 => by omega
  | n + 1, v, h0, h1, h2 => by
    simp only [impl_isName_l0]
    by_cases h : v < (s.size : Int)
    · rw [if_pos h]
      unfold byteD
      rw [if_pos h0]
      have hb : s[v.toNat]? = some (s[v.toNat]'(by omega)) := getElem?_pos s v.toNat (by omega)
      rw [hb]
      simp only
      split
      · exact ⟨_, rfl⟩
      · split
        · exact ⟨_, rfl⟩
        · rw [wrap_in (by omega) (by omega)]
          exact isName_some hs n (v + 1) (by omega) (by omega) (by omega)
    · rw [if_neg h]; exact ⟨_, rfl⟩
def nm (k : Nat) (s : ByteArray) : Bool := (impl_isName k s).getD false
theorem nm_eq (k : Nat) (s : ByteArray) (hs : s.size ≤ 1000000000) (hk : s.size < k) : impl_isName k s = some (nm k s) ∧ spec_coName k s = some (nm k s) := by
  have hb : (if (1 : Int) ≤ (s.size : Int) then (if (s.size : Int) ≤ (8 : Int) then some true else some false) else some false) = some (decide ((1 : Int) ≤ s.size) && decide ((s.size : Int) ≤ 8)) := by
    by_cases h1 : (1 : Int) ≤ s.size <;> by_cases h2 : (s.size : Int) ≤ 8 <;> simp [h1, h2]
  have hi : impl_isName k s = impl_isName_l0 s (some (decide ((1 : Int) ≤ s.size) && decide ((s.size : Int) ≤ 8))) k 0 := by unfold impl_isName; rw [hb]
  have hsn : spec_coName k s = spec_coName_l0 s (some (decide ((1 : Int) ≤ s.size) && decide ((s.size : Int) ≤ 8))) k 0 := by
    unfold spec_coName
    rw [sIn_eq, Option.bind_some]
    congr 1
    cases (decide ((1 : Int) ≤ s.size) && decide ((s.size : Int) ≤ 8)) <;> rfl
  obtain ⟨r, hr⟩ := isName_some (s := s) (b := decide ((1 : Int) ≤ s.size) && decide ((s.size : Int) ≤ 8)) hs k 0 (by omega) (by omega) (by omega)
  have : nm k s = r := by unfold nm; rw [hi, hr]; rfl
  rw [this]
  exact ⟨by rw [hi, hr], by rw [hsn, ← isName_same, hr]⟩
def cB (x y : ByteArray) : Int := Lib.compareBytes x.data.toList y.data.toList
theorem cb_range : ∀ x y : List UInt8, Lib.compareBytes x y = -1 ∨ Lib.compareBytes x y = 0 ∨ Lib.compareBytes x y = 1
  | [], [] => by simp [Lib.compareBytes]
  | [], _ :: _ => by simp [Lib.compareBytes]
  | _ :: _, [] => by simp [Lib.compareBytes]
  | a :: x, b :: y => by
    simp only [Lib.compareBytes]
    split
    · simp
    · split
      · simp
      · exact cb_range x y
theorem u8_tri {a b : UInt8} (h1 : ¬ a < b) (h2 : ¬ b < a) : a = b := UInt8.le_antisymm (UInt8.not_lt.1 h2) (UInt8.not_lt.1 h1)
theorem cb_less : ∀ x y : List UInt8, Op.bytesLess x y = decide (Lib.compareBytes x y < 0)
  | [], [] => rfl
  | [], _ :: _ => rfl
  | _ :: _, [] => rfl
  | a :: x, b :: y => by
    simp only [Op.bytesLess, Lib.compareBytes, cb_less x y]
    by_cases h1 : a < b
    · simp [h1]
    · by_cases h2 : b < a
      · have : (a == b) = false := by
          rw [beq_eq_false_iff_ne]
          intro q
          subst q
          exact absurd h2 (UInt8.lt_irrefl _)
        simp [h1, h2, this]
      · have := u8_tri h1 h2
        subst this
        simp [h1]
theorem cb_zero : ∀ {x y : List UInt8}, Lib.compareBytes x y = 0 ↔ x = y
  | [], [] => by simp [Lib.compareBytes]
  | [], _ :: _ => by simp [Lib.compareBytes]
  | _ :: _, [] => by simp [Lib.compareBytes]
  | a :: x, b :: y => by
    simp only [Lib.compareBytes, List.cons.injEq]
    by_cases h1 : a < b
    · rw [if_pos h1]
      constructor
      · intro h; omega
      · rintro ⟨rfl, _⟩; exact absurd h1 (UInt8.lt_irrefl _)
    · rw [if_neg h1]
      by_cases h2 : b < a
      · rw [if_pos h2]
        constructor
        · intro h; omega
        · rintro ⟨rfl, _⟩; exact absurd h2 (UInt8.lt_irrefl _)
      · rw [if_neg h2, cb_zero]
        have := u8_tri h1 h2
        simp [this]
theorem cb_trans : ∀ {x y z : List UInt8}, Lib.compareBytes x y < 0 → Lib.compareBytes y z < 0 → Lib.compareBytes x z < 0
  | [], [], _, h, _ => by simp [Lib.compareBytes] at h
  | [], _ :: _, [], _, h => by simp [Lib.compareBytes] at h
  | [], _ :: _, _ :: _, _, _ => by simp [Lib.compareBytes]
  | _ :: _, [], _, h, _ => by simp [Lib.compareBytes] at h
  | _ :: _, _ :: _, [], _, h => by simp [Lib.compareBytes] at h
  | a :: x, b :: y, c :: z, h, g => by
    simp only [Lib.compareBytes] at h g ⊢
    by_cases h1 : a < b
    · by_cases g1 : b < c
      · rw [if_pos (UInt8.lt_trans h1 g1)]; decide
      · rw [if_neg g1] at g
        by_cases g2 : c < b
        · rw [if_pos g2] at g; omega
        · rw [if_pos (by rw [← u8_tri g1 g2]; exact h1)]; decide
    · rw [if_neg h1] at h
      by_cases h2 : b < a
      · rw [if_pos h2] at h; omega
      · rw [if_neg h2] at h
        have := u8_tri h1 h2
        subst this
        by_cases g1 : a < c
        · rw [if_pos g1]; decide
        · rw [if_neg g1] at g ⊢
          by_cases g2 : c < a
          · rw [if_pos g2] at g; omega
          · rw [if_neg g2] at g ⊢
            exact cb_trans h g
end Go.Proofs.Try

namespace Go.Proofs.Try
open Go Go.AX S
def okB (k : Nat) : Option ByteArray → Bk → Bool
  | _, [] => true
  | p, e :: l => nm k e.1 && (surP e.2 && ((match p with | none => true | some q => decide (cB q e.1 < 0)) && okB k (some e.1) l))
def prevB (b : Bk) : Nat → Option ByteArray
  | 0 => none
  | i + 1 => (b[i]?).map (·.1)
theorem less_cB (x y : ByteArray) : Op.bytesLess x.toList y.toList = decide (cB x y < 0) := by rw [cb_less, ByteArray.toList_eq, ByteArray.toList_eq]; rfl
theorem good_loops {k : Nat} {b : Bk} {r : Bool} (hk : sizeB b + 300 < k) (hc : sizeB b ≤ 1000000000) : ∀ (l : Bk) (i : Nat), b.drop i = l →
    impl_IsNotebook_l0 k (rowsB b) (some r) (rowsB l) i = some (okB k (prevB b i) l && r) ∧ spec_coGood_l0 k (rowsB b) (some r) (rowsB l) i = some (okB k (prevB b i) l && r)
  | [], i, _ => ⟨by simp [rowsB, impl_IsNotebook_l0, okB], by simp [rowsB, spec_coGood_l0, okB]⟩
  | e :: l, i, hd => by
    have hg : b[i]? = some e := by
      have := congrArg (·[0]?) hd
      simpa [List.getElem?_drop] using this
    have hd2 : b.drop (i + 1) = l := by rw [← List.drop_drop, hd]; rfl
    have hm := memB_size (List.mem_of_getElem? hg)
    have hcap : cap = 1099511627776 := rfl
    obtain ⟨n1, n2⟩ := nm_eq k e.1 (by omega) (by omega)
    have hS := IsSurreal_eq k e.2 (by omega) (by omega)
    have gS := suGood_all k e.2 (by omega) (by omega)
    obtain ⟨ih1, ih2⟩ := good_loops (r := r) hk hc l (i + 1) hd2
    have hp : prevB b (i + 1) = some e.1 := by simp only [prevB, hg]; rfl
    rw [hp] at ih1 ih2
    have hi : i < 1000000000 := by
      have := (List.getElem?_eq_some_iff.1 hg).1
      have := lenB_size b
      omega
    simp only [rowsB, List.map_cons, impl_IsNotebook_l0, spec_coGood_l0, cell_B, n1, n2, Option.bind_some, okB]
    cases h1 : nm k e.1 with
    | false => simp
    | true =>
      simp only [if_true, hS, gS, Option.bind_some, Bool.true_and]
      cases h2 : surP e.2 with
      | false => simp
      | true =>
        simp only [if_true, Bool.true_and]
        cases i with
        | zero =>
          rw [if_neg (by simp), if_neg (by simp)]
          simp only [prevB, Bool.true_and]
          exact ⟨ih1, ih2⟩
        | succ j =>
          have hj : ∃ q, b[j]? = some q := ⟨_, List.getElem?_eq_getElem (by have := (List.getElem?_eq_some_iff.1 hg).1; omega)⟩
          obtain ⟨q, hq⟩ := hj
          rw [if_pos (by omega), if_pos (by omega)]
          have hw : IntKind.i64.wrap (((j + 1 : Nat) : Int) - 1) = ((j : Nat) : Int) := by rw [wrap_in (by omega) (by omega)]; omega
          rw [hw]
          have e1 : ∀ {α : Type} (K : ByteArray → Rw → Option α), row_ts (List.map (fun e => [D.str e.1, D.sl e.2.rowsS]) b) ((j : Nat) : Int) K = K q.1 q.2.rowsS := fun K => row_B (b := b) rfl hq K
          rw [e1, e1, less_cB]
          simp only [prevB, hq, Option.map_some]
          by_cases h3 : cB q.1 e.1 < 0
          · simp only [h3, decide_true, Bool.not_true, if_false, Bool.true_and, Bool.false_eq_true]
            exact ⟨ih1, ih2⟩
          · simp [h3]
def goodB (k : Nat) (b : Bk) : Bool := okB k none b && decide (b.length ≤ 12)
theorem good_both {k : Nat} {b : Bk} (hk : sizeB b + 300 < k) (hc : sizeB b ≤ 1000000000) : impl_IsNotebook k (rowsB b) = some (goodB k b) ∧ spec_coGood k (rowsB b) = some (goodB k b) := by
  have h3 : cap = 1099511627776 := rfl
  have hl := lenB_size b
  have hb : (if ((rowsB b).length : Int) ≤ (12 : Int) then some true else some false) = some (decide (b.length ≤ 12)) := by
    rw [rowsB_len]
    by_cases h : b.length ≤ 12
    · rw [if_pos (by omega)]; simp [h]
    · rw [if_neg (by omega)]; simp [h]
  obtain ⟨h1, h2⟩ := good_loops (r := decide (b.length ≤ 12)) hk hc b 0 rfl
  unfold impl_IsNotebook spec_coGood
  rw [hb]
  exact ⟨(if_pos (by rw [rowsB_len]; omega)).trans h1, (if_pos (by rw [rowsB_len]; omega)).trans h2⟩
/-- Names rise. -/
def rises (b : Bk) : Prop := ∀ (i j : Nat) x y, i < j → b[i]? = some x → b[j]? = some y → cB x.1 y.1 < 0
theorem ok_above {k : Nat} : ∀ {l : Bk} {q : ByteArray}, okB k (some q) l = true → ∀ (j : Nat) y, l[j]? = some y → cB q y.1 < 0
  | e :: l, q, h, j, y, hy => by
    simp only [okB, Bool.and_eq_true, decide_eq_true_eq] at h
    cases j with
    | zero => simp at hy; subst hy; exact h.2.2.1
    | succ j => simp at hy; exact cb_trans h.2.2.1 (ok_above h.2.2.2 j y hy)
theorem ok_rises {k : Nat} : ∀ {l : Bk} {p : Option ByteArray}, okB k p l = true → rises l
  | [], _, _, i, j, x, y, _, hx, _ => by simp at hx
  | e :: l, p, h, i, j, x, y, hij, hx, hy => by
    simp only [okB, Bool.and_eq_true] at h
    cases j with
    | zero => omega
    | succ j =>
      simp at hy
      cases i with
      | zero => simp at hx; subst hx; exact ok_above h.2.2.2 j y hy
      | succ i => simp at hx; exact ok_rises h.2.2.2 i j x y (by omega) hx hy
theorem half {lo hi : Int} (h0 : 0 ≤ lo) (h1 : lo < hi) (h2 : hi ≤ 1000000000) : IntKind.i64.wrap ((IntKind.u64.wrap (IntKind.i64.wrap (lo + hi))).fdiv (2 ^ (min (1 : Int).toNat (IntKind.u64).bits))) = (lo + hi) / 2 := by
  have e1 : IntKind.i64.wrap (lo + hi) = lo + hi := wrap_in (by omega) (by omega)
  have e2 : IntKind.u64.wrap (lo + hi) = lo + hi := by
    simp only [IntKind.wrap, IntKind.bits, IntKind.signed]
    simp
    omega
  have e3 : (2 : Int) ^ (min (1 : Int).toNat (IntKind.u64).bits) = 2 := by decide
  rw [e1, e2, e3, Int.fdiv_eq_ediv_of_nonneg _ (by omega), wrap_in (by omega) (by omega)]
/-- The search ends between names that are less and names that are not, where names rise. -/
theorem search_ok {b : Bk} {t : ByteArray} {K : Int → Option (Int × Bool)} (hl : b.length ≤ 1000000000) : ∀ (n lo hi : Nat), lo ≤ hi → hi ≤ b.length → hi - lo < n →
    ∃ i : Nat, lo ≤ i ∧ i ≤ hi ∧ slices_BinarySearchFunc__Notebook_at_1_l0 (rowsB b) t K n (lo : Int) (hi : Int) = K (i : Int) ∧
      (rises b → (∀ j x, j < lo → b[j]? = some x → cB x.1 t < 0) → (∀ j x, hi ≤ j → b[j]? = some x → ¬ cB x.1 t < 0) → (∀ j x, j < i → b[j]? = some x → cB x.1 t < 0) ∧ (∀ j x, i ≤ j → b[j]? = some x → ¬ cB x.1 t < 0))
  | 0, lo, hi, _, _, h => by omega
  | n + 1, lo, hi, h1, h2, h3 => by
    simp only [slices_BinarySearchFunc__Notebook_at_1_l0]
    by_cases h : lo < hi
    · rw [if_pos (by omega)]
      have hh := half (lo := (lo : Int)) (hi := (hi : Int)) (by omega) (by omega) (by omega)
      rw [hh]
      obtain ⟨m, hm⟩ : ∃ m : Nat, ((lo : Int) + hi) / 2 = (m : Int) := ⟨(lo + hi) / 2, by omega⟩
      have m1 : lo ≤ m := by omega
      have m2 : m < hi := by omega
      have hg : b[m]? = some (b[m]'(by omega)) := List.getElem?_eq_getElem (by omega)
      rw [hm]
      generalize b[m]'(by omega) = e at hg
      rw [row_B (b := b) (i := (m : Int)) rfl hg]
      have hc : impl_Notebook_at_1 e.1 e.2.rowsS t = some (cB e.1 t) := rfl
      rw [hc, Option.bind_some]
      by_cases hlt : cB e.1 t < 0
      · rw [if_pos hlt, wrap_in (by omega) (by omega)]
        obtain ⟨i, i1, i2, i3, i4⟩ := search_ok (t := t) (K := K) hl n (m + 1) hi (by omega) h2 (by omega)
        refine ⟨i, by omega, i2, by rw [← i3]; rfl, fun hr _ hB => i4 hr (fun j x hj hx => ?_) hB⟩
        by_cases hjm : j = m
        · subst hjm; rw [hg] at hx; injection hx with hx; subst hx; exact hlt
        · exact cb_trans (hr j m x e (by omega) hx hg) hlt
      · rw [if_neg hlt]
        obtain ⟨i, i1, i2, i3, i4⟩ := search_ok (t := t) (K := K) hl n lo m (by omega) (by omega) (by omega)
        refine ⟨i, i1, by omega, i3, fun hr hA _ => i4 hr hA (fun j x hj hx hlt2 => ?_)⟩
        by_cases hjm : j = m
        · subst hjm; rw [hg] at hx; injection hx with hx; subst hx; exact hlt hlt2
        · exact hlt (cb_trans (hr m j e x (by omega) hg hx) hlt2)
    · rw [if_neg (by omega)]
      have : lo = hi := by omega
      subst this
      exact ⟨lo, by omega, by omega, rfl, fun _ hA hB => ⟨hA, hB⟩⟩
def getB (t : ByteArray) : Bk → Option S
  | [] => none
  | e :: l => if e.1.data.toList = t.data.toList then some e.2 else getB t l
theorem coGet_eq {b : Bk} {t : ByteArray} {R : Rw} (hl : b.length ≤ cap) : spec_coGet (rowsB b) t = some (match getB t b with | some x => (x.rowsS, true) | none => (([] : Rw), false)) := by
  have key : ∀ l : Bk, spec_coGet_l0 (rowsB b) t (some (([] : Rw), false)) (rowsB l) = some (match getB t l with | some x => (x.rowsS, true) | none => (([] : Rw), false)) := by
    intro l
    induction l with
    | nil => rfl
    | cons e l ih =>
      simp only [rowsB, List.map_cons, spec_coGet_l0, cell_B, getB]
      by_cases h : e.1.data.toList = t.data.toList
      · rw [if_pos (by rw [ByteArray.toList_eq, ByteArray.toList_eq, h]; simp), if_pos h]
      · rw [if_neg (by rw [ByteArray.toList_eq, ByteArray.toList_eq]; simpa using h), if_neg h]
        exact ih
  unfold spec_coGet
  rw [if_pos (by rw [rowsB_len]; exact hl)]
  exact key b
theorem get_at {b : Bk} {t : ByteArray} {i : Nat} (hr : rises b) (h1 : ∀ j x, j < i → b[j]? = some x → cB x.1 t < 0) (h2 : ∀ j x, i ≤ j → b[j]? = some x → ¬ cB x.1 t < 0) :
    getB t b = match b[i]? with | some e => (if cB e.1 t = 0 then some e.2 else none) | none => none := by
  have cz : ∀ x : ByteArray, cB x t = 0 ↔ x.data.toList = t.data.toList := fun x => cb_zero
  induction b generalizing i with
  | nil => rfl
  | cons e l ih =>
    have hr' : rises l := fun a c x y hac hx hy => hr (a + 1) (c + 1) x y (by omega) (by simpa using hx) (by simpa using hy)
    simp only [getB]
    cases i with
    | zero =>
      simp only [List.getElem?_cons_zero, cz]
      by_cases h : e.1.data.toList = t.data.toList
      · rw [if_pos h, if_pos h]
      · rw [if_neg h, if_neg h]
        -- none behind is the name
        have none_ : ∀ l' : Bk, (∀ x ∈ l', cB e.1 x.1 < 0) → getB t l' = none := by
          intro l'
          induction l' with
          | nil => intro _; rfl
          | cons f m ihm =>
            intro hm
            simp only [getB]
            rw [if_neg, ihm fun x hx => hm x (by simp [hx])]
            intro q
            have hf := hm f (by simp)
            have : cB e.1 t < 0 := by unfold cB at hf ⊢; rw [← q]; exact hf
            exact h2 0 e (Nat.le_refl _) rfl this
        exact none_ l fun x hx => by
          obtain ⟨j, hj⟩ := List.mem_iff_getElem?.1 hx
          exact hr 0 (j + 1) e x (by omega) rfl (by simpa using hj)
    | succ i =>
      have hne : ¬ e.1.data.toList = t.data.toList := by
        intro q
        have := h1 0 e (by omega) rfl
        rw [(cz e.1).2 q] at this
        omega
      rw [if_neg hne, List.getElem?_cons_succ]
      exact ih hr' (fun j x hj hx => h1 (j + 1) x (by omega) (by simpa using hx)) (fun j x hj hx => h2 (j + 1) x (by omega) (by simpa using hx))
def entryR (k : Nat) (b : Bk) (t : ByteArray) : S × Bool := if goodB k b = true then (match getB t b with | some x => (x, true) | none => (nil, false)) else (nil, false)
theorem get_mem {b : Bk} {t : ByteArray} {x : S} (h : getB t b = some x) : x.sizeS ≤ sizeB b := by
  induction b with
  | nil => cases h
  | cons e l ih =>
    simp only [getB] at h
    simp only [sizeB]
    split at h
    · injection h with h; subst h; omega
    · have := ih h; omega
end Go.Proofs.Try

namespace Go.Proofs.Try
open Go Go.AX S
abbrev Bk.rowsN (b : Bk) : Rw := rowsB b
abbrev Bk.sizeN (b : Bk) : Nat := sizeB b
abbrev Bk.lenN (b : Bk) : Nat := b.length
theorem szN_eq (k : Nat) (b : Bk) (v : Int) (hk : b.sizeN ≤ k) (hf : fitB b) (hl : (b.lenN : Int) ≤ 9223372036854775807) (h0 : 0 ≤ v) (h1 : v ≤ 1048576) : ∃ r : Int, laws_szNotebook k b.rowsN v = some r ∧ r ≤ v ∧ -1 ≤ r ∧ (0 ≤ r → r + b.sizeN ≤ v) := szB_eq k b v hf hl hk h0 h1
theorem toN_eq (k : Nat) (b : Bk) (h : b.sizeN < k) (hc : b.sizeN ≤ cap) : laws_toNotebook k b.rowsN = some b.rowsN := toB_eq k b h hc
theorem eqN_refl (k : Nat) (b : Bk) (h : b.sizeN < k) (hc : b.sizeN ≤ cap) : laws_eqNotebook k b.rowsN b.rowsN = some true := eqB_refl k b h hc
theorem markN_eq (k : Nat) (b : Bk) (hk : b.sizeN + 6000000 ≤ k) (hb : b.sizeN ≤ 1100000) : ∃ (r : Int) (es : Rw), laws_markNotebook k b.rowsN 1 = some (r, es) ∧ es.length = b.rowsN.length ∧ 1 ≤ r := by
  obtain ⟨r, es, h1, h2, h3⟩ := markB_eq k b hk hb
  exact ⟨r, es, h1, by rw [h2]; exact (rowsB_len b).symm, h3⟩
end Go.Proofs.Try

namespace Go.Proofs.Try
open Go Go.AX S
/-! ### marks -/
def mtx (k : Nat) (v : Int) : ByteArray := (laws_markText k v).getD (ByteArray.mk #[])
theorem mtx_eq (k : Nat) (v : Int) (h : v < k) (hb : v ≤ 10000000) : laws_markText k v = some (mtx k v) := by
  obtain ⟨t, ht⟩ := markText_ok k v h hb
  unfold mtx
  rw [ht]; rfl
def mkB (k : Nat) : Bk → Int → Bk
  | [], _ => []
  | e :: l, v => (mtx k v, mkS e.2 (v + 1)) :: mkB k l (v + 1 + 2 * e.2.sizeS)
def endB : Bk → Int → Int
  | [], v => v
  | e :: l, v => endB l (v + 1 + 2 * e.2.sizeS)
theorem mkB_len (k : Nat) : ∀ (b : Bk) (v : Int), (mkB k b v).length = b.length
  | [], _ => rfl
  | e :: l, v => by simp [mkB, mkB_len k l]
theorem endB_ge : ∀ (b : Bk) (v : Int), v ≤ endB b v
  | [], v => Int.le_refl v
  | e :: l, v => by have := endB_ge l (v + 1 + 2 * e.2.sizeS); simp only [endB]; omega
theorem markD_loop {k : Nat} {K : Int → Rw → Option (Int × Rw)} (hk : 6000000 ≤ k) : ∀ (n : Nat) (b done : Bk) (v : Int), b.length < n → 0 ≤ v → v + 3 * sizeB b ≤ 5000000 → done.length + b.length ≤ 100000000 →
    laws_markEntryS_l0 k K n (rowsB (done ++ b)) v done.length = K (endB b v) (rowsB (done ++ mkB k b v))
  | 0, b, _, _, h, _, _, _ => by omega
  | n + 1, [], done, v, _, h0, _, _ => by
    simp only [laws_markEntryS_l0, List.append_nil, mkB, endB]
    rw [if_neg (by rw [rowsB_len]; omega)]
  | n + 1, e :: l, done, v, hn, h0, hv, hd => by
    simp only [List.length_cons] at hd
    have hll := lenB_size l
    simp only [sizeB] at hv
    simp only [List.length_cons] at hn
    have hlen : ∀ x : ByteArray × S, (rowsB (done ++ x :: l)).length = done.length + (l.length + 1) := by intro x; rw [rowsB_len, List.length_append, List.length_cons]
    have ht := mtx_eq k v (by omega) (by omega)
    have hget : ∀ x : ByteArray × S, (done ++ x :: l)[done.length]? = some x := by intro x; simp
    have hset : ∀ x y : ByteArray × S, (rowsB (done ++ x :: l)).set (done.length : Int).toNat [D.str y.1, D.sl y.2.rowsS] = rowsB (done ++ y :: l) := by
      intro x y
      simp [rowsB]
    have hm := markSurS_eq k e.2 (v + 1) (by omega) (by omega) (by omega)
    have ih := markD_loop (K := K) hk n l (done ++ [(mtx k v, mkS e.2 (v + 1))]) (v + 1 + 2 * e.2.sizeS) (by omega) (by omega) (by omega) (by rw [List.length_append, List.length_singleton]; omega)
    rw [List.length_append, List.length_singleton, List.append_assoc, List.singleton_append, List.append_assoc, List.singleton_append] at ih
    simp only [laws_markEntryS_l0, mkB, endB]
    rw [if_pos (by rw [hlen]; omega), ht, Option.bind_some, if_pos ⟨by omega, by rw [hlen]; omega⟩, row_B (j := done.length) rfl (hget e)]
    rw [hset e (mtx k v, e.2), row_B (j := done.length) rfl (hget (mtx k v, e.2)), wrap_in (n := v + 1) (by omega) (by omega)]
    show (laws_markSurrealTermS k e.2.rowsS (v + 1)).bind _ = _
    rw [hm, Option.bind_some]
    show laws_markEntryS_l0 k K n ((rowsB (done ++ (mtx k v, e.2) :: l)).set (done.length : Int).toNat [D.str (mtx k v), D.sl (mkS e.2 (v + 1)).rowsS]) (v + 1 + 2 * e.2.sizeS) (IntKind.i64.wrap ((done.length : Int) + 1)) = _
    rw [hset (mtx k v, e.2) (mtx k v, mkS e.2 (v + 1)), wrap_in (by omega) (by omega)]
    exact ih
theorem markD_eq (k : Nat) (b : Bk) (hk : sizeB b + 6000000 ≤ k) (hb : sizeB b ≤ 1100000) : laws_markNotebook k (rowsB b) 1 = some (endB b 1, rowsB (mkB k b 1)) := by
  have hl := lenB_size b
  unfold laws_markNotebook
  cases b with
  | nil =>
    have : laws_markEntryS_2 k 1 = some 1 := by
      unfold laws_markEntryS_2
      have key : ∀ n : Nat, 0 < n → laws_markEntryS_2_l0 1 (some 1) n = some 1 := by
        intro n hn
        cases n with
        | zero => exact absurd hn (Nat.lt_irrefl _)
        | succ m => rw [laws_markEntryS_2_l0]
      exact key k (Nat.lt_of_lt_of_le (by decide) (Nat.le_trans (Nat.le_add_left 6000000 _) hk))
    simp only [rowsB, List.map_nil, List.isEmpty_nil, if_true, laws_markNotebook_2, this, Option.bind_some, mkB, endB]
  | cons e l =>
    have e1 := markD_loop (k := k) (K := fun v34 v35 => (if v35.length = (rowsB (e :: l)).length then some (v34, v35) else none)) (by omega) k (e :: l) [] 1 (by omega) (by omega) (by omega) (by simp only [List.length_nil]; omega)
    have hE : laws_markEntryS k (rowsB (e :: l)) 1 = some (endB (e :: l) 1, rowsB (mkB k (e :: l) 1)) := by
      unfold laws_markEntryS
      rw [if_neg (by simp [rowsB])]
      simp only [List.nil_append, List.length_nil] at e1
      refine Eq.trans e1 ?_
      rw [if_pos (by rw [rowsB_len, rowsB_len, mkB_len])]
    rw [if_neg (by simp [rowsB]), hE, Option.bind_some, if_pos (by rw [rowsB_len, rowsB_len, mkB_len])]
theorem heldD_loop {k : Nat} {a : Rw} {K : Int → Option Int} (hk : 6000000 ≤ k) : ∀ (b : Bk) (v : Int), 0 ≤ v → v + 3 * sizeB b ≤ 5000000 → laws_heldEntryS_l0 k a K (rowsB (mkB k b v)) v = K (endB b v)
  | [], v, _, _ => rfl
  | e :: l, v, h0, hv => by
    have h3 : cap = 1099511627776 := rfl
    simp only [sizeB] at hv
    simp only [mkB, endB]
    show laws_heldEntryS_l0 k a K ([D.str (mtx k v), D.sl (mkS e.2 (v + 1)).rowsS] :: rowsB (mkB k l (v + 1 + 2 * e.2.sizeS))) v = _
    simp only [laws_heldEntryS_l0, cell_B]
    rw [mtx_eq k v (by omega) (by omega), Option.bind_some, if_neg (by simp), wrap_in (n := v + 1) (by omega) (by omega), heldSurS_eq k e.2 (v + 1) (by omega) (by omega) (by omega) (by omega), Option.bind_some, if_neg (by omega)]
    exact heldD_loop hk l _ (by omega) (by omega)
theorem heldD_eq (k : Nat) (b : Bk) (hk : sizeB b + 6000000 ≤ k) (hb : sizeB b ≤ 1100000) : laws_heldNotebook k (rowsB (mkB k b 1)) 1 = some (endB b 1) := by
  have hl := lenB_size b
  have h3 : cap = 1099511627776 := rfl
  have hge := endB_ge b 1
  unfold laws_heldNotebook laws_heldEntryS
  rw [if_pos (by rw [rowsB_len, mkB_len]; omega), heldD_loop (by omega) b 1 (by omega) (by omega), Option.bind_some, if_neg (by omega)]
/-! ### dropping -/
def hasN (t : ByteArray) (e : ByteArray × S) : Bool := decide (e.1.data.toList = t.data.toList)
def dropB (t : ByteArray) (b : Bk) : Bk := b.filter fun e => !hasN t e
theorem sizeB_filter (p : ByteArray × S → Bool) : ∀ b : Bk, sizeB (b.filter p) ≤ sizeB b
  | [] => by simp [sizeB]
  | e :: l => by
    have := sizeB_filter p l
    rw [List.filter_cons]
    split <;> simp only [sizeB] <;> omega
theorem coDrop_eq {b : Bk} {t : ByteArray} (hl : b.length ≤ 1000000000) : spec_coDrop (rowsB b) t = some (rowsB (dropB t b)) := by
  have key : ∀ (l acc : Bk), acc.length + l.length ≤ 1000000000 → spec_coDrop_l0 (rowsB b) t (fun v18 => some v18) (rowsB l) (rowsB acc) = some (rowsB (acc ++ dropB t l)) := by
    intro l
    induction l with
    | nil => intro acc _; simp [rowsB, spec_coDrop_l0, dropB]
    | cons e l ih =>
      intro acc ha
      simp only [List.length_cons] at ha
      show spec_coDrop_l0 (rowsB b) t (fun v18 => some v18) ([D.str e.1, D.sl e.2.rowsS] :: rowsB l) (rowsB acc) = _
      simp only [spec_coDrop_l0, cell_B]
      by_cases h : e.1.data.toList = t.data.toList
      · have hh : hasN t e = true := decide_eq_true h
        have hd : dropB t (e :: l) = dropB t l := by unfold dropB; rw [List.filter_cons, hh]; rfl
        rw [if_neg (by rw [ByteArray.toList_eq, ByteArray.toList_eq, h]; simp), ih acc (by omega), hd]
      · rw [if_pos (by rw [ByteArray.toList_eq, ByteArray.toList_eq]; simpa using h), if_pos (by rw [rowsB_len]; simp only [cap]; omega)]
        have := ih (acc ++ [e]) (by simp; omega)
        rw [show rowsB (acc ++ [e]) = rowsB acc ++ [[D.str e.1, D.sl e.2.rowsS]] by simp [rowsB]] at this
        have hh : hasN t e = false := decide_eq_false h
        have hd : dropB t (e :: l) = e :: dropB t l := by unfold dropB; rw [List.filter_cons, hh]; rfl
        rw [this, hd, List.append_assoc]
        rfl
  unfold spec_coDrop
  rw [if_pos (by rw [rowsB_len]; simp only [cap]; omega)]
  have := key b [] (by simp; omega)
  simpa [rowsB] using this
theorem coOwn_eq {k : Nat} {b : Bk} (hk : sizeB b < k) (hc : sizeB b ≤ 1000000000) : spec_coOwn k (rowsB b) = some (rowsB b) := by
  have h3 : cap = 1099511627776 := rfl
  have hb := lenB_size b
  have key : ∀ (l acc : Bk), (∀ e ∈ l, e.2.sizeS < k ∧ e.2.sizeS ≤ cap) → acc.length + l.length ≤ 1000000000 → spec_coOwn_l0 k (rowsB b) (fun v19 => some v19) (rowsB l) (rowsB acc) = some (rowsB (acc ++ l)) := by
    intro l
    induction l with
    | nil => intro acc _ _; simp [rowsB, spec_coOwn_l0]
    | cons e l ih =>
      intro acc hm ha
      obtain ⟨q1, q2⟩ := hm e (by simp)
      simp only [List.length_cons] at ha
      show spec_coOwn_l0 k (rowsB b) (fun v19 => some v19) ([D.str e.1, D.sl e.2.rowsS] :: rowsB l) (rowsB acc) = _
      simp only [spec_coOwn_l0, cell_B]
      rw [sown_eq k e.2 q1 q2, Option.bind_some, if_pos (by rw [rowsB_len]; omega)]
      have := ih (acc ++ [e]) (fun x hx => hm x (by simp [hx])) (by simp; omega)
      rw [show rowsB (acc ++ [e]) = rowsB acc ++ [[D.str e.1, D.sl e.2.rowsS]] by simp [rowsB]] at this
      rw [this]
      simp
  unfold spec_coOwn
  rw [if_pos (by rw [rowsB_len]; omega)]
  have := key b [] (fun e he => by have := memB_size he; omega) (by simp; omega)
  simpa [rowsB] using this
theorem cloneBook_eq {k : Nat} {b : Bk} (hk : sizeB b < k) (hc : sizeB b ≤ 1000000000) : impl_cloneBook k (rowsB b) = some (rowsB b) := by
  have h3 : cap = 1099511627776 := rfl
  have hb := lenB_size b
  have key : ∀ (l acc : Bk), (∀ e ∈ l, e.2.sizeS < k ∧ e.2.sizeS ≤ cap) → acc.length + l.length ≤ 1000000000 → impl_cloneBook_l0 k (rowsB b) (fun v19 => some v19) (rowsB l) (rowsB acc) = some (rowsB (acc ++ l)) := by
    intro l
    induction l with
    | nil => intro acc _ _; simp [rowsB, impl_cloneBook_l0]
    | cons e l ih =>
      intro acc hm ha
      obtain ⟨q1, q2⟩ := hm e (by simp)
      simp only [List.length_cons] at ha
      show impl_cloneBook_l0 k (rowsB b) (fun v19 => some v19) ([D.str e.1, D.sl e.2.rowsS] :: rowsB l) (rowsB acc) = _
      simp only [impl_cloneBook_l0, cell_B]
      rw [sclone_eq k e.2 q1 q2, Option.bind_some, if_pos (by rw [rowsB_len]; omega)]
      have := ih (acc ++ [e]) (fun x hx => hm x (by simp [hx])) (by simp; omega)
      rw [show rowsB (acc ++ [e]) = rowsB acc ++ [[D.str e.1, D.sl e.2.rowsS]] by simp [rowsB]] at this
      rw [this]
      simp
  unfold impl_cloneBook
  rw [if_pos (by rw [rowsB_len]; omega)]
  have := key b [] (fun e he => by have := memB_size he; omega) (by simp; omega)
  simpa [rowsB] using this
theorem at_eq {k : Nat} {b : Bk} {t : ByteArray} (hk : sizeB b + 300 < k) (hc : sizeB b ≤ 1000000000) : ∃ (i : Nat) (f : Bool), slices_BinarySearchFunc__Notebook_at_1 k (rowsB b) t = some ((i : Int), f) ∧ i ≤ b.length ∧ (f = true → ∃ e, b[i]? = some e ∧ cB e.1 t = 0) ∧ (f = false → ∀ e, b[i]? = some e → ¬ cB e.1 t = 0) ∧
    (rises b → (∀ j x, j < i → b[j]? = some x → cB x.1 t < 0) ∧ (∀ j x, i ≤ j → b[j]? = some x → ¬ cB x.1 t < 0)) := by
  have h3 : cap = 1099511627776 := rfl
  have hl := lenB_size b
  obtain ⟨i, i1, i2, i3, i4⟩ := search_ok (b := b) (t := t) (K := fun v67 => slices_BinarySearchFunc__Notebook_at_1_p4 (rowsB b) t v67) (by omega) k 0 b.length (by omega) (by omega) (by omega)
  have hr : rises b → (∀ j x, j < i → b[j]? = some x → cB x.1 t < 0) ∧ (∀ j x, i ≤ j → b[j]? = some x → ¬ cB x.1 t < 0) := fun hr => i4 hr (fun j x hj _ => by omega) (fun j x hj hx => by rw [List.getElem?_eq_none hj] at hx; cases hx)
  unfold slices_BinarySearchFunc__Notebook_at_1
  rw [rowsB_len]
  refine (show ∀ {x : Option (Int × Bool)}, slices_BinarySearchFunc__Notebook_at_1_l0 (rowsB b) t (fun v67 => slices_BinarySearchFunc__Notebook_at_1_p4 (rowsB b) t v67) k 0 (b.length : Int) = x → (∃ (i : Nat) (f : Bool), x = some ((i : Int), f) ∧ i ≤ b.length ∧ (f = true → ∃ e, b[i]? = some e ∧ cB e.1 t = 0) ∧ (f = false → ∀ e, b[i]? = some e → ¬ cB e.1 t = 0) ∧ (rises b → (∀ j x, j < i → b[j]? = some x → cB x.1 t < 0) ∧ (∀ j x, i ≤ j → b[j]? = some x → ¬ cB x.1 t < 0))) → _ from fun h q => by rw [h]; exact q) i3 ?_
  unfold slices_BinarySearchFunc__Notebook_at_1_p4
  rw [rowsB_len]
  by_cases hi : i < b.length
  · rw [if_pos (by omega)]
    have hgi : b[i]? = some (b[i]'hi) := List.getElem?_eq_getElem hi
    generalize b[i]'hi = e at hgi
    rw [row_B (b := b) (i := (i : Int)) rfl hgi]
    have hcmp : impl_Notebook_at_1 e.1 e.2.rowsS t = some (cB e.1 t) := rfl
    rw [hcmp, Option.bind_some]
    by_cases hz : cB e.1 t = 0
    · rw [if_pos hz]
      exact ⟨i, true, rfl, i2, fun _ => ⟨e, hgi, hz⟩, fun h => (by cases h), hr⟩
    · rw [if_neg hz]
      exact ⟨i, false, rfl, i2, fun h => (by cases h), fun _ e' he' => (by rw [hgi] at he'; injection he' with he'; subst he'; exact hz), hr⟩
  · rw [if_neg (by omega)]
    exact ⟨i, false, rfl, i2, fun h => (by cases h), fun _ e' he' => (by rw [List.getElem?_eq_none (by omega)] at he'; cases he'), hr⟩
theorem erase_map {α β : Type} (f : α → β) : ∀ (l : List α) (i : Nat), (l.map f).eraseIdx i = (l.eraseIdx i).map f
  | [], _ => by simp
  | _ :: _, 0 => rfl
  | x :: l, i + 1 => by simp only [List.map_cons, List.eraseIdx_cons_succ, erase_map f l i]
theorem drop_erase {T : List UInt8} : ∀ (b : Bk) (i : Nat) (e : ByteArray × S), b[i]? = some e → e.1.data.toList = T → (∀ j x, j ≠ i → b[j]? = some x → x.1.data.toList ≠ T) → b.filter (fun x => !decide (x.1.data.toList = T)) = b.eraseIdx i
  | [], _, _, h, _, _ => by simp at h
  | x :: l, 0, e, h, he, ho => by
    simp only [List.getElem?_cons_zero, Option.some.injEq] at h
    subst h
    rw [List.filter_cons, if_neg (by simp [he]), List.eraseIdx_cons_zero]
    refine List.filter_eq_self.2 fun y hy => ?_
    obtain ⟨j, hj⟩ := List.getElem?_of_mem hy
    have := ho (j + 1) y (by omega) (by simpa using hj)
    simpa using this
  | x :: l, i + 1, e, h, he, ho => by
    rw [List.getElem?_cons_succ] at h
    have h0 := ho 0 x (by omega) rfl
    rw [List.filter_cons, if_pos (by simpa using h0), List.eraseIdx_cons_succ, drop_erase l i e h he fun j y hj hy => ho (j + 1) y (by omega) (by simpa using hy)]
def dropR (k : Nat) (b : Bk) (t : ByteArray) : Bk × Bool := if goodB k b = true then (match getB t b with | some _ => (dropB t b, true) | none => ([], false)) else ([], false)
theorem spec_drop {k : Nat} {b : Bk} {t : ByteArray} (hk : sizeB b + 300 < k) (hc : sizeB b ≤ 1000000000) : spec_DropEntry k (rowsB b) t = some (rowsB (dropR k b t).1, (dropR k b t).2) := by
  have h3 : cap = 1099511627776 := rfl
  have hl := lenB_size b
  have hg := (good_both hk hc).2
  have hf := sizeB_filter (fun e => !hasN t e) b
  unfold spec_DropEntry dropR
  refine bind_of (coGet_eq (R := []) (by omega)) ?_
  cases hx : getB t b with
  | none =>
    refine ite_neg (by simp) ?_
    refine bind_of hg ?_
    cases goodB k b <;> rfl
  | some x =>
    refine ite_pos rfl ?_
    refine bind_of hg ?_
    cases goodB k b with
    | false => rfl
    | true =>
      refine ite_pos rfl ?_
      refine bind_of (coDrop_eq (by omega)) ?_
      refine bind_of (coOwn_eq (b := dropB t b) (by unfold dropB; omega) (by unfold dropB; omega)) ?_
      rfl
theorem impl_drop {k : Nat} {b : Bk} {t : ByteArray} (hk : sizeB b + 300 < k) (hc : sizeB b ≤ 1000000000) : impl_DropEntry k (rowsB b) t = some (rowsB (dropR k b t).1, (dropR k b t).2) := by
  have h3 : cap = 1099511627776 := rfl
  have hl := lenB_size b
  have hg := (good_both hk hc).1
  obtain ⟨i, f, hf, hi, f1, f2, f3⟩ := at_eq (k := k) (b := b) (t := t) hk hc
  have cz : ∀ x : ByteArray, cB x t = 0 ↔ x.data.toList = t.data.toList := fun x => cb_zero
  have hget : goodB k b = true → getB t b = match b[i]? with | some e => (if cB e.1 t = 0 then some e.2 else none) | none => none := by
    intro hgood
    simp only [goodB, Bool.and_eq_true] at hgood
    have hr := ok_rises hgood.1
    obtain ⟨q1, q2⟩ := f3 hr
    exact get_at hr q1 q2
  unfold impl_DropEntry impl_Notebook_at dropR
  rw [hf, Option.bind_some]
  cases f with
  | false =>
    simp only [Bool.false_eq_true, if_false, Option.bind_some]
    rw [hg, Option.bind_some]
    cases hgood : goodB k b with
    | false => rfl
    | true =>
      simp only [if_true]
      rw [hget hgood]
      cases hi : b[i]? with
      | none => rfl
      | some e => simp only; rw [if_neg (f2 rfl e hi)]; rfl
  | true =>
    obtain ⟨e, he, hz⟩ := f1 rfl
    have hlt := (List.getElem?_eq_some_iff.1 he).1
    simp only [if_true, Option.bind_some]
    rw [hg, Option.bind_some]
    cases hgood : goodB k b with
    | false => rfl
    | true =>
      simp only [if_true]
      rw [hget hgood, he]
      simp only [hz, if_true]
      rw [cloneBook_eq (by omega) hc, Option.bind_some]
      have hrise : rises b := by
        simp only [goodB, Bool.and_eq_true] at hgood
        exact ok_rises hgood.1
      have hdel : lib_Delete (rowsB b) (i : Int) (IntKind.i64.wrap ((i : Int) + 1)) = some (rowsB (dropB t b)) := by
        unfold lib_Delete
        rw [wrap_in (by omega) (by omega), if_pos ⟨⟨by omega, by rw [rowsB_len]; omega⟩, rfl, by simp [rowsB]⟩, Int.toNat_natCast]
        congr 1
        have hd : dropB t b = b.eraseIdx i := drop_erase b i e he ((cz e.1).1 hz) fun j x hj hx q => by
          have hq := (cz x.1).2 q
          rcases Nat.lt_or_gt_of_ne hj with g | g
          · have := (f3 hrise).1 j x g hx
            omega
          · have h1 := hrise i j e x g he hx
            have e1 := (cz e.1).1 hz
            unfold cB at h1
            rw [e1, q] at h1
            have := (cb_zero (x := t.data.toList) (y := t.data.toList)).2 rfl
            omega
        rw [hd]
        exact erase_map _ b i
      rw [hdel]
      rfl
theorem dropR_size {k : Nat} {b : Bk} {t : ByteArray} : sizeB (dropR k b t).1 ≤ sizeB b := by
  unfold dropR
  split
  · split
    · exact sizeB_filter _ b
    · simp [sizeB]
  · simp [sizeB]
end Go.Proofs.Try

namespace Go.Proofs.Try
open Go Go.AX S
theorem FnExactDropEntry_pure {b : Bk} {t : ByteArray} (fb : fitB b) (lb : (b.lenN : Int) ≤ 9223372036854775807) : laws_FnExactDropEntry (b.sizeN + 6000000) b.rowsN t = some true := by
  have h3 : cap = 1099511627776 := rfl
  obtain ⟨k, hk⟩ : ∃ k : Nat, k = b.sizeN + 6000000 := ⟨_, rfl⟩
  rw [← hk]
  unfold laws_FnExactDropEntry
  by_cases gT : (1048576 : Int) < (t.size : Int)
  · exact if_pos gT
  refine ite_neg gT ?_
  obtain ⟨r1, s1, u1, v1, q1⟩ := szN_eq k b 1048576 (by omega) fb lb (by omega) (by omega)
  refine bind_of s1 ?_
  unfold laws_FnExactDropEntry_p4
  by_cases g1 : r1 < 0
  · exact if_pos g1
  have hb := q1 (by omega)
  refine ite_neg g1 ?_
  have hs : sizeB b = b.sizeN := rfl
  have ht := toN_eq k b (by omega) (by omega)
  have ei := impl_drop (k := k) (b := b) (t := t) (by omega) (by omega)
  have es := spec_drop (k := k) (b := b) (t := t) (by omega) (by omega)
  have hz := dropR_size (k := k) (b := b) (t := t)
  generalize dropR k b t = R at ei es hz
  obtain ⟨r, ok⟩ := R
  simp only at ei es hz
  have er := eqB_refl k r (by omega) (by omega)
  have eb := eqN_refl k b (by omega) (by omega)
  have mb := markD_eq k b (by omega) (by omega)
  have mr := markD_eq k r (by omega) (by omega)
  have hr := heldD_eq k r (by omega) (by omega)
  have gb := endB_ge b 1
  have gr := endB_ge r 1
  have lb2 : (rowsB (mkB k b 1)).length = (rowsB b).length := by rw [rowsB_len, rowsB_len, mkB_len]
  have lr2 : (rowsB (mkB k r 1)).length = (rowsB r).length := by rw [rowsB_len, rowsB_len, mkB_len]
  refine bind_of ht ?_
  refine bind_of es ?_
  cases ok with
  | true =>
    refine ite_pos rfl ?_
    unfold laws_FnExactDropEntry_p6
    refine cond_tt ?_
    refine bind_of ht ?_
    unfold laws_FnExactDropEntry_p7
    refine cond_tt ?_
    refine bind_of ei ?_
    refine ite_pos rfl ?_
    unfold laws_FnExactDropEntry_p8
    refine cond_tt ?_
    refine cond_tt ?_
    refine bind_of er ?_
    refine ite_pos rfl ?_
    unfold laws_FnExactDropEntry_p9
    refine cond_tt ?_
    refine cond_tt ?_
    refine bind_of ht ?_
    refine bind_of eb ?_
    refine ite_pos rfl ?_
    unfold laws_FnExactDropEntry_p10
    refine cond_tt ?_
    refine cond_tt ?_
    refine bind_of mb ?_
    refine ite_pos lb2 ?_
    unfold laws_FnExactDropEntry_p12
    refine cond_tt ?_
    refine cond_tt ?_
    refine ite_neg (show ¬ endB b 1 < 0 by omega) ?_
    refine bind_of er ?_
    refine ite_pos rfl ?_
    unfold laws_FnExactDropEntry_p13
    refine cond_tt ?_
    refine bind_of mr ?_
    refine ite_pos lr2 ?_
    unfold laws_FnExactDropEntry_p15
    refine cond_tt ?_
    refine bind_of hr ?_
    unfold laws_FnExactDropEntry_p17
    refine cond_tt ?_
    refine ite_neg (show ¬ endB r 1 < 0 by omega) ?_
    refine ite_pos rfl ?_
    refine bind_of ht ?_
    refine bind_of ei ?_
    refine ite_pos rfl ?_
    unfold laws_FnExactDropEntry_p20
    refine cond_tt ?_
    refine cond_tt ?_
    refine bind_of er ?_
    refine ite_pos rfl ?_
    unfold laws_FnExactDropEntry_p21
    refine bind_of hr ?_
    unfold laws_FnExactDropEntry_p23
    refine ite_neg (show ¬ endB r 1 < 0 by omega) ?_
    exact ite_pos rfl rfl
  | false =>
    refine ite_neg Bool.false_ne_true ?_
    unfold laws_FnExactDropEntry_p6
    refine cond_ff ?_
    refine bind_of ht ?_
    unfold laws_FnExactDropEntry_p7
    refine cond_ff ?_
    refine bind_of ei ?_
    refine ite_neg Bool.false_ne_true ?_
    unfold laws_FnExactDropEntry_p8
    refine cond_ff ?_
    refine cond_ff ?_
    refine bind_of er ?_
    refine ite_pos rfl ?_
    unfold laws_FnExactDropEntry_p9
    refine cond_ff ?_
    refine cond_ff ?_
    refine bind_of ht ?_
    refine bind_of eb ?_
    refine ite_pos rfl ?_
    unfold laws_FnExactDropEntry_p10
    refine cond_ff ?_
    refine cond_ff ?_
    refine bind_of mb ?_
    refine ite_pos lb2 ?_
    unfold laws_FnExactDropEntry_p12
    refine cond_ff ?_
    refine cond_ff ?_
    refine ite_neg (show ¬ endB b 1 < 0 by omega) ?_
    refine bind_of er ?_
    refine ite_pos rfl ?_
    unfold laws_FnExactDropEntry_p13
    refine cond_ff ?_
    refine bind_of mr ?_
    refine ite_pos lr2 ?_
    unfold laws_FnExactDropEntry_p15
    refine cond_ff ?_
    refine bind_of hr ?_
    unfold laws_FnExactDropEntry_p17
    refine cond_ff ?_
    refine ite_neg (show ¬ endB r 1 < 0 by omega) ?_
    refine ite_pos rfl ?_
    refine bind_of ht ?_
    refine bind_of ei ?_
    refine ite_neg Bool.false_ne_true ?_
    unfold laws_FnExactDropEntry_p20
    refine cond_ff ?_
    refine cond_ff ?_
    refine bind_of er ?_
    refine ite_pos rfl ?_
    unfold laws_FnExactDropEntry_p21
    refine bind_of hr ?_
    unfold laws_FnExactDropEntry_p23
    refine ite_neg (show ¬ endB r 1 < 0 by omega) ?_
    exact ite_pos rfl rfl
end Go.Proofs.Try

namespace Go.Proofs.Try
open Go Go.AX
def structTs (P : Program) (t : TypeId) : Option (List TypeId) := match P.underlying t with
  | some (.struct fs) => some (fs.toList.map fun f => f.type)
  | _ => none
def sliceT (P : Program) (t : TypeId) : Option TypeId := match P.underlying t with
  | some (.slice e) => some e
  | _ => none
def intT? (P : Program) (t : TypeId) : Option IntKind := match P.underlying t with
  | some (.int k) => some k
  | _ => none
def HasTs (H : TypeId → List D → Prop) : List TypeId → List D → Prop
  | [], ds => ds = []
  | t :: l, ds => ∃ a b, ds = a ++ b ∧ H t a ∧ HasTs H l b
theorem hasTs_of {H : TypeId → List D → Prop} : ∀ {l : List Field} {ds : List D}, HasFs H l ds → HasTs H (l.map fun f => f.type) ds
  | [], _, h => h
  | _ :: _, _, ⟨a, b, e, h1, h2⟩ => ⟨a, b, e, h1, hasTs_of h2⟩
theorem has_struct {P : Program} {n : Nat} {t : TypeId} {l : List TypeId} {ds : List D} (h : Has P (n + 1) t ds) (e : structTs P t = some l) : HasTs (Has P n) l ds := by
  unfold structTs at e
  simp only [Has] at h
  split at e
  · rename_i fs hu
    rw [hu] at h
    cases e
    exact hasTs_of h
  · cases e
theorem has_slice {P : Program} {n : Nat} {t u : TypeId} {ds : List D} (h : Has P (n + 1) t ds) (e : sliceT P t = some u) : ∃ es, ds = [.sl es] ∧ es.length ≤ maxLen ∧ ∀ r ∈ es, Has P n u r := by
  unfold sliceT at e
  simp only [Has] at h
  split at e
  · rename_i v hu
    rw [hu] at h
    cases e
    exact h
  · cases e
theorem has_int {P : Program} {n : Nat} {t : TypeId} {k : IntKind} {ds : List D} (h : Has P (n + 1) t ds) (e : intT? P t = some k) : ∃ i, ds = [.int k i] ∧ (Lit.int k i).wf = true := by
  unfold intT? at e
  simp only [Has] at h
  split at e
  · rename_i v hu
    rw [hu] at h
    cases e
    exact h
  · cases e
theorem has_bool {P : Program} {n : Nat} {t : TypeId} {ds : List D} (h : Has P (n + 1) t ds) (e : (match P.underlying t with | some .bool => true | _ => false) = true) : ∃ b, ds = [.bool b] := by
  simp only [Has] at h
  split at e
  · rename_i hu
    rw [hu] at h
    exact h
  · cases e
theorem has_str {P : Program} {n : Nat} {t : TypeId} {ds : List D} (h : Has P (n + 1) t ds) (e : (match P.underlying t with | some .string => true | _ => false) = true) : ∃ b, ds = [.str b] ∧ b.size ≤ maxLen := by
  simp only [Has] at h
  split at e
  · rename_i hu
    rw [hu] at h
    exact h
  · cases e
/-- Bytes. -/
def bytesOf (x : Rw) : Prop := ∀ r ∈ x, ∃ b : Int, r = [.int .u8 b] ∧ 0 ≤ b ∧ b < 256
theorem has_bytes {P : Program} {n : Nat} {t u : TypeId} {ds : List D} (h : Has P n t ds) (e : sliceT P t = some u) (e2 : intT? P u = some .u8) : ∃ es, ds = [.sl es] ∧ bytesOf es := by
  cases n with
  | zero => exact h.elim
  | succ n =>
    obtain ⟨es, rfl, _, hr⟩ := has_slice h e
    refine ⟨es, rfl, fun r hm => ?_⟩
    have hh := hr r hm
    cases n with
    | zero => exact hh.elim
    | succ n =>
      obtain ⟨i, rfl, hw⟩ := has_int hh e2
      have e1 : IntKind.u8.min = 0 := by decide
      have e2 : IntKind.u8.max = 255 := by decide
      simp only [Lit.wf, e1, e2, Bool.and_eq_true, decide_eq_true_eq] at hw
      exact ⟨i, rfl, by omega, by omega⟩
theorem argA_agg {P : Program} {t : TypeId} (e : aggT P t = true) (ds : List D) : argA P t ds = .agg (ds.map .d) := by unfold argA; rw [e]
theorem argA_one {P : Program} {t : TypeId} (e : aggT P t = false) (ds : List D) : argA P t ds = .d (ds.headD (.bool false)) := by unfold argA; rw [e]
theorem has_int1 {P : Program} {n : Nat} {t : TypeId} {k : IntKind} {ds : List D} (h : Has P n t ds) (e : intT? P t = some k) : ∃ i, ds = [.int k i] ∧ (Lit.int k i).wf = true := by
  cases n with
  | zero => exact h.elim
  | succ n => exact has_int h e
end Go.Proofs.Try

namespace Go.Proofs.Try
open Go Go.AX
set_option maxRecDepth 100000 in
theorem sur_has (n : Nat) : ∀ ds, Has prog n 174 ds → ∃ t : S, ds = [.sl (S.rowsS t)] ∧ fitS t ∧ (S.lenS t : Int) ≤ 9223372036854775807 := by
  have eT : structTs prog 174 = some [172] := by kernel_rfl
  have eL : sliceT prog 172 = some 208 := by kernel_rfl
  have eE : structTs prog 208 = some [174, 206] := by kernel_rfl
  have eF : structTs prog 206 = some [3, 3] := by kernel_rfl
  have e3 : intT? prog 3 = some .i64 := by kernel_rfl
  have em : maxLen = 9223372036854775807 := rfl
  induction n using Nat.strongRecOn with
  | ind n ih =>
    intro ds h
    cases n with
    | zero => exact h.elim
    | succ n =>
      obtain ⟨a, b, rfl, h1, h2⟩ := has_struct h eT
      have h2 : b = [] := h2
      subst h2
      cases n with
      | zero => exact h1.elim
      | succ n =>
        obtain ⟨es, rfl, hl, hr⟩ := has_slice h1 eL
        have key : ∀ es : List (List D), (∀ r ∈ es, Has prog n 208 r) → ∃ t : S, es = S.rowsS t ∧ fitS t := by
          intro es
          induction es with
          | nil => intro _; exact ⟨S.nil, rfl, trivial⟩
          | cons r es ihs =>
            intro hr
            obtain ⟨t, rfl, ht⟩ := ihs fun q hq => hr q (List.mem_cons_of_mem _ hq)
            have hrr := hr r List.mem_cons_self
            cases n with
            | zero => exact hrr.elim
            | succ n =>
              obtain ⟨a, b, rfl, q1, q2⟩ := has_struct hrr eE
              obtain ⟨b1, b2, rfl, q3, q4⟩ := q2
              have q4 : b2 = [] := q4
              subst q4
              obtain ⟨e, rfl, f1, f2⟩ := ih n (by omega) a q1
              cases n with
              | zero => exact q1.elim
              | succ n =>
              obtain ⟨c1, c2, rfl, p1, p2⟩ := has_struct q3 eF
              obtain ⟨c3, c4, rfl, p3, p4⟩ := p2
              have p4 : c4 = [] := p4
              subst p4
              cases n with
              | zero => exact p1.elim
              | succ n =>
              obtain ⟨i, rfl, wi⟩ := has_int p1 e3
              obtain ⟨j, rfl, _⟩ := has_int p3 e3
              have m1 : IntKind.i64.min = -9223372036854775808 := by decide
              have m2 : IntKind.i64.max = 9223372036854775807 := by decide
              simp only [Lit.wf, m1, m2, Bool.and_eq_true, decide_eq_true_eq] at wi
              exact ⟨S.cons e i j t, rfl, f1, f2, ht, wi.1, wi.2⟩
        obtain ⟨t, rfl, ht⟩ := key es hr
        refine ⟨t, rfl, ht, ?_⟩
        rw [S.rowsS_len] at hl
        omega
set_option maxRecDepth 100000 in
theorem book_has (n : Nat) : ∀ ds, Has prog n 67 ds → ∃ t : Bk, ds = [.sl (Bk.rowsN t)] ∧ fitB t ∧ (Bk.lenN t : Int) ≤ 9223372036854775807 := by
  have eT : structTs prog 67 = some [65] := by kernel_rfl
  have eL : sliceT prog 65 = some 176 := by kernel_rfl
  have eE : structTs prog 176 = some [9, 174] := by kernel_rfl
  have em : maxLen = 9223372036854775807 := rfl
  intro ds h
  cases n with
  | zero => exact h.elim
  | succ n =>
    obtain ⟨a, b, rfl, h1, h2⟩ := has_struct h eT
    have h2 : b = [] := h2
    subst h2
    cases n with
    | zero => exact h1.elim
    | succ n =>
      obtain ⟨es, rfl, hl, hr⟩ := has_slice h1 eL
      have key : ∀ es : List (List D), (∀ r ∈ es, Has prog n 176 r) → ∃ t : Bk, es = Bk.rowsN t ∧ fitB t := by
        intro es
        induction es with
        | nil => intro _; exact ⟨[], rfl, fun e he => by cases he⟩
        | cons r es ihs =>
          intro hr
          obtain ⟨t, rfl, ht⟩ := ihs fun q hq => hr q (List.mem_cons_of_mem _ hq)
          have hrr := hr r List.mem_cons_self
          cases n with
          | zero => exact hrr.elim
          | succ n =>
            obtain ⟨a, b, rfl, q1, q2⟩ := has_struct hrr eE
            obtain ⟨b1, b2, rfl, q3, q4⟩ := q2
            have q4 : b2 = [] := q4
            subst q4
            obtain ⟨x, rfl, f1, f2⟩ := sur_has n b1 q3
            cases n with
            | zero => exact q1.elim
            | succ n =>
            obtain ⟨s, rfl, ls⟩ := has_str q1 (by kernel_rfl)
            refine ⟨(s, x) :: t, rfl, fun e he => ?_⟩
            rcases List.mem_cons.1 he with rfl | he
            · exact ⟨f1, f2, ls⟩
            · exact ht e he
      obtain ⟨t, rfl, ht⟩ := key es hr
      refine ⟨t, rfl, ht, ?_⟩
      rw [rowsB_len] at hl
      exact Int.ofNat_le.2 hl
set_option maxRecDepth 100000 in
theorem FnExactDropEntry_true {n0 n1 : Nat} {c0 c1 : List D} (w0 : Has prog n0 67 c0) (w1 : Has prog n1 9 c1) : Ct prog 6 [argA prog 67 c0, argA prog 9 c1] ⟨[], []⟩ (.d (.bool true)) ⟨[], []⟩ := by
  obtain ⟨b, rfl, fb, lb⟩ := book_has _ _ w0
  cases n1 with
  | zero => exact w1.elim
  | succ n1 =>
  obtain ⟨t, rfl, lt⟩ := has_str w1 (by kernel_rfl)
  rw [argA_agg (t := 67) (by kernel_rfl), argA_one (t := 9) (by kernel_rfl)]
  exact laws_FnExactDropEntry_ct (FnExactDropEntry_pure fb lb)
end Go.Proofs.Try
