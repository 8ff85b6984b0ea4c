/- What the printed functions compute: plain data. -/
import Derived.Test.YtmihoieaiojbhaaFnPolynomialsP0
set_option linter.unusedVariables false
set_option linter.unusedSimpArgs false
namespace Go.Proofs.Try
open Go Go.AX T
/-! ### copies -/
def addT (a b : T) : T × Bool := if ordP a && ordP b then toldT (plusT a b) else (nil, false)
def cmpO (a b : T) : Int × Bool := if ordP a && ordP b then (cmpT a b, true) else (0, false)
/-! ### the same -/
theorem addT_ok {a b : T} (h : (addT a b).2 = true) : ordP a = true ∧ ordP b = true ∧ ordP (plusT a b) = true ∧ (addT a b).1 = plusT a b := by
  unfold addT toldT at *
  cases ha : ordP a <;> cases hb : ordP b <;> simp only [ha, hb, Bool.and_self, Bool.and_true, Bool.and_false, if_true] at h ⊢ <;> try (simp at h)
  cases hs : ordP (plusT a b) <;> simp [hs] at h ⊢
theorem addT_of {a b : T} (ha : ordP a = true) (hb : ordP b = true) (hs : ordP (plusT a b) = true) : addT a b = (plusT a b, true) := by
  unfold addT toldT
  rw [ha, hb, Bool.and_self, if_pos rfl, if_pos hs]
end Go.Proofs.Try

namespace Go.Proofs.Try
open Go Go.AX T
theorem meetT_size (e : T) (c : Int) (t : T) : (meetT e c t).size ≤ t.size + e.size + 1 := by
  induction t with
  | nil => simp [meetT, size]
  | cons x d l _ ih =>
    simp only [meetT]
    split
    · simp only [size]; omega
    · split <;> simp only [size] <;> omega
theorem joinT_size (a b : T) : (joinT a b).size ≤ a.size + b.size := by
  induction b generalizing a with
  | nil => simp [joinT, size]
  | cons e c l _ ih =>
    have := ih (meetT e c a)
    have := meetT_size e c a
    simp only [joinT, size]; omega
/-! ### the reference -/
theorem nrows_snoc (l e : T) (c : Int) : l.rows ++ [[D.sl e.rows, D.int .i64 c]] = (app l (cons e c nil)).rows := by rw [rows_app]; rfl
theorem nsnoc_len (l e : T) (c : Int) : (app l (cons e c nil)).len = l.len + 1 := by rw [len_app]; rfl
/-! ### impl -/
def aboveT (e : T) : T → Prop
  | nil => True
  | cons x _ l => cmpT e x = 1 ∧ aboveT e l
theorem above_transT {e f : T} (h : cmpT e f = 1) : ∀ {r : T}, aboveT f r → aboveT e r
  | nil, _ => trivial
  | cons _ _ _, hr => ⟨gt_trans h hr.1, above_transT h hr.2⟩
theorem falls_above : ∀ {l e : T}, falls (some e) l → aboveT e l
  | nil, _, _ => trivial
  | cons x c l, e, h => by
    have h1 := h.1 e rfl
    have := cmpT_range e x
    exact ⟨by omega, above_transT (by omega) (falls_above h.2)⟩
theorem join_above {e : T} {c : Int} : ∀ (r l : T), aboveT e r → joinT (cons e c l) r = cons e c (joinT l r)
  | nil, _, _ => rfl
  | cons f d r, l, h => by
    simp only [joinT, meetT]
    rw [if_pos h.1, join_above r _ h.2]
theorem join_nil : ∀ (b : T), falls none b → joinT nil b = b
  | nil, _ => rfl
  | cons f d r, h => by
    have h2 := falls_above h.2
    simp only [joinT, meetT]
    rw [join_above r nil h2, join_nil r (falls_none h.2)]
theorem falls_dropT {t : T} : ∀ {p : Option T}, falls p t → ∀ {i : Nat}, falls none (drop t i) := by
  induction t with
  | nil => intro p _ i; simp [falls]
  | cons e c l _ ih => intro p h i; cases i with
    | zero => exact ⟨fun _ h => (by cases h), h.2⟩
    | succ i => exact ih h.2
theorem sm_dropT {B : Int} {t : T} (h : sm B t) : ∀ {i : Nat}, sm B (drop t i) := by
  induction t with
  | nil => intro i; simp [sm]
  | cons e c l _ ih => intro i; cases i with
    | zero => simpa using h
    | succ i => exact ih h.2.2
end Go.Proofs.Try

namespace Go.Proofs.Try
open Go Go.AX T
end Go.Proofs.Try

namespace Go.Proofs.Try
open Go Go.AX T
def natT (a b : T) : T × Bool := if ordP a && ordP b then toldT (joinT a b) else (nil, false)
/-- A term times all terms, put in their places. -/
def rowX (e : T) (c : Int) : T → T → T
  | acc, nil => acc
  | acc, cons f d r => rowX e c (meetT (joinT e f) (w (c * d)) acc) r
def crossG (b : T) : T → T → T
  | acc, nil => acc
  | acc, cons e c l => crossG b (rowX e c acc b) l
def crossT (a b : T) : T := crossG b nil a
/-- Terms and exponents that are right and small. -/
def rtL : T → Prop
  | nil => True
  | cons e c l => (falls none e ∧ pos e ∧ sm 1000000 e ∧ e.size ≤ 30) ∧ (1 ≤ c ∧ c ≤ 1000000) ∧ rtL l
theorem form_rtL {p : Option T} {t : T} (h : formA p t = true) (hz : t.size ≤ 30) : rtL t := by
  induction t generalizing p with
  | nil => trivial
  | cons e c l _ ih =>
    simp only [size] at hz
    simp only [formA, Bool.and_eq_true, decide_eq_true_eq] at h
    exact ⟨⟨form_falls h.1.1.2, form_pos h.1.1.2, form_sm h.1.1.2, by omega⟩, h.1.1.1, ih h.2 (by omega)⟩
theorem join_exp {e f : T} (he : falls none e ∧ pos e ∧ sm 1000000 e ∧ e.size ≤ 30) (hf : falls none f ∧ pos f ∧ sm 1000000 f ∧ f.size ≤ 30) : falls none (joinT e f) ∧ pos (joinT e f) ∧ sm 1000000000000 (joinT e f) ∧ (joinT e f).size ≤ 60 := by
  have hl := f.len_size
  obtain ⟨q1, q2, q3, _⟩ := join_all f e 1000000 he.2.2.1 hf.2.2.1 (by omega) (by omega) (by omega) he.1 he.2.1 hf.2.1
  have := joinT_size e f
  exact ⟨q1, q2, sm_mono q3 (by omega), by omega⟩
theorem cd_in {c d : Int} (hc : 1 ≤ c ∧ c ≤ 1000000) (hd : 1 ≤ d ∧ d ≤ 1000000) : w (c * d) = c * d ∧ 1 ≤ c * d ∧ c * d ≤ 1000000000000 := by
  have h1 := mul_in (B := 1000000) (C := 1000000) (show 0 ≤ c ∧ c ≤ 1000000 by omega) (show 0 ≤ d ∧ d ≤ 1000000 by omega)
  have h2 : 1 * 1 ≤ c * d := Int.mul_le_mul hc.1 hd.1 (by omega) (by omega)
  exact ⟨wid (by omega) (by omega), by omega, by omega⟩
theorem rowX_all {e : T} {c : Int} (he : falls none e ∧ pos e ∧ sm 1000000 e ∧ e.size ≤ 30) (hc : 1 ≤ c ∧ c ≤ 1000000) : ∀ (t acc : T) (A : Int), rtL t → falls none acc → pos acc → sm A acc → 0 ≤ A → A + 1000000000000 * t.len ≤ 990000000000000 →
    falls none (rowX e c acc t) ∧ pos (rowX e c acc t) ∧ sm (A + 1000000000000 * t.len) (rowX e c acc t) ∧ (rowX e c acc t).size ≤ acc.size + 61 * t.len
  | nil, acc, A, _, fa, pa, sa, _, _ => ⟨fa, pa, sm_mono sa (by simp [len]), by simp [rowX, len]⟩
  | cons f d r, acc, A, ht, fa, pa, sa, h0, hA => by
    simp only [len] at hA
    obtain ⟨j1, j2, j3, j4⟩ := join_exp he ht.1
    obtain ⟨w1, w2, w3⟩ := cd_in hc ht.2.1
    have hm := meetT_size (joinT e f) (w (c * d)) acc
    have hw : ∀ y g l l', acc = app l (cons y g l') → w (w (c * d) + g) = w (c * d) + g := fun y g l l' hq => by
      have := sm_at sa hq
      exact wid (by omega) (by omega)
    obtain ⟨q1, q2, q3, q4⟩ := rowX_all he hc r (meetT (joinT e f) (w (c * d)) acc) (A + 1000000000000) ht.2.2 (falls_meet fa fun q hq => by cases hq) (meetT_pos pa (by omega) hw) (meetT_sm sa j3 (by omega) (by omega)) (by omega) (by omega)
    simp only [rowX, len]
    exact ⟨q1, q2, sm_mono q3 (by omega), by omega⟩
def natP (a b : T) : T × Bool := if ordP a && ordP b then toldT (crossT a b) else (nil, false)
theorem cross_ok {a b : T} (ha : ordP a = true) (hb : ordP b = true) : falls none (crossT a b) ∧ pos (crossT a b) ∧ sm 950000000000000 (crossT a b) ∧ (crossT a b).size ≤ 90000 := by
  have za := ordP_size ha
  have zb := ordP_size hb
  have la := a.len_size
  have lb := b.len_size
  have key : ∀ (t acc : T) (A : Int), rtL t → falls none acc → pos acc → sm A acc → 0 ≤ A → A + 30000000000000 * t.len ≤ 950000000000000 → acc.size + 1830 * t.len ≤ 90000 → falls none (crossG b acc t) ∧ pos (crossG b acc t) ∧ sm 950000000000000 (crossG b acc t) ∧ (crossG b acc t).size ≤ 90000 := by
    intro t
    induction t with
    | nil => intro acc A _ fa pa sa _ hA hz; exact ⟨fa, pa, sm_mono sa (by simp only [len] at hA; omega), by simp only [len] at hz; exact hz⟩
    | cons e c l _ ih =>
      intro acc A ht fa pa sa h0 hA hz
      simp only [len] at hA hz
      obtain ⟨q1, q2, q3, q4⟩ := rowX_all ht.1 ht.2.1 b acc A (form_rtL (ordP_form hb) zb) fa pa sa h0 (by omega)
      exact ih (rowX e c acc b) (A + 30000000000000) ht.2.2 q1 q2 (sm_mono q3 (by omega)) (by omega) (by omega) (by omega)
  exact key a nil 0 (form_rtL (ordP_form ha) za) trivial trivial trivial (by omega) (by omega) (by simp only [size]; omega)
end Go.Proofs.Try

namespace Go.Proofs.Try
open Go Go.AX T S
/-- Right exponents, coefficients in their range. -/
def exR : T → Prop
  | .nil => True
  | .cons e c l => formA none e = true ∧ (1 ≤ c ∧ c ≤ 1000000) ∧ exR l
theorem form_exR {p : Option T} {t : T} (h : formA p t = true) : exR t := by
  induction t generalizing p with
  | nil => trivial
  | cons e c l _ ih =>
    simp only [formA, Bool.and_eq_true, decide_eq_true_eq] at h
    exact ⟨h.1.1.2, h.1.1.1, ih h.2⟩
theorem form_posAll {p : Option T} {t : T} (h : formA p t = true) : posAll t := by
  induction t generalizing p with
  | nil => trivial
  | cons e c l ih1 ih =>
    simp only [formA, Bool.and_eq_true, decide_eq_true_eq] at h
    exact ⟨ih1 h.1.1.2, h.1.1.1.1, ih h.2⟩
theorem exR_posAll {t : T} (h : exR t) : posAll t := by
  induction t with
  | nil => trivial
  | cons e c l _ ih => exact ⟨form_posAll h.1, h.2.1.1, ih h.2.2⟩
theorem mkF_one (n : Int) : mkF n (1 * 1) = (n, 1) := by
  unfold mkF
  simp
theorem frP_one {n : Int} (h : frP n 1 = true) : -1000000 ≤ n ∧ n ≤ 1000000 := (frP_in h).2.1
/-- A term put into its place, both ways. -/
theorem put_surT {e : T} {c : Int} (he : formA none e = true) (hc : 1 ≤ c ∧ c ≤ 1000000) : ∀ (t : T) (x : S), exR t → putS (surT t) (surT e) c 1 = some x → x = surT (meetT e c t) ∧ exR (meetT e c t)
  | .nil, x, _, h => by
    simp only [surT, putS, Option.some.injEq] at h
    subst h
    exact ⟨rfl, he, hc, trivial⟩
  | .cons y d l, x, ht, h => by
    have hq := surT_cmp ht.1 he
    have hr := cmpT_range y e
    simp only [surT, putS, hq] at h
    by_cases q1 : cmpT y e = 1
    · rw [if_neg (by omega)] at h
      cases hp : putS (surT l) (surT e) c 1 with
      | none => rw [hp] at h; cases h
      | some z =>
        rw [hp] at h
        simp only [Option.map_some, Option.some.injEq] at h
        subst h
        obtain ⟨i1, i2⟩ := put_surT he hc l z ht.2.2 hp
        simp only [meetT, if_pos q1]
        exact ⟨by rw [i1]; rfl, ht.1, ht.2.1, i2⟩
    · by_cases q0 : cmpT y e = 0
      · have e1 : addF d 1 c 1 = (d + c, 1) := by unfold addF; rw [Int.mul_one, Int.mul_one, mkF_one]
        rw [if_pos (by omega), if_pos q0, e1] at h
        simp only at h
        by_cases g : frP (d + c) 1 = true
        · have hb := frP_one g
          have h1 := ht.2.1
          rw [if_pos g, if_neg (by omega)] at h
          simp only [Option.some.injEq] at h
          subst h
          simp only [meetT, if_neg q1, if_pos q0]
          rw [show w (c + d) = d + c by rw [Int.add_comm]; exact wid (by omega) (by omega)]
          exact ⟨rfl, he, by omega, ht.2.2⟩
        · rw [if_neg g] at h; cases h
      · rw [if_pos (by omega), if_neg q0] at h
        simp only [Option.some.injEq] at h
        subst h
        simp only [meetT, if_neg q1, if_neg q0]
        exact ⟨rfl, he, hc, ht⟩
theorem fold_surT : ∀ (b a : T) (x : S), exR a → exR b → foldS (surT a) (surT b) = some x → x = surT (joinT a b) ∧ exR (joinT a b)
  | .nil, a, x, ha, _, h => by
    simp only [surT, foldS, Option.some.injEq] at h
    subst h
    exact ⟨rfl, ha⟩
  | .cons e c l, a, x, ha, hb, h => by
    simp only [surT, foldS] at h
    cases hp : putS (surT a) (surT e) c 1 with
    | none => rw [hp] at h; cases h
    | some z =>
      rw [hp] at h
      obtain ⟨i1, i2⟩ := put_surT hb.1 hb.2.1 a z ha hp
      subst i1
      exact fold_surT l (meetT e c a) x i2 hb.2.2 h
theorem toldST_one {x : S} (h : (toldST x).2 = true) : (toldST x).1 = x ∧ surP x = true := by
  unfold toldST at *
  split
  · rename_i q; exact ⟨rfl, q⟩
  · rename_i q; rw [if_neg q] at h; cases h
/-- What a sum of two of them tells. -/
theorem sum_surT {a b : T} (ha : exR a) (hb : exR b) (h : (sumST (surT a) (surT b)).2 = true) : (sumST (surT a) (surT b)).1 = surT (joinT a b) ∧ ordP (joinT a b) = true := by
  unfold sumST at *
  split
  · rename_i hx; rw [hx] at h; cases h
  · rename_i x hx
    rw [hx] at h
    obtain ⟨i1, i2⟩ := fold_surT b a x ha hb hx
    obtain ⟨t1, t2⟩ := toldST_one h
    rw [t1]
    subst i1
    exact ⟨rfl, back_ok (exR_posAll i2) t2⟩
theorem row_surT {e : T} {c : Int} (he : formA none e = true) (hc : 1 ≤ c ∧ c ≤ 1000000) : ∀ (b acc : T) (x : S), exR acc → exR b → rowM (surT e) c 1 (surT acc) (surT b) = some x → x = surT (rowX e c acc b) ∧ exR (rowX e c acc b)
  | .nil, acc, x, ha, _, h => by
    simp only [surT, rowM, Option.some.injEq] at h
    subst h
    exact ⟨rfl, ha⟩
  | .cons f d r, acc, x, ha, hb, h => by
    simp only [surT, rowM] at h
    cases hp : stepM (surT acc) (surT e) c 1 (surT f) d 1 with
    | none => rw [hp] at h; cases h
    | some z =>
      rw [hp] at h
      unfold stepM at hp
      split at hp
      · rename_i hs
        split at hp
        · rename_i hf
          obtain ⟨s1, s2⟩ := sum_surT (form_exR he) (form_exR hb.1) hs
          have e1 : mulF c 1 d 1 = (c * d, 1) := by unfold mulF; rw [mkF_one]
          rw [s1, e1] at hp
          rw [e1] at hf
          have hb2 := frP_one hf
          have h1 := hb.2.1
          have h2 : 1 * 1 ≤ c * d := Int.mul_le_mul hc.1 h1.1 (by omega) (by omega)
          simp only at hp hb2
          obtain ⟨i1, i2⟩ := put_surT (ordP_form s2) (show 1 ≤ c * d ∧ c * d ≤ 1000000 by omega) acc z ha hp
          subst i1
          have := row_surT he hc r (meetT (joinT e f) (c * d) acc) x i2 hb.2.2 h
          simp only [rowX]
          rw [show w (c * d) = c * d from wid (by omega) (by omega)]
          exact this
        · cases hp
      · cases hp
theorem prod_surT {b : T} (hb : exR b) : ∀ (a acc : T) (x : S), exR acc → exR a → prodM (surT b) (surT acc) (surT a) = some x → x = surT (crossG b acc a) ∧ exR (crossG b acc a)
  | .nil, acc, x, h1, _, h => by
    simp only [surT, prodM, Option.some.injEq] at h
    subst h
    exact ⟨rfl, h1⟩
  | .cons e c l, acc, x, h1, h2, h => by
    simp only [surT, prodM] at h
    cases hp : rowM (surT e) c 1 (surT acc) (surT b) with
    | none => rw [hp] at h; cases h
    | some z =>
      rw [hp] at h
      obtain ⟨i1, i2⟩ := row_surT h2.1 h2.2.1 b acc z h1 hb hp
      subst i1
      exact prod_surT hb l (rowX e c acc b) x i2 h2.2.2 h
end Go.Proofs.Try

namespace Go.Proofs.Try
open Go Go.AX S
theorem imul_l1 {k : Nat} {a b e : S} {n d : Int} {i : Nat} {K : Rw → Option (Rw × Bool)} (hb : surP b = true) (he : surP e = true) (hn : frP n d = true ∧ n ≠ 0) (hk : 40000 < k) : ∀ (t : S) (j : Nat) (acc : S), dropS b j = t → gdS acc → fallsS acc → gdS t → acc.sizeS + 31 * t.lenS ≤ 30000 →
    (match rowM e n d acc t with
      | none => impl_MultiplySurreals_l1 k a.rowsS b.rowsS i e.rowsS n d K t.rowsS acc.rowsS = some ([], false)
      | some x => impl_MultiplySurreals_l1 k a.rowsS b.rowsS i e.rowsS n d K t.rowsS acc.rowsS = K x.rowsS ∧ gdS x ∧ fallsS x ∧ x.sizeS ≤ acc.sizeS + 31 * t.lenS)
  | nil, j, acc, _, ga, fa, _, _ => ⟨rfl, ga, fa, by simp [lenS]⟩
  | cons f m g r, j, acc, hd, ga, fa, gt, hs => by
    have h3 : cap = 1099511627776 := rfl
    simp only [lenS] at hs
    have hf := sub_right hb j f m g r hd
    have zf := surP_size hf
    have ze := surP_size he
    have ge := (gd_fallsS he).1
    have gf := (gd_fallsS hf).1
    have e1 := iaddS_eq (k := k) (a := e) (b := f) (by omega) (by omega)
    have e2 : addST e f = sumST e f := by unfold addST; rw [he, hf]; rfl
    rw [e2] at e1
    have e4 := MultiplyFractions_eq (k := k) (by omega) hn.1 gt.2.1.1
    simp only [rowsS, impl_MultiplySurreals_l1, cell_S]
    rw [e1, e4]
    simp only [Option.bind_some, rowM]
    by_cases q1 : (sumST e f).2 = true
    · rw [if_pos q1]
      by_cases q2 : frP (mulF n d m g).1 (mulF n d m g).2 = true
      · have hstep : stepM acc e n d f m g = putS acc (sumST e f).1 (mulF n d m g).1 (mulF n d m g).2 := by unfold stepM; rw [if_pos q1, if_pos q2]
        have hr := sumST_right q1
        have hg := (gd_fallsS hr).1
        have hz := surP_size hr
        have hnz := mul_nz hn.1 gt.2.1.1 hn.2 gt.2.1.2
        have gone : gdS (cons (sumST e f).1 (mulF n d m g).1 (mulF n d m g).2 nil) := ⟨hg, ⟨q2, hnz⟩, trivial⟩
        have e7 := sum_eqS (k := k) ga gone fa ⟨trivial, trivial⟩ (by simp only [sizeS]; omega) (by simp only [sizeS]; omega)
        have e8 : foldS acc (cons (sumST e f).1 (mulF n d m g).1 (mulF n d m g).2 nil) = putS acc (sumST e f).1 (mulF n d m g).1 (mulF n d m g).2 := by
          simp only [foldS]
          cases putS acc (sumST e f).1 (mulF n d m g).1 (mulF n d m g).2 <;> rfl
        rw [e8] at e7
        unfold resF
        rw [if_pos q2]
        simp only [Option.bind_some, if_true]
        rw [term_eqS _ hnz]
        simp only [Option.bind_some]
        rw [e7]
        simp only [Option.bind_some]
        cases hp : putS acc (sumST e f).1 (mulF n d m g).1 (mulF n d m g).2 with
        | none =>
          rw [hstep, hp]
          rfl
        | some x =>
          rw [hstep, hp]
          obtain ⟨x1, x2, x3⟩ := step_ok (hstep.trans hp) ga fa hn gt.2.1
          simp only [resS, if_true, Option.bind_some]
          have ih := imul_l1 (a := a) (i := i) (K := K) hb he hn hk r (j + 1) x (drop_succS hd) x1 x2 gt.2.2 (by omega)
          cases hr : rowM e n d x r with
          | none => rw [hr] at ih; exact ih
          | some y =>
            rw [hr] at ih
            exact ⟨ih.1, ih.2.1, ih.2.2.1, by have := ih.2.2.2; simp only [lenS]; omega⟩
      · have hstep : stepM acc e n d f m g = none := by unfold stepM; rw [if_pos q1, if_neg q2]
        rw [hstep]
        unfold resF
        rw [if_neg q2]
        rfl
    · have hstep : stepM acc e n d f m g = none := by unfold stepM; rw [if_neg q1]
      rw [hstep, if_neg q1]
      simp only [Option.bind_none]
      split <;> rfl
theorem imul_l0 {k : Nat} {a b : S} (ha : surP a = true) (hb : surP b = true) (hk : 40000 < k) : ∀ (t : S) (i : Nat) (acc : S), dropS a i = t → gdS acc → fallsS acc → gdS t → acc.sizeS + 31 * 30 * t.lenS ≤ 29000 →
    (match prodM b acc t with
      | none => impl_MultiplySurreals_l0 k a.rowsS b.rowsS (fun v => impl_MultiplySurreals_p4 k v) t.rowsS i acc.rowsS = some ([], false)
      | some x => impl_MultiplySurreals_l0 k a.rowsS b.rowsS (fun v => impl_MultiplySurreals_p4 k v) t.rowsS i acc.rowsS = impl_MultiplySurreals_p4 k x.rowsS ∧ x.sizeS ≤ 29000)
  | nil, i, acc, _, _, _, _, h => ⟨rfl, by simp only [lenS] at h; omega⟩
  | cons e n d l, i, acc, hd, ga, fa, gt, hs => by
    have h3 : cap = 1099511627776 := rfl
    simp only [lenS] at hs
    have he := sub_right ha i e n d l hd
    have gb := (gd_fallsS hb).1
    have zb := surP_size hb
    have lb := b.len_sizeS
    have h1 := imul_l1 (k := k) (a := a) (b := b) (e := e) (n := n) (d := d) (i := i) (K := fun v => impl_MultiplySurreals_l0 k a.rowsS b.rowsS (fun v => impl_MultiplySurreals_p4 k v) l.rowsS (i + 1) v) hb he gt.2.1 hk b 0 acc (drop_zeroS b) ga fa gb (by omega)
    simp only [rowsS, impl_MultiplySurreals_l0, cell_S, prodM]
    rw [if_pos (by rw [rowsS_len]; omega)]
    cases hr : rowM e n d acc b with
    | none => rw [hr] at h1; exact h1
    | some x =>
      rw [hr] at h1
      obtain ⟨q1, q3, q4, q5⟩ := h1
      simp only [Option.bind_some]
      have ih := imul_l0 ha hb hk l (i + 1) x (drop_succS hd) q3 q4 gt.2.2 (by omega)
      cases hp : prodM b x l with
      | none => rw [hp] at ih; exact q1.trans ih
      | some y => rw [hp] at ih; exact ⟨q1.trans ih.1, ih.2⟩
/-- What impl's product tells. -/
def mulST (a b : S) : S × Bool := match prodM b nil a with
  | none => (nil, false)
  | some x => toldST x
theorem imulS_eq {k : Nat} {a b : S} (ha : surP a = true) (hb : surP b = true) (hk : 40000 < k) : impl_MultiplySurreals k a.rowsS b.rowsS = some ((mulST a b).1.rowsS, (mulST a b).2) := by
  have h3 : cap = 1099511627776 := rfl
  obtain ⟨ga, fa⟩ := gd_fallsS ha
  have za := surP_size ha
  have zb := surP_size hb
  have la := a.len_sizeS
  unfold impl_MultiplySurreals mulST
  rw [surreals_eq k a b (by omega) (by omega) (by omega) (by omega), ha, hb]
  simp only [Bool.and_self, Option.bind_some, if_true]
  unfold impl_MultiplySurreals_p2
  rw [if_pos (by rw [rowsS_len]; omega)]
  have h1 := imul_l0 (k := k) ha hb hk a 0 nil (drop_zeroS a) trivial trivial ga (by simp only [sizeS]; omega)
  rw [show nil.rowsS = ([] : Rw) from rfl] at h1
  cases hp : prodM b nil a with
  | none =>
    rw [hp] at h1
    rw [h1]; rfl
  | some x =>
    rw [hp] at h1
    have hz := h1.2
    rw [h1.1]
    unfold impl_MultiplySurreals_p4 impl_MultiplySurreals_p5
    rw [toldSur_eq k x (by omega) (by omega)]
    simp only [Option.bind_some]
    cases (toldST x).2 <;> rfl
/-! ### out of an ordinal, and back -/
theorem toL_surT : ∀ {p : Option T} {a : T}, formA p a = true → toL (surT a) = some a
  | _, .nil, _ => rfl
  | _, .cons e c l, h => by
    simp only [formA, Bool.and_eq_true, decide_eq_true_eq] at h
    simp only [surT, toL]
    rw [toL_surT h.1.1.2, toL_surT h.2]
    simp only [if_true]
    rw [if_neg (by omega)]; rfl
/-- The law's comparing of a number with itself. -/
theorem sameS_loop {rec_ : Rw → Rw → Option Bool} {a : S} (hr : ∀ e : S, e.sizeS < a.sizeS → rec_ e.rowsS e.rowsS = some true) : ∀ (t : S) (i : Nat), dropS a i = t → laws_sameSurreal_l0 rec_ a.rowsS a.rowsS (some true) t.rowsS i = some true
  | nil, i, _ => rfl
  | cons e n d l, i, h => by
    have hz := drop_cons_sizeS h
    simp only [rowsS, laws_sameSurreal_l0, cell_S]
    rw [row_S (t := a) (i := (i : Int)) (n := i) rfl h, if_neg (by simp), hr e (by omega), Option.bind_some, if_pos rfl]
    exact sameS_loop hr l (i + 1) (drop_succS h)
theorem sameS_refl : ∀ (k : Nat) (a : S), a.sizeS < k → a.sizeS ≤ cap → laws_sameSurreal k a.rowsS a.rowsS = some true
  | 0, _, h, _ => absurd h (Nat.not_lt_zero _)
  | k + 1, a, h, hc => by
    have hl := a.len_sizeS
    show laws_sameSurreal_b (laws_sameSurreal k) a.rowsS a.rowsS = _
    unfold laws_sameSurreal_b
    rw [if_pos rfl, if_pos (by rw [rowsS_len]; omega)]
    exact sameS_loop (fun e he => sameS_refl k e (by omega) (by omega)) a 0 (drop_zeroS a)
end Go.Proofs.Try

namespace Go.Proofs.Try
open Go Go.AX S Fl
/-- The value of a polynomial: what it is. -/
theorem poly_is {k : Nat} {a : Fl} {x : S} (hk : 40000 < k) (ka : a.sizeL < k) (ca : a.sizeL ≤ cap) (kx : x.sizeS + 300 < k) (cx : x.sizeS ≤ cap) : ∃ (r : S) (ok : Bool), impl_PolynomialAt k a.rowsL x.rowsS = some (r.rowsS, ok) ∧ spec_PolynomialAt k a.rowsL x.rowsS = some (r.rowsS, ok) ∧ r.sizeS ≤ 30 ∧
    (ok = true → surP x = true ∧ allF a = true ∧ a.lenL ≤ 12 ∧ surP r = true ∧ polyG x a a.lenL .nil = some r) := by
  have h3 : cap = 1099511627776 := rfl
  unfold sizeL at ka ca
  unfold impl_PolynomialAt spec_PolynomialAt
  rw [IsSurreal_eq k x kx cx, suGood_all k x kx cx, shList_eq hk ca, lenLI]
  simp only [Option.bind_some]
  cases hx : surP x with
  | false =>
    simp only [Bool.false_eq_true, if_false]
    cases (allF a && decide ((a.lenL : Int) ≤ 12)) <;> exact ⟨.nil, false, rfl, rfl, by simp [sizeS], fun h => by cases h⟩
  | true =>
    simp only [if_true]
    by_cases hl : (12 : Int) < (a.lenL : Int)
    · rw [if_pos hl, decide_eq_false (show ¬ (a.lenL : Int) ≤ 12 by omega), Bool.and_false]
      exact ⟨.nil, false, rfl, rfl, by simp [sizeS], fun h => by cases h⟩
    · rw [if_neg hl, decide_eq_true (show (a.lenL : Int) ≤ 12 by omega), Bool.and_true]
      unfold impl_PolynomialAt_p2
      rw [if_pos (by rw [rowsL_len]; omega), ilist_eq hk a false, Bool.false_or]
      cases ha : allF a with
      | false =>
        simp only [Bool.not_false, cond_true, Bool.false_eq_true, if_false, Option.bind_some]
        obtain ⟨j, rfl⟩ : ∃ j, k = j + 1 := ⟨k - 1, by omega⟩
        unfold impl_PolynomialAt_p4
        simp only [cond_true, impl_PolynomialAt_l1_2]
        refine ⟨.nil, false, ?_, rfl, by simp [sizeS], fun h => by cases h⟩
        split <;> rfl
      | true =>
        simp only [Bool.not_true, cond_false, if_true, Option.bind_some]
        unfold impl_PolynomialAt_p4
        simp only [cond_false]
        rw [lenLI, wid (n := (a.lenL : Int) - 1) (by omega) (by omega)]
        have g1 := ipoly_loop (k := k) hx ha hk (K2 := fun v128 v130 => (cond v130 (impl_PolynomialAt_p5 v128 true) (impl_PolynomialAt_p5 v128 false))) (fun v => rfl) a.lenL k .nil (Nat.le_refl _) (by omega) nil_rightS (by omega)
        have g2 := spoly_loop (k := k) hx ha hk (K0 := fun v34 v46 => (cond v46 (some (v34, false)) (some (v34, true)))) rfl a.lenL k .nil (Nat.le_refl _) (by omega) nil_rightS (by omega)
        rw [show S.nil.rowsS = ([] : Rw) from rfl] at g1 g2
        rw [g1, g2]
        cases hp : polyG x a a.lenL .nil with
        | none => exact ⟨.nil, false, rfl, rfl, by simp [sizeS], fun h => by cases h⟩
        | some o =>
          have hr := poly_right _ _ _ nil_rightS hp
          exact ⟨o, true, rfl, rfl, surP_size hr, fun _ => ⟨by trivial, by trivial, by omega, hr, by trivial⟩⟩
theorem pow_is {k : Nat} {x : S} {m : Nat} (hk : 40000 < k) (hx : surP x = true) (hm : m ≤ 12) : ∃ (r : S) (ok : Bool), impl_PowerOfSurreal k x.rowsS (m : Int) = some (r.rowsS, ok) ∧ surP r = true ∧ (ok = true → ∀ f, ev f r = trN x m f .nil) := by
  have h3 : cap = 1099511627776 := rfl
  have zx := surP_size hx
  unfold impl_PowerOfSurreal
  rw [IsSurreal_eq k x (by omega) (by omega), hx, Option.bind_some, if_pos rfl]
  have hs : impl_stepsOk (m : Int) = some true := by
    unfold impl_stepsOk
    rw [iIn_eq]
    simp only [Option.bind_some]
    rw [decide_eq_true (show (0 : Int) ≤ (m : Int) by omega), decide_eq_true (show (m : Int) ≤ 12 by omega)]
    rfl
  rw [hs, Option.bind_some, if_pos rfl, ipow_eq2 hx hk rfl (by omega), Option.bind_some]
  have hp := pow_right hx m oneS one_rightS
  have hb := powS_bad (x := x) m oneS
  have he := fun (f : S → Rat) => ev_pow hx (f := f) m oneS one_rightS
  generalize powS x m oneS = P at hp hb he
  obtain ⟨p, bad⟩ := P
  cases bad with
  | false => exact ⟨p, true, rfl, hp, fun _ f => by rw [he f rfl, ev_one]⟩
  | true =>
    have hb : p = S.nil := hb rfl
    subst hb
    exact ⟨S.nil, false, rfl, nil_rightS, fun h => by cases h⟩
theorem scale_is {k : Nat} {a : S} {m g : Int} (ha : surP a = true) (hm : frP m g = true) (hk : 2000 < k) : ∃ (r : S) (ok : Bool), impl_ScaleSurreal k a.rowsS m g = some (r.rowsS, ok) ∧ surP r = true ∧ (ok = true → ∀ f, ev f r = Rat.divInt m g * ev f a) := by
  have h3 : cap = 1099511627776 := rfl
  obtain ⟨ga, fa⟩ := gd_fallsS ha
  have hz := surP_size ha
  have hl := a.len_sizeS
  unfold impl_ScaleSurreal
  rw [IsSurreal_eq k a (by omega) (by omega), IsFraction_eq (by omega), ha, hm]
  simp only [Option.bind_some, if_true]
  unfold impl_scaled
  by_cases hm0 : m = 0
  · rw [if_pos hm0]
    simp only [Option.bind_some, if_true]
    have t1 := toldSur_eq k S.nil (by simp only [sizeS]; omega) (by simp only [sizeS]; omega)
    have e : toldST S.nil = (S.nil, true) := by unfold toldST; rw [nil_right]; rfl
    rw [e] at t1
    rw [show ([] : Rw) = S.nil.rowsS from rfl, t1]
    refine ⟨S.nil, true, rfl, nil_rightS, fun _ f => ?_⟩
    subst hm0
    rw [val_zero, Rat.zero_mul]; rfl
  · rw [if_neg hm0, if_pos (by rw [rowsS_len]; omega)]
    have e1 := scale_loop (k := k) (a := a.rowsS) (g := g) (by omega) hm a S.nil (by simp only [lenS]; omega) ga
    rw [show S.nil.rowsS = ([] : Rw) from rfl] at e1
    rw [e1]
    simp only [Option.bind_some]
    cases hx : scaleT m g a with
    | none =>
      refine ⟨S.nil, false, ?_, nil_rightS, fun h => by cases h⟩
      simp only [Option.map_none, resS, Bool.false_eq_true, if_false]
      rw [toldNo_eq]; rfl
    | some x =>
      have hxs := scale_size hx
      simp only [Option.map_some, resS, if_true]
      rw [show appS S.nil x = x from rfl, toldSur_eq k x (by omega) (by omega)]
      refine ⟨(toldST x).1, (toldST x).2, ?_, toldST_right x, fun h f => ?_⟩
      · simp only [Option.bind_some]; cases (toldST x).2 <;> rfl
      · rw [(told_yes h).1, ev_scale hm ga hx]
theorem add_is {k : Nat} {a b : S} (ha : surP a = true) (hb : surP b = true) (hk : 2000 < k) : ∃ (r : S) (ok : Bool), impl_AddSurreals k a.rowsS b.rowsS = some (r.rowsS, ok) ∧ surP r = true ∧ (ok = true → ∀ f, ev f r = ev f a + ev f b) := by
  have h3 : cap = 1099511627776 := rfl
  have za := surP_size ha
  have zb := surP_size hb
  have e : addST a b = sumST a b := by unfold addST; rw [ha, hb]; rfl
  refine ⟨(sumST a b).1, (sumST a b).2, ?_, sumST_right2 a b, fun h f => ev_sum ha hb h⟩
  rw [iaddS_eq (by omega) (by omega), e]
theorem py_loop {k : Nat} {x v : S} {a : Fl} {A : Rw} {K0 : Rw → Option Bool} (hk : 40000 < k) (hx : surP x = true) (ha : allF a = true) (hl : a.lenL ≤ 12)
    (hK : ∀ r : S, surP r = true → (∀ f, ev f r = sumW x f a a.lenL) → K0 r.rowsS = some true) :
    ∀ (t : Fl) (i : Nat) (acc : S), t = dropL a i → i ≤ a.lenL → surP acc = true → (∀ f, ev f acc = sumW x f a i) → laws_FnPolynomials_l0 k A x.rowsS v.rowsS K0 t.rowsL i acc.rowsS = some true
  | .nil, i, acc, h, hi, hs, he => by
    have := drop_lenL a i
    rw [← h] at this
    simp only [lenL] at this
    have e : i = a.lenL := by omega
    subst e
    exact hK acc hs he
  | .cons n d l, i, acc, h, hi, hs, he => by
    have hf := all_drop ha h.symm
    have hlen := drop_lenL a i
    rw [← h] at hlen
    simp only [lenL] at hlen
    simp only [rowsL, laws_FnPolynomials_l0, cell_L]
    obtain ⟨p, one, e1, p1, p2⟩ := pow_is (k := k) (m := i) hk hx (by omega)
    obtain ⟨t, two, e2, t1, t2⟩ := scale_is (k := k) p1 hf (by omega)
    obtain ⟨r, three, e3, r1, r2⟩ := add_is (k := k) hs t1 (by omega)
    simp only [e1, e2, e3, Option.bind_some]
    cases one with
    | false => cases two <;> cases three <;> rfl
    | true =>
      cases two with
      | false => cases three <;> rfl
      | true =>
        cases three with
        | false => rfl
        | true =>
          simp only [if_true]
          refine py_loop hk hx ha hl hK l (i + 1) r (drop_succL h.symm).symm (by omega) r1 (fun f => ?_)
          rw [r2 rfl f, t2 rfl f, p2 rfl f, he f]
          simp only [sumW, ← h]
theorem FnPolynomials_pure {x y : Rw} (hx : bytes x) (hy : bytes y) : laws_FnPolynomials 50001 x y = some true := by
  have h3 : cap = 1099511627776 := rfl
  unfold laws_FnPolynomials laws_big
  obtain ⟨a, t, e, na, nt⟩ := drawPoly_ok (k := 50001) hx (by omega)
  have p2 : laws_FnPolynomials_p2 50001 x = some true := by
    unfold laws_FnPolynomials_p2
    rw [e, Option.bind_some]
    unfold laws_FnPolynomials_p3
    obtain ⟨r, ok, e1, e2, hz, hr⟩ := poly_is (k := 50001) (a := a) (x := t) (by omega) (by unfold sizeL; omega) (by unfold sizeL; omega) (by omega) (by omega)
    simp only
    rw [e1, Option.bind_some]
    have hsame : laws_sameSurreal 50001 r.rowsS r.rowsS = some true := sameS_refl 50001 r (by omega) (by omega)
    cases ok with
    | false =>
      simp only [Bool.false_eq_true, if_false]
      unfold laws_FnPolynomials_p4
      rw [cond_false, e2, Option.bind_some]
      simp only [Bool.false_eq_true, if_false]
      unfold laws_FnPolynomials_p5
      rw [cond_false, cond_false, hsame, Option.bind_some, if_pos rfl]
      rfl
    | true =>
      obtain ⟨h1, h2, h4, h5, h6⟩ := hr rfl
      simp only [if_true]
      unfold laws_FnPolynomials_p4
      rw [cond_true, e2, Option.bind_some]
      simp only [if_true]
      unfold laws_FnPolynomials_p5
      rw [cond_true, cond_true, hsame, Option.bind_some, if_pos rfl]
      unfold laws_FnPolynomials_p6
      rw [cond_true, if_pos (by rw [rowsL_len]; omega)]
      refine py_loop (k := 50001) (v := r) (by omega) h1 h2 h4 (fun s hs he => ?_) a 0 .nil (drop_zeroL a).symm (by omega) nil_rightS (fun f => rfl)
      have eq : s = r := by
        obtain ⟨g1, g2⟩ := gd_fallsS hs
        obtain ⟨g3, g4⟩ := gd_fallsS h5
        refine ev_eq g1 g3 g2 g4 (fun f => ?_)
        rw [he f, ev_poly h1 h2 a.lenL .nil r nil_rightS h6]
        simp only [ev]
        rw [Rat.zero_add]
      subst eq
      unfold laws_FnPolynomials_p9
      rw [hsame, Option.bind_some, if_pos rfl]
      rfl
  split
  · rfl
  · split
    · rfl
    · rw [Option.bind_some, if_neg (by decide)]; exact p2
end Go.Proofs.Try

namespace Go.Proofs.Try
open Go Go.AX
def structTs (P : Program) (t : TypeId) : Option (List TypeId) := match P.underlying t with
  | some (.struct fs) => some (fs.toList.map fun f => f.type)
  | _ => none
def sliceT (P : Program) (t : TypeId) : Option TypeId := match P.underlying t with
  | some (.slice e) => some e
  | _ => none
def intT? (P : Program) (t : TypeId) : Option IntKind := match P.underlying t with
  | some (.int k) => some k
  | _ => none
def HasTs (H : TypeId → List D → Prop) : List TypeId → List D → Prop
  | [], ds => ds = []
  | t :: l, ds => ∃ a b, ds = a ++ b ∧ H t a ∧ HasTs H l b
theorem hasTs_of {H : TypeId → List D → Prop} : ∀ {l : List Field} {ds : List D}, HasFs H l ds → HasTs H (l.map fun f => f.type) ds
  | [], _, h => h
  | _ :: _, _, ⟨a, b, e, h1, h2⟩ => ⟨a, b, e, h1, hasTs_of h2⟩
theorem has_struct {P : Program} {n : Nat} {t : TypeId} {l : List TypeId} {ds : List D} (h : Has P (n + 1) t ds) (e : structTs P t = some l) : HasTs (Has P n) l ds := by
  unfold structTs at e
  simp only [Has] at h
  split at e
  · rename_i fs hu
    rw [hu] at h
    cases e
    exact hasTs_of h
  · cases e
theorem has_slice {P : Program} {n : Nat} {t u : TypeId} {ds : List D} (h : Has P (n + 1) t ds) (e : sliceT P t = some u) : ∃ es, ds = [.sl es] ∧ es.length ≤ maxLen ∧ ∀ r ∈ es, Has P n u r := by
  unfold sliceT at e
  simp only [Has] at h
  split at e
  · rename_i v hu
    rw [hu] at h
    cases e
    exact h
  · cases e
theorem has_int {P : Program} {n : Nat} {t : TypeId} {k : IntKind} {ds : List D} (h : Has P (n + 1) t ds) (e : intT? P t = some k) : ∃ i, ds = [.int k i] ∧ (Lit.int k i).wf = true := by
  unfold intT? at e
  simp only [Has] at h
  split at e
  · rename_i v hu
    rw [hu] at h
    cases e
    exact h
  · cases e
theorem has_bool {P : Program} {n : Nat} {t : TypeId} {ds : List D} (h : Has P (n + 1) t ds) (e : (match P.underlying t with | some .bool => true | _ => false) = true) : ∃ b, ds = [.bool b] := by
  simp only [Has] at h
  split at e
  · rename_i hu
    rw [hu] at h
    exact h
  · cases e
theorem has_str {P : Program} {n : Nat} {t : TypeId} {ds : List D} (h : Has P (n + 1) t ds) (e : (match P.underlying t with | some .string => true | _ => false) = true) : ∃ b, ds = [.str b] ∧ b.size ≤ maxLen := by
  simp only [Has] at h
  split at e
  · rename_i hu
    rw [hu] at h
    exact h
  · cases e
/-- Bytes. -/
def bytesOf (x : Rw) : Prop := ∀ r ∈ x, ∃ b : Int, r = [.int .u8 b] ∧ 0 ≤ b ∧ b < 256
theorem has_bytes {P : Program} {n : Nat} {t u : TypeId} {ds : List D} (h : Has P n t ds) (e : sliceT P t = some u) (e2 : intT? P u = some .u8) : ∃ es, ds = [.sl es] ∧ bytesOf es := by
  cases n with
  | zero => exact h.elim
  | succ n =>
    obtain ⟨es, rfl, _, hr⟩ := has_slice h e
    refine ⟨es, rfl, fun r hm => ?_⟩
    have hh := hr r hm
    cases n with
    | zero => exact hh.elim
    | succ n =>
      obtain ⟨i, rfl, hw⟩ := has_int hh e2
      have e1 : IntKind.u8.min = 0 := by decide
      have e2 : IntKind.u8.max = 255 := by decide
      simp only [Lit.wf, e1, e2, Bool.and_eq_true, decide_eq_true_eq] at hw
      exact ⟨i, rfl, by omega, by omega⟩
theorem argA_agg {P : Program} {t : TypeId} (e : aggT P t = true) (ds : List D) : argA P t ds = .agg (ds.map .d) := by unfold argA; rw [e]
theorem argA_one {P : Program} {t : TypeId} (e : aggT P t = false) (ds : List D) : argA P t ds = .d (ds.headD (.bool false)) := by unfold argA; rw [e]
theorem has_int1 {P : Program} {n : Nat} {t : TypeId} {k : IntKind} {ds : List D} (h : Has P n t ds) (e : intT? P t = some k) : ∃ i, ds = [.int k i] ∧ (Lit.int k i).wf = true := by
  cases n with
  | zero => exact h.elim
  | succ n => exact has_int h e
end Go.Proofs.Try

namespace Go.Proofs.Try
open Go Go.AX
set_option maxRecDepth 100000 in
theorem FnPolynomials_true {n0 n1 : Nat} {c0 c1 : List D} (w0 : Has prog n0 22 c0) (w1 : Has prog n1 22 c1) : Ct prog 4 [argA prog 22 c0, argA prog 22 c1] ⟨[], []⟩ (.d (.bool true)) ⟨[], []⟩ := by
  obtain ⟨u, rfl, bu⟩ := has_bytes w0 (u := 5) (by kernel_rfl) (by kernel_rfl)
  obtain ⟨v, rfl, bv⟩ := has_bytes w1 (u := 5) (by kernel_rfl) (by kernel_rfl)
  rw [argA_one (t := 22) (by kernel_rfl), argA_one (t := 22) (by kernel_rfl)]
  exact laws_FnPolynomials_ct (FnPolynomials_pure bu bv)
end Go.Proofs.Try
