/- What the printed functions compute: plain data. -/
import Derived.Test.YthboihanakagnaaSharedNc
set_option linter.unusedVariables false
set_option linter.unusedSimpArgs false
namespace Go.Proofs.Try
open Go Go.AX S
def cutS : S → S → S
  | nil, _ => nil
  | cons f n d l, e => if 0 < cmpS f e then cons f n d (cutS l e) else nil
def restS : S → S → S
  | nil, _ => nil
  | cons f n d l, e => if 0 < cmpS f e then restS l e else cons f n d l
theorem cut_rest (t e : S) : appS (cutS t e) (restS t e) = t := by
  induction t with
  | nil => rfl
  | cons f n d l _ ih =>
    simp only [cutS, restS]
    split
    · simp only [appS, ih]
    · rfl
theorem cut_take (t e : S) : (cutS t e).rowsS = t.rowsS.take (cutS t e).lenS := by
  have h := cut_rest t e
  have h2 : t.rowsS = (cutS t e).rowsS ++ (restS t e).rowsS := by rw [← rows_appS, h]
  rw [h2, ← rowsS_len (cutS t e), List.take_left]
theorem cut_size (t e : S) : (cutS t e).sizeS + (restS t e).sizeS = t.sizeS := by rw [← size_appS, cut_rest]
theorem cut_len (t e : S) : (cutS t e).lenS + (restS t e).lenS = t.lenS := by rw [← len_appS, cut_rest]
theorem cut_dp (t e : S) : dpS (cutS t e) ≤ dpS t ∧ dpS (restS t e) ≤ dpS t := by
  induction t with
  | nil => exact ⟨Nat.le_refl _, Nat.le_refl _⟩
  | cons f n d l _ ih =>
    simp only [cutS, restS]
    split
    · simp only [dpS]; omega
    · simp [dpS]
theorem form_none {p : Option S} {t : S} (h : formS p t = true) : formS none t = true := by
  cases t with
  | nil => rfl
  | cons f n d l =>
    simp only [formS, Bool.and_eq_true] at h ⊢
    exact ⟨⟨h.1.1, trivial⟩, h.2⟩
theorem cut_form {p : Option S} {t e : S} (h : formS p t = true) : formS p (cutS t e) = true ∧ formS none (restS t e) = true := by
  induction t generalizing p with
  | nil => exact ⟨by cases p <;> rfl, rfl⟩
  | cons f n d l _ ih =>
    have h0 := h
    simp only [formS, Bool.and_eq_true] at h
    simp only [cutS, restS]
    split
    · refine ⟨?_, (ih h.2).2⟩
      simp only [formS, Bool.and_eq_true]
      exact ⟨h.1, (ih h.2).1⟩
    · exact ⟨by cases p <;> rfl, form_none h0⟩
theorem cut_ok {t e : S} (h : surP t = true) : surP (cutS t e) = true ∧ surP (restS t e) = true := by
  have h1 := cut_size t e
  have h2 := cut_dp t e
  simp only [surP, Bool.and_eq_true, decide_eq_true_eq, nodesS_size] at h ⊢
  have h3 := cut_form (e := e) h.2
  exact ⟨⟨⟨by omega, by omega⟩, h3.1⟩, ⟨by omega, by omega⟩, h3.2⟩
theorem exp_ok {f l : S} {n d : Int} (h : surP (cons f n d l) = true) : surP f = true := by
  unfold surP at h ⊢
  simp only [Bool.and_eq_true, decide_eq_true_eq, nodesS_size] at h ⊢
  obtain ⟨⟨h1, h2⟩, h3⟩ := h
  simp only [sizeS] at h1
  have h4 : 1 + dpS f ≤ 6 := Nat.le_trans (Nat.le_max_left _ _) h2
  simp only [formS, Bool.and_eq_true] at h3
  exact ⟨⟨by omega, by omega⟩, h3.1.1.2⟩
theorem rest_le {t e f l : S} {n d : Int} (h : restS t e = cons f n d l) : cmpS f e ≤ 0 := by
  induction t with
  | nil => cases h
  | cons g m u r _ ih =>
    simp only [restS] at h
    split at h
    · exact ih h
    · simp only [S.cons.injEq] at h
      obtain ⟨rfl, -⟩ := h
      omega
/-! ### what is left -/
theorem add_opp {n d : Int} (h : frP n d = true) : addF n d (-n) d = (0, 1) := by
  have hf := frP_in h
  have h1 : n * d + -n * d = 0 := by rw [Int.neg_mul]; omega
  have h2 : 0 < d * d := Int.mul_pos (by omega) (by omega)
  unfold addF mkF
  rw [h1, Int.gcd_zero_left]
  have h3 : ((d * d).natAbs : Int) = d * d := by omega
  rw [h3, Int.zero_tdiv, Int.tdiv_self (by omega)]
theorem sub_rest {z : S} : ∀ {y : S}, gdS y → foldS (appS y z) (negS y) = some z
  | nil, _ => rfl
  | cons e n d l, g => by
    have h0 := cmpS_refl e
    simp only [negS, appS, foldS, putS]
    rw [wneg g.2.1.1, if_pos (by omega), if_pos h0, add_opp g.2.1.1, if_pos (by decide), if_pos rfl, Option.bind_some]
    exact sub_rest g.2.2
theorem addST_rest {y z : S} (hy : surP y = true) (hz : surP z = true) (h : surP (appS y z) = true) : addST (appS y z) (negS y) = (z, true) := by
  have gy := sform_gd (surP_form hy)
  have hs := surP_size hy
  unfold addST
  rw [neg_ok (gd_fit (by omega) gy), hy, h]
  simp only [Bool.and_self, if_true]
  have e : sumST (appS y z) (negS y) = toldST z := by unfold sumST; rw [sub_rest gy]
  rw [e]
  unfold toldST
  rw [hz]; rfl
/-! ### the walks -/
theorem icut_loop {k : Nat} {a : Rw} {e : S} {K : Int → Option (Rw × Bool)} (ge : gdS e) : ∀ (t : S) (v : Nat), t.sizeS + 1 < k → t.sizeS ≤ cap → gdS t → impl_CutSurreal_l0 k a e.rowsS K t.rowsS v = K ((v + (cutS t e).lenS : Nat) : Int)
  | nil, v, _, _, _ => rfl
  | cons f n d l, v, hk, hc, g => by
    simp only [sizeS] at hk hc
    simp only [rowsS, impl_CutSurreal_l0, cell_S]
    rw [order_eq k f e (by omega) (by omega) g.1 ge, Option.bind_some]
    simp only [cutS]
    split
    · rw [icut_loop ge l (v + 1) (by omega) (by omega) g.2.2]
      simp only [lenS]
      congr 1; omega
    · rfl
theorem icut_eq {k : Nat} {a e : S} (hk : a.sizeS + e.sizeS + 300 < k) (hc : a.sizeS + e.sizeS + 2 ≤ cap) : impl_CutSurreal k a.rowsS e.rowsS = some (if (surP a && surP e) = true then ((cutS a e).rowsS, true) else ([], false)) := by
  have hl := a.len_sizeS
  have hl2 := cut_len a e
  have hz := cut_size a e
  unfold impl_CutSurreal
  rw [surreals_eq k a e (by omega) (by omega) (by omega) (by omega), Option.bind_some]
  by_cases h : (surP a && surP e) = true
  · rw [if_pos h, if_pos h]
    rw [Bool.and_eq_true] at h
    rw [if_pos (by rw [rowsS_len]; omega), icut_loop (sform_gd (surP_form h.2)) a 0 (by omega) (by omega) (sform_gd (surP_form h.1))]
    rw [if_pos ⟨by omega, by rw [lenSI]; omega, rowsWideS a⟩, Int.toNat_natCast, Nat.zero_add, ← cut_take, sclone_eq k _ (by omega) (by omega)]; rfl
  · rw [if_neg h, if_neg h]
theorem scut_rest {k : Nat} {a : Rw} {e g : S} {K : Rw → Option (Rw × Bool)} (ge : gdS e) (gg : gdS g) (hg : ¬ 0 < cmpS g e) : ∀ (t acc : S), t.sizeS + 1 < k → t.sizeS ≤ cap → gdS t → aboveS g t → spec_CutSurreal_l0 k a e.rowsS K t.rowsS acc.rowsS = K acc.rowsS
  | nil, acc, _, _, _, _ => rfl
  | cons f n d l, acc, hk, hc, gt, ha => by
    simp only [sizeS] at hk hc
    simp only [rowsS, spec_CutSurreal_l0, cell_S]
    have hle : cmpS f e ≤ 0 := leS_trans gt.1 gg ge (by have := cmpS_neg g f; have := ha.1; omega) (by omega)
    rw [suCmp_eq k f e (by omega) (by omega) gt.1 ge, Option.bind_some, if_neg (by omega)]
    exact scut_rest ge gg hg l acc (by omega) (by omega) gt.2.2 ha.2
theorem scut_loop {k : Nat} {a : Rw} {e : S} {K : Rw → Option (Rw × Bool)} (ge : gdS e) : ∀ (t acc : S), t.sizeS + 1 < k → acc.sizeS + t.sizeS ≤ cap → gdS t → fallsS t → spec_CutSurreal_l0 k a e.rowsS K t.rowsS acc.rowsS = K (appS acc (cutS t e)).rowsS
  | nil, acc, _, _, _, _ => by simp only [cutS, app_nilS]; rfl
  | cons f n d l, acc, hk, hc, g, hf => by
    have hl := acc.len_sizeS
    simp only [sizeS] at hk hc
    simp only [rowsS, spec_CutSurreal_l0, cell_S]
    rw [suCmp_eq k f e (by omega) (by omega) g.1 ge, Option.bind_some]
    simp only [cutS]
    by_cases q : 0 < cmpS f e
    · rw [if_pos q, if_pos q, if_pos (by rw [rowsS_len]; omega), rowsS_snoc, scut_loop ge l _ (by omega) (by rw [size_appS]; simp only [sizeS]; omega) g.2.2 hf.2, app_assocS]; rfl
    · rw [if_neg q, if_neg q, scut_rest ge g.1 q l acc (by omega) (by omega) g.2.2 hf.1, app_nilS]
theorem scut_eq {k : Nat} {a e : S} (hk : a.sizeS + e.sizeS + 300 < k) (hc : a.sizeS + e.sizeS + 2 ≤ cap) : spec_CutSurreal k a.rowsS e.rowsS = some (if (surP a && surP e) = true then ((cutS a e).rowsS, true) else ([], false)) := by
  have hl := a.len_sizeS
  have hz := cut_size a e
  unfold spec_CutSurreal
  rw [suGood_all k a (by omega) (by omega), Option.bind_some]
  cases ha : surP a with
  | false => rfl
  | true =>
    rw [if_pos rfl, suGood_all k e (by omega) (by omega), Option.bind_some]
    cases he : surP e with
    | false => rfl
    | true =>
      obtain ⟨ga, fa⟩ := gd_fallsS ha
      have := scut_loop (k := k) (a := a.rowsS) (K := fun v30 => (spec_suOwn k v30).bind fun y50 => some (y50, true)) (sform_gd (surP_form he)) a nil (by omega) (by simp only [sizeS]; omega) ga fa
      rw [if_pos rfl, if_pos (by rw [rowsS_len]; omega)]
      refine this.trans ?_
      simp only [appS]
      rw [sown_eq k _ (by omega) (by omega)]; rfl
/-! ### common terms -/
def comS : S → S → Nat
  | cons e n d l, cons f m g r => if cmpS e f = 0 ∧ n = m ∧ d = g then 1 + comS l r else 0
  | _, _ => 0
theorem com_prefix (y z : S) : comS (appS y z) y = y.lenS := by
  induction y with
  | nil => cases z <;> rfl
  | cons e n d l _ ih => simp only [appS, comS, lenS]; rw [if_pos (by simp [cmpS_refl]), ih]; omega
theorem icom_loop {k : Nat} {a b : S} {K : Int → Option (Int × Bool)} (gb : gdS b) : ∀ (t : S) (v : Nat), t.sizeS + 1 < k → t.sizeS ≤ cap → gdS t → impl_CommonTerms_l0 k a.rowsS b.rowsS K t.rowsS v = K ((v + comS t (dropS b v) : Nat) : Int)
  | nil, v, _, _, _ => by cases h : dropS b v <;> rfl
  | cons e n d l, v, hk, hc, g => by
    have gd := gd_drop gb (i := v)
    simp only [sizeS] at hk hc
    simp only [rowsS, impl_CommonTerms_l0, cell_S]
    cases h : dropS b v with
    | nil =>
      have := drop_geS h
      rw [if_neg (by rw [lenSI]; omega)]; rfl
    | cons f m u r =>
      have := drop_ltS h
      rw [h] at gd
      have hm : ∀ {α : Type} (K : Rw → Int → Int → Option α), row_sii b.rowsS (v : Int) K = K f.rowsS m u := fun K => row_S rfl h K
      rw [if_pos (by rw [lenSI]; omega), hm, order_eq k e f (by omega) (by omega) g.1 gd.1, Option.bind_some]
      simp only [comS]
      by_cases q0 : cmpS e f = 0
      · rw [if_pos q0]
        by_cases q1 : n = m ∧ d = u
        · rw [if_pos (by simp [q1.1, q1.2]), if_pos ⟨q0, q1⟩, icom_loop gb l (v + 1) (by omega) (by omega) g.2.2, drop_succS h]
          congr 1; omega
        · rw [if_neg (by simpa using q1), if_neg (fun q => q1 q.2)]; rfl
      · rw [if_neg q0, if_neg (fun q => q0 q.1)]; rfl
theorem icom_eq {k : Nat} {a b : S} (hk : a.sizeS + b.sizeS + 300 < k) (hc : a.sizeS + b.sizeS + 2 ≤ cap) : impl_CommonTerms k a.rowsS b.rowsS = some (if (surP a && surP b) = true then ((comS a b : Int), true) else (0, false)) := by
  have hl := a.len_sizeS
  unfold impl_CommonTerms
  rw [surreals_eq k a b (by omega) (by omega) (by omega) (by omega), Option.bind_some]
  by_cases h : (surP a && surP b) = true
  · rw [if_pos h, if_pos h]
    rw [Bool.and_eq_true] at h
    unfold impl_CommonTerms_p2
    rw [if_pos (by rw [rowsS_len]; omega), icom_loop (sform_gd (surP_form h.2)) a 0 (by omega) (by omega) (sform_gd (surP_form h.1)), drop_zeroS, Nat.zero_add]; rfl
  · rw [if_neg h, if_neg h]
theorem scom_loop {k : Nat} {a b : S} {K : Int → Option (Int × Bool)} (gb : gdS b) : ∀ (t : S) (v : Nat), t.sizeS + 1 < k → t.sizeS ≤ cap → gdS t → spec_CommonTerms_l0 k a.rowsS b.rowsS K t.rowsS v = K ((v + comS t (dropS b v) : Nat) : Int)
  | nil, v, _, _, _ => by cases h : dropS b v <;> rfl
  | cons e n d l, v, hk, hc, g => by
    have gd := gd_drop gb (i := v)
    simp only [sizeS] at hk hc
    simp only [rowsS, spec_CommonTerms_l0, cell_S]
    cases h : dropS b v with
    | nil =>
      have := drop_geS h
      rw [if_neg (by rw [lenSI]; omega)]; rfl
    | cons f m u r =>
      have := drop_ltS h
      rw [h] at gd
      have hm : ∀ {α : Type} (K : Rw → Int → Int → Option α), row_sii b.rowsS (v : Int) K = K f.rowsS m u := fun K => row_S rfl h K
      rw [if_pos (by rw [lenSI]; omega), hm]
      simp only [comS]
      by_cases q1 : n = m ∧ d = u
      · rw [if_pos (by simp [q1.1, q1.2]), suCmp_eq k e f (by omega) (by omega) g.1 gd.1, Option.bind_some]
        by_cases q0 : cmpS e f = 0
        · rw [if_pos q0, if_pos ⟨q0, q1⟩, scom_loop gb l (v + 1) (by omega) (by omega) g.2.2, drop_succS h]
          congr 1; omega
        · rw [if_neg q0, if_neg (fun q => q0 q.1)]; rfl
      · rw [if_neg (by simpa using q1), if_neg (fun q => q1 q.2)]; rfl
theorem scom_eq {k : Nat} {a b : S} (hk : a.sizeS + b.sizeS + 300 < k) (hc : a.sizeS + b.sizeS + 2 ≤ cap) : spec_CommonTerms k a.rowsS b.rowsS = some (if (surP a && surP b) = true then ((comS a b : Int), true) else (0, false)) := by
  have hl := a.len_sizeS
  unfold spec_CommonTerms
  rw [suGood_all k a (by omega) (by omega), Option.bind_some]
  cases ha : surP a with
  | false => rfl
  | true =>
    rw [if_pos rfl, suGood_all k b (by omega) (by omega), Option.bind_some]
    cases hb : surP b with
    | false => rfl
    | true =>
      rw [if_pos rfl]
      unfold spec_CommonTerms_p2
      rw [if_pos (by rw [rowsS_len]; omega), scom_loop (sform_gd (surP_form hb)) a 0 (by omega) (by omega) (sform_gd (surP_form ha)), drop_zeroS, Nat.zero_add]; rfl
end Go.Proofs.Try

namespace Go.Proofs.Try
open Go Go.AX S
theorem sameS_loop {rec_ : Rw → Rw → Option Bool} {a : S} (hr : ∀ e : S, e.sizeS < a.sizeS → rec_ e.rowsS e.rowsS = some true) : ∀ (t : S) (i : Nat), dropS a i = t → laws_sameSurreal_l0 rec_ a.rowsS a.rowsS (some true) t.rowsS i = some true
  | nil, i, _ => rfl
  | cons e c c₂ l, i, hd => by
    have hs := drop_cons_sizeS hd
    simp only [rowsS, laws_sameSurreal_l0, cell_S]
    rw [row_S rfl hd, if_neg (by simp), hr e (by omega), Option.bind_some, if_pos rfl]
    exact sameS_loop hr l (i + 1) (drop_succS hd)
theorem sameS_refl : ∀ (k : Nat) (a : S), a.sizeS < k → a.sizeS ≤ cap → laws_sameSurreal k a.rowsS a.rowsS = some true
  | 0, _, h, _ => absurd h (Nat.not_lt_zero _)
  | k + 1, a, h, hc => by
    have hl := a.len_sizeS
    show laws_sameSurreal_b (laws_sameSurreal k) a.rowsS a.rowsS = _
    unfold laws_sameSurreal_b
    rw [if_pos rfl, if_pos (by rw [rowsS_len]; omega)]
    exact sameS_loop (fun e he => sameS_refl k e (by omega) (by omega)) a 0 (drop_zeroS a)
theorem drawCut_ok {k : Nat} {x : Rw} (hx : bytes x) (hk : 3000 < k) : ∃ a b : S, spec_DrawCutSurreal k x = some (a.rowsS, b.rowsS) ∧ a.sizeS ≤ 500 ∧ b.sizeS ≤ 500 := by
  have h3 : cap = 1099511627776 := rfl
  unfold spec_DrawCutSurreal
  obtain ⟨r, a1, c1, e1, p1, p2, ⟨a, rfl, ha⟩⟩ := anyS_ok (k := k) (x := x) (c := 0) hx hk (show (0 : Int) ≤ 0 by omega) (by omega)
  rw [e1, Option.bind_some]
  obtain ⟨b1, a2, c2, e2, q1, q2, _⟩ := one_ok (x := x) (a := a1) (c := c1) (m := 2) hx p1 (by omega) (by omega)
  simp only
  rw [e2, Option.bind_some]
  have any : ∀ {a3 c3 : Int}, 0 ≤ a3 → a3 ≤ 800000 → ∃ b : S, ((spec_l1Cur_anySurreal k x a3 c3).bind fun y => some (a.rowsS, y.1)) = some (a.rowsS, b.rowsS) ∧ b.sizeS ≤ 500 := by
    intro a3 c3 z1 z2
    obtain ⟨r, a4, c4, e4, _, _, ⟨b, rfl, hb⟩⟩ := anyS_ok (k := k) (x := x) (c := c3) hx hk z1 z2
    rw [e4]
    exact ⟨b, rfl, by omega⟩
  have other : ∃ a' b : S, ((spec_l1Cur_anySurreal k x a2 c2).bind fun y => some (a.rowsS, y.1)) = some (a'.rowsS, b.rowsS) ∧ a'.sizeS ≤ 500 ∧ b.sizeS ≤ 500 := by
    obtain ⟨b, e, hb⟩ := any (a3 := a2) (c3 := c2) q1 (by omega)
    exact ⟨a, b, e, by omega, hb⟩
  cases b1 with
  | false => simp only [Bool.false_eq_true, if_false]; exact other
  | true =>
    simp only [if_true]
    by_cases hl : (0 : Int) < (a.rowsS.length : Int)
    · rw [if_pos hl]
      obtain ⟨v, a3, c3, e3, s1, s2, s3⟩ := pick_ok (x := x) (a := a2) (c := c2) (m := (a.rowsS.length : Int)) hx q1 (by omega) (by omega)
      rw [e3, Option.bind_some]
      obtain ⟨n, rfl⟩ : ∃ n : Nat, v = n := ⟨v.toNat, by omega⟩
      rw [lenSI] at s3
      cases hd : dropS a n with
      | nil => have := drop_geS hd; omega
      | cons f m g r =>
        have hz := drop_cons_sizeS hd
        have hm : ∀ {α : Type} (K : Rw → Int → Int → Option α), row_sii a.rowsS (n : Int) K = K f.rowsS m g := fun K => row_S rfl hd K
        simp only
        rw [hm]
        exact ⟨a, f, rfl, by omega, by omega⟩
    · rw [if_neg hl]; exact other
theorem drawCom_ok {k : Nat} {x : Rw} (hx : bytes x) (hk : 3000 < k) : ∃ a b : S, spec_DrawCommonTerms k x = some (a.rowsS, b.rowsS) ∧ a.sizeS ≤ 500 ∧ b.sizeS ≤ 500 := by
  have h3 : cap = 1099511627776 := rfl
  have hg1 : gZ 1 = 21 ∧ gN 1 = 3368 ∧ gZ 2 = 66 ∧ gN 2 = 10946 := by decide
  unfold spec_DrawCommonTerms
  obtain ⟨r, a1, c1, e1, p1, p2, ⟨a, rfl, za, ga⟩⟩ := surreal_ok (x := x) hx 2 k 0 0 true (by omega) (by omega) (by omega) (by omega)
  have e0 : ((2 : Nat) : Int) = 2 := rfl
  rw [e0] at e1
  rw [e1, Option.bind_some]
  obtain ⟨r, a2, c2, e2, q1, q2, ⟨b, rfl, zb, gb⟩⟩ := surreal_ok (x := x) hx 1 k a1 c1 true (by omega) (by omega) p1 (by omega)
  have e0 : ((1 : Nat) : Int) = 1 := rfl
  rw [e0] at e2
  simp only
  rw [e2, Option.bind_some]
  simp only
  rw [suPlus_eq (by omega) (by omega) ga gb, Option.bind_some]
  have any : ∀ {a3 c3 : Int}, 0 ≤ a3 → a3 ≤ 800000 → ∃ b : S, ((spec_l1Cur_anySurreal k x a3 c3).bind fun y => some (a.rowsS, y.1)) = some (a.rowsS, b.rowsS) ∧ b.sizeS ≤ 500 := by
    intro a3 c3 z1 z2
    obtain ⟨r, a4, c4, e4, _, _, ⟨b, rfl, hb⟩⟩ := anyS_ok (k := k) (x := x) (c := c3) hx hk z1 z2
    rw [e4]
    exact ⟨b, rfl, by omega⟩
  cases hf : foldS a b with
  | none =>
    simp only [resS, Bool.false_eq_true, if_false]
    obtain ⟨b, e, hb⟩ := any (a3 := a2) (c3 := c2) q1 (by omega)
    exact ⟨a, b, e, by omega, hb⟩
  | some u =>
    have hz := fold_size hf
    simp only [resS, if_true]
    obtain ⟨b1, a3, c3, e3, s1, s2, _⟩ := one_ok (x := x) (a := a2) (c := c2) (m := 2) hx q1 (by omega) (by omega)
    rw [e3, Option.bind_some]
    cases b1 with
    | true => exact ⟨a, u, rfl, by omega, by omega⟩
    | false =>
      simp only [Bool.false_eq_true, if_false]
      obtain ⟨b, e, hb⟩ := any (a3 := a3) (c3 := c3) s1 (by omega)
      exact ⟨a, b, e, by omega, hb⟩
theorem nc_p7 {k : Nat} {y : Rw} (hy : bytes y) (hk : 3000 < k) : laws_FnNumbersCutOff_p7 k y = some true := by
  have h3 : cap = 1099511627776 := rfl
  unfold laws_FnNumbersCutOff_p7
  obtain ⟨a, b, e, za, zb⟩ := drawCom_ok hy hk
  rw [e, Option.bind_some]
  unfold laws_FnNumbersCutOff_p8
  rw [icom_eq (by omega) (by omega), Option.bind_some]
  have hs := scom_eq (k := k) (a := a) (b := b) (by omega) (by omega)
  by_cases h : (surP a && surP b) = true
  · rw [if_pos h] at hs ⊢
    simp only [if_true]
    unfold laws_FnNumbersCutOff_p9
    simp only [cond_true]
    rw [hs, Option.bind_some]
    simp [laws_FnNumbersCutOff_p10]
  · rw [if_neg h] at hs ⊢
    simp only [Bool.false_eq_true, if_false]
    unfold laws_FnNumbersCutOff_p9
    simp only [cond_false]
    rw [hs, Option.bind_some]
    simp [laws_FnNumbersCutOff_p10]
theorem lead_eq {k : Nat} {f l : S} {n d : Int} (h : surP (cons f n d l) = true) (hk : 1000 < k) : impl_LeadingOf k (cons f n d l).rowsS = some (f.rowsS, n, d, true) := by
  have h3 : cap = 1099511627776 := rfl
  have hs := surP_size h
  have hs2 := hs
  simp only [sizeS] at hs2
  unfold impl_LeadingOf
  rw [IsSurreal_eq k _ (by omega) (by omega), h, Option.bind_some, if_pos rfl, if_neg (by simp only [rowsS, List.length_cons]; omega), row_S0, sclone_eq k f (by omega) (by omega)]; rfl
theorem nc_p3 {k : Nat} {y : Rw} {a e : S} (hy : bytes y) (hk : 3000 < k) (za : a.sizeS ≤ 500) (ze : e.sizeS ≤ 500) : laws_FnNumbersCutOff_p3 k y a.rowsS e.rowsS = some true := by
  have h3 : cap = 1099511627776 := rfl
  have p7 := nc_p7 (k := k) hy hk
  unfold laws_FnNumbersCutOff_p3
  rw [icut_eq (by omega) (by omega), Option.bind_some]
  have hs := scut_eq (k := k) (a := a) (e := e) (by omega) (by omega)
  have hz := cut_size a e
  by_cases h : (surP a && surP e) = true
  · rw [if_pos h] at hs ⊢
    rw [Bool.and_eq_true] at h
    obtain ⟨ok1, ok2⟩ := cut_ok (e := e) h.1
    have hcr := cut_rest a e
    have hlen := cut_len a e
    have hal := a.len_sizeS
    have hp := com_prefix (cutS a e) (restS a e)
    have hadd := addST_rest ok1 ok2 (by rw [hcr]; exact h.1)
    rw [hcr] at hp hadd
    simp only [if_true]
    unfold laws_FnNumbersCutOff_p4
    simp only [cond_true]
    rw [hs, Option.bind_some]
    simp only [if_true]
    unfold laws_FnNumbersCutOff_p5
    simp only [cond_true]
    rw [sameS_refl k _ (by omega) (by omega), Option.bind_some, if_pos rfl]
    unfold laws_FnNumbersCutOff_p6
    simp only [cond_true]
    rw [icom_eq (by omega) (by omega), h.1, ok1, Option.bind_some]
    simp only [Bool.and_self, if_true]
    rw [isubR_eq (by omega) (by omega), hadd, Option.bind_some]
    simp only [if_true]
    rw [if_pos (by rw [lenSI, hp]), if_pos (by rw [lenSI, lenSI, hp, wid (by omega) (by omega)]; omega)]
    cases hr : restS a e with
    | nil => rw [if_neg (by simp [rowsS])]; exact p7
    | cons f n d l =>
      rw [if_pos (by simp only [rowsS, List.length_cons]; omega)]
      rw [hr] at ok2 hz
      have okf := exp_ok ok2
      have hle := rest_le hr
      have hs2 := surP_size ok2
      simp only [sizeS] at hs2
      rw [lead_eq ok2 (by omega), Option.bind_some]
      simp only [if_true]
      rw [icmpR_eq (by omega) (by omega), Option.bind_some]
      unfold cmpR
      rw [okf, h.2]
      simp only [Bool.and_self, if_true]
      rw [if_neg (by omega)]; exact p7
  · rw [if_neg h] at hs ⊢
    simp only [Bool.false_eq_true, if_false]
    unfold laws_FnNumbersCutOff_p4
    simp only [cond_false]
    rw [hs, Option.bind_some]
    simp only [Bool.false_eq_true, if_false]
    unfold laws_FnNumbersCutOff_p5
    simp only [cond_false]
    have h0 : laws_sameSurreal k ([] : Rw) ([] : Rw) = some true := sameS_refl k .nil (by simp only [sizeS]; omega) (by simp only [sizeS]; omega)
    rw [h0, Option.bind_some, if_pos rfl]
    unfold laws_FnNumbersCutOff_p6
    simp only [cond_false]
    exact p7
theorem FnNumbersCutOff_pure {x y : Rw} (hx : bytes x) (hy : bytes y) : laws_FnNumbersCutOff 5001 x y = some true := by
  unfold laws_FnNumbersCutOff laws_big
  obtain ⟨a, b, e, za, zb⟩ := drawCut_ok (k := 5001) hx (by omega)
  have p2 : laws_FnNumbersCutOff_p2 5001 x y = some true := by
    unfold laws_FnNumbersCutOff_p2
    rw [e, Option.bind_some]
    exact nc_p3 hy (by omega) za zb
  split
  · rfl
  · split
    · rfl
    · rw [Option.bind_some, if_neg (by decide)]; exact p2
end Go.Proofs.Try

namespace Go.Proofs.Try
open Go Go.AX
def structTs (P : Program) (t : TypeId) : Option (List TypeId) := match P.underlying t with
  | some (.struct fs) => some (fs.toList.map fun f => f.type)
  | _ => none
def sliceT (P : Program) (t : TypeId) : Option TypeId := match P.underlying t with
  | some (.slice e) => some e
  | _ => none
def intT? (P : Program) (t : TypeId) : Option IntKind := match P.underlying t with
  | some (.int k) => some k
  | _ => none
def HasTs (H : TypeId → List D → Prop) : List TypeId → List D → Prop
  | [], ds => ds = []
  | t :: l, ds => ∃ a b, ds = a ++ b ∧ H t a ∧ HasTs H l b
theorem hasTs_of {H : TypeId → List D → Prop} : ∀ {l : List Field} {ds : List D}, HasFs H l ds → HasTs H (l.map fun f => f.type) ds
  | [], _, h => h
  | _ :: _, _, ⟨a, b, e, h1, h2⟩ => ⟨a, b, e, h1, hasTs_of h2⟩
theorem has_struct {P : Program} {n : Nat} {t : TypeId} {l : List TypeId} {ds : List D} (h : Has P (n + 1) t ds) (e : structTs P t = some l) : HasTs (Has P n) l ds := by
  unfold structTs at e
  simp only [Has] at h
  split at e
  · rename_i fs hu
    rw [hu] at h
    cases e
    exact hasTs_of h
  · cases e
theorem has_slice {P : Program} {n : Nat} {t u : TypeId} {ds : List D} (h : Has P (n + 1) t ds) (e : sliceT P t = some u) : ∃ es, ds = [.sl es] ∧ es.length ≤ maxLen ∧ ∀ r ∈ es, Has P n u r := by
  unfold sliceT at e
  simp only [Has] at h
  split at e
  · rename_i v hu
    rw [hu] at h
    cases e
    exact h
  · cases e
theorem has_int {P : Program} {n : Nat} {t : TypeId} {k : IntKind} {ds : List D} (h : Has P (n + 1) t ds) (e : intT? P t = some k) : ∃ i, ds = [.int k i] ∧ (Lit.int k i).wf = true := by
  unfold intT? at e
  simp only [Has] at h
  split at e
  · rename_i v hu
    rw [hu] at h
    cases e
    exact h
  · cases e
theorem has_bool {P : Program} {n : Nat} {t : TypeId} {ds : List D} (h : Has P (n + 1) t ds) (e : (match P.underlying t with | some .bool => true | _ => false) = true) : ∃ b, ds = [.bool b] := by
  simp only [Has] at h
  split at e
  · rename_i hu
    rw [hu] at h
    exact h
  · cases e
theorem has_str {P : Program} {n : Nat} {t : TypeId} {ds : List D} (h : Has P (n + 1) t ds) (e : (match P.underlying t with | some .string => true | _ => false) = true) : ∃ b, ds = [.str b] ∧ b.size ≤ maxLen := by
  simp only [Has] at h
  split at e
  · rename_i hu
    rw [hu] at h
    exact h
  · cases e
/-- Bytes. -/
def bytesOf (x : Rw) : Prop := ∀ r ∈ x, ∃ b : Int, r = [.int .u8 b] ∧ 0 ≤ b ∧ b < 256
theorem has_bytes {P : Program} {n : Nat} {t u : TypeId} {ds : List D} (h : Has P n t ds) (e : sliceT P t = some u) (e2 : intT? P u = some .u8) : ∃ es, ds = [.sl es] ∧ bytesOf es := by
  cases n with
  | zero => exact h.elim
  | succ n =>
    obtain ⟨es, rfl, _, hr⟩ := has_slice h e
    refine ⟨es, rfl, fun r hm => ?_⟩
    have hh := hr r hm
    cases n with
    | zero => exact hh.elim
    | succ n =>
      obtain ⟨i, rfl, hw⟩ := has_int hh e2
      have e1 : IntKind.u8.min = 0 := by decide
      have e2 : IntKind.u8.max = 255 := by decide
      simp only [Lit.wf, e1, e2, Bool.and_eq_true, decide_eq_true_eq] at hw
      exact ⟨i, rfl, by omega, by omega⟩
theorem argA_agg {P : Program} {t : TypeId} (e : aggT P t = true) (ds : List D) : argA P t ds = .agg (ds.map .d) := by unfold argA; rw [e]
theorem argA_one {P : Program} {t : TypeId} (e : aggT P t = false) (ds : List D) : argA P t ds = .d (ds.headD (.bool false)) := by unfold argA; rw [e]
theorem has_int1 {P : Program} {n : Nat} {t : TypeId} {k : IntKind} {ds : List D} (h : Has P n t ds) (e : intT? P t = some k) : ∃ i, ds = [.int k i] ∧ (Lit.int k i).wf = true := by
  cases n with
  | zero => exact h.elim
  | succ n => exact has_int h e
end Go.Proofs.Try

namespace Go.Proofs.Try
open Go Go.AX
set_option maxRecDepth 100000 in
theorem FnNumbersCutOff_true {n0 n1 : Nat} {c0 c1 : List D} (w0 : Has prog n0 22 c0) (w1 : Has prog n1 22 c1) : Ct prog 3 [argA prog 22 c0, argA prog 22 c1] ⟨[], []⟩ (.d (.bool true)) ⟨[], []⟩ := by
  obtain ⟨u, rfl, bu⟩ := has_bytes w0 (u := 5) (by kernel_rfl) (by kernel_rfl)
  obtain ⟨v, rfl, bv⟩ := has_bytes w1 (u := 5) (by kernel_rfl) (by kernel_rfl)
  rw [argA_one (t := 22) (by kernel_rfl), argA_one (t := 22) (by kernel_rfl)]
  exact laws_FnNumbersCutOff_ct (FnNumbersCutOff_pure bu bv)
end Go.Proofs.Try
