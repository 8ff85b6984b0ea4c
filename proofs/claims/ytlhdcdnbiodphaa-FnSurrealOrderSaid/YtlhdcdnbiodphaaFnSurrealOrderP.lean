/- What the printed functions compute: plain data. -/
import Derived.Test.YtlhdcdnbiodphaaSharedSo
set_option linter.unusedVariables false
set_option linter.unusedSimpArgs false
namespace Go.Proofs.Try
open Go Go.AX S
theorem qSign_eq (a : S) (g : gdS a) : laws_qSign a.rowsS = some (sgS a) := by
  unfold laws_qSign
  cases a with
  | nil => rfl
  | cons e n d l =>
    have := g.2.1.2
    rw [if_neg (by simp only [rowsS, List.length_cons]; omega), row_S0]
    simp only [sgS]
    by_cases h : 0 < n
    · rw [if_pos h, sg_one.2 h]
    · rw [if_neg h, sg_neg.2 (by omega)]
def cmpR (a b : S) : Int × Bool := if (surP a && surP b) = true then (cmpS a b, true) else (0, false)
theorem icmpR_eq {k : Nat} {a b : S} (hk : a.sizeS + b.sizeS + 300 < k) (hc : a.sizeS + b.sizeS + 2 ≤ cap) : impl_CompareSurreals k a.rowsS b.rowsS = some (cmpR a b) := by
  unfold impl_CompareSurreals cmpR
  rw [surreals_eq k a b (by omega) (by omega) (by omega) (by omega), Option.bind_some]
  by_cases h : (surP a && surP b) = true
  · rw [if_pos h, if_pos h]
    rw [Bool.and_eq_true] at h
    rw [order_eq k a b (by omega) (by omega) (sform_gd (surP_form h.1)) (sform_gd (surP_form h.2))]; rfl
  · rw [if_neg h, if_neg h]
theorem scmpR_eq {k : Nat} {a b : S} (hk : a.sizeS + b.sizeS + 300 < k) (hc : a.sizeS + b.sizeS + 2 ≤ cap) : spec_CompareSurreals k a.rowsS b.rowsS = some (cmpR a b) := by
  unfold spec_CompareSurreals cmpR
  rw [suGood_all k a (by omega) (by omega), Option.bind_some]
  cases ha : surP a with
  | false => rfl
  | true =>
    rw [if_pos rfl, suGood_all k b (by omega) (by omega), Option.bind_some]
    cases hb : surP b with
    | false => rfl
    | true => rw [if_pos rfl, suCmp_eq k a b (by omega) (by omega) (sform_gd (surP_form ha)) (sform_gd (surP_form hb))]; rfl
theorem isubR_eq {k : Nat} {a b : S} (hk : a.sizeS + b.sizeS + 300 < k) (hc : a.sizeS + b.sizeS + 2 ≤ cap) : impl_SubtractSurreals k a.rowsS b.rowsS = some ((addST a (negS b)).1.rowsS, (addST a (negS b)).2) := by
  have hl := b.len_sizeS
  have hz := neg_size b
  unfold impl_SubtractSurreals
  rw [(neg_eq (t := b) (by omega)).1]
  simp only [Option.bind_some]
  rw [iaddS_eq (k := k) (a := a) (b := negS b) (by omega) (by omega)]
  simp only [Option.bind_some]
  cases (addST a (negS b)).2 <;> rfl
theorem subR_sign {a b : S} (ha : surP a = true) (hb : surP b = true) (h : (addST a (negS b)).2 = true) : gdS (addST a (negS b)).1 ∧ sgS (addST a (negS b)).1 = cmpS a b := by
  obtain ⟨ga, fa⟩ := gd_fallsS ha
  obtain ⟨gb, fb⟩ := gd_fallsS hb
  have hs := surP_size hb
  have hf := gd_fit (by omega) gb
  have hn := neg_ok hf
  obtain ⟨gn, _⟩ := gd_fallsS (hn.trans hb)
  unfold addST at h ⊢
  rw [hn, ha, hb] at h ⊢
  simp only [Bool.and_self, if_true] at h ⊢
  cases hq : foldS a (negS b) with
  | none => have e : sumST a (negS b) = (nil, false) := by unfold sumST; rw [hq]
            rw [e] at h; cases h
  | some r =>
    have e : sumST a (negS b) = toldST r := by unfold sumST; rw [hq]
    rw [e] at h ⊢
    unfold toldST at h ⊢
    cases hr : surP r with
    | false => rw [hr] at h; cases h
    | true => exact ⟨fold_gd ga gn hq, sub_sign ga gb fa fb hq⟩
theorem omega_eq {k : Nat} {a : S} (hk : a.sizeS + 400 < k) (hc : a.sizeS + 2 ≤ cap) : ∃ (r : S) (ok : Bool), impl_OmegaTo k a.rowsS = some (r.rowsS, ok) ∧ (ok = true → r = cons a 1 1 nil ∧ surP r = true) := by
  unfold impl_OmegaTo
  rw [IsSurreal_eq k a (by omega) (by omega), Option.bind_some]
  cases surP a with
  | false => exact ⟨nil, false, rfl, by simp⟩
  | true =>
    rw [if_pos rfl]
    have ht : impl_term a.rowsS 1 1 = some (cons a 1 1 nil).rowsS := by unfold impl_term; rw [if_neg (by decide)]; rfl
    simp only [impl_whole, Option.bind_some]
    rw [ht, Option.bind_some, toldSur_eq k _ (by simp only [sizeS]; omega) (by simp only [sizeS]; omega), Option.bind_some]
    cases hs : surP (cons a 1 1 nil) with
    | false => exact ⟨nil, false, by simp only [toldST, hs]; rfl, by simp⟩
    | true => exact ⟨cons a 1 1 nil, true, by simp only [toldST, hs]; rfl, fun _ => ⟨rfl, hs⟩⟩
theorem cmp_omega (a b : S) : cmpS (cons a 1 1 nil) (cons b 1 1 nil) = cmpS a b := by
  have hr := cmpS_range a b
  simp only [cmpS]
  have h1 : sg 1 = 1 := rfl
  have h2 : cmpF 1 1 1 1 = 0 := rfl
  by_cases q1 : cmpS a b = 1
  · rw [if_pos q1, q1, h1]
  · by_cases q2 : cmpS a b = -1
    · rw [if_neg q1, if_pos q2, q2, h1]
    · rw [if_neg q1, if_neg q2, if_pos h2]; omega
theorem small_eq {k : Nat} {a b : S} (ha : surP (cons a 1 1 nil) = true) (hb : surP (cons b 1 1 nil) = true) (hk : a.sizeS + b.sizeS + 400 < k) (hc : a.sizeS + b.sizeS + 4 ≤ cap) : impl_IsNegligible k (cons a 1 1 nil).rowsS (cons b 1 1 nil).rowsS = some (decide (cmpS a b < 0), true) := by
  have g1 := sform_gd (surP_form ha)
  have g2 := sform_gd (surP_form hb)
  unfold impl_IsNegligible
  rw [surreals_eq k _ _ (by simp only [sizeS]; omega) (by simp only [sizeS]; omega) (by simp only [sizeS]; omega) (by simp only [sizeS]; omega), ha, hb, Option.bind_some]
  simp only [Bool.and_self, if_true]
  unfold impl_negligible
  rw [if_neg (by simp only [rowsS, List.length_cons]; omega), if_neg (by simp only [rowsS, List.length_cons]; omega), row_S0, row_S0, order_eq k a b (by omega) (by omega) g1.1 g2.1, Option.bind_some]
  by_cases h : cmpS a b < 0
  · rw [if_pos h]; simp [h]
  · rw [if_neg h]; simp [h]
theorem leS_trans {a b c : S} (ga : gdS a) (gb : gdS b) (gc : gdS c) (h1 : cmpS a b ≤ 0) (h2 : cmpS b c ≤ 0) : cmpS a c ≤ 0 := by
  have r1 := cmpS_range a b
  have r2 := cmpS_range b c
  by_cases e1 : cmpS a b = 0
  · obtain rfl := (cmpS_eq ga gb).1 e1; exact h2
  · by_cases e2 : cmpS b c = 0
    · obtain rfl := (cmpS_eq gb gc).1 e2; exact h1
    · have n1 := cmpS_neg a b
      have n2 := cmpS_neg b c
      have := cmpS_trans gc gb ga (by omega) (by omega)
      have n3 := cmpS_neg a c
      omega
theorem so_p13 {k : Nat} {y : Rw} {a b : S} (hy : bytes y) (hk : 3000 < k) (za : a.sizeS ≤ 500) (zb : b.sizeS ≤ 500) (ha : surP a = true) (hb : surP b = true) : laws_FnSurrealOrder_p13 k y (cmpS a b) a.rowsS b.rowsS = some true := by
  have h3 : cap = 1099511627776 := rfl
  unfold laws_FnSurrealOrder_p13
  obtain ⟨c, d, e, zc, _⟩ := drawAddS_ok hy hk
  rw [e, Option.bind_some]
  simp only
  unfold laws_FnSurrealOrder_p14
  rw [icmpR_eq (by omega) (by omega), Option.bind_some]
  unfold cmpR
  rw [hb]
  cases hc : surP c with
  | false => rfl
  | true =>
    simp only [Bool.and_self, if_true]
    split
    · rename_i h1
      split
      · rename_i h2
        rw [icmpR_eq (by omega) (by omega), Option.bind_some]
        unfold cmpR
        rw [ha, hc]
        simp only [Bool.and_self, if_true]
        rw [if_pos (leS_trans (sform_gd (surP_form ha)) (sform_gd (surP_form hb)) (sform_gd (surP_form hc)) h1 h2)]
      · rfl
    · rfl
theorem so_p3 {k : Nat} {y : Rw} {a b : S} (hy : bytes y) (hk : 3000 < k) (za : a.sizeS ≤ 500) (zb : b.sizeS ≤ 500) : laws_FnSurrealOrder_p3 k y a.rowsS b.rowsS = some true := by
  have h3 : cap = 1099511627776 := rfl
  unfold laws_FnSurrealOrder_p3
  rw [icmpR_eq (by omega) (by omega), Option.bind_some]
  have hs := scmpR_eq (k := k) (a := a) (b := b) (by omega) (by omega)
  have hb0 := icmpR_eq (k := k) (a := b) (b := a) (by omega) (by omega)
  by_cases hg : (surP a && surP b) = true
  · have hab : cmpR a b = (cmpS a b, true) := by unfold cmpR; rw [if_pos hg]
    rw [Bool.and_eq_true] at hg
    have hba : cmpR b a = (cmpS b a, true) := by unfold cmpR; rw [hg.1, hg.2]; rfl
    rw [hab] at hs ⊢
    rw [hba] at hb0
    have hr := cmpS_range a b
    have hn := cmpS_neg a b
    have p13 := so_p13 (k := k) (y := y) hy hk za zb hg.1 hg.2
    have p10 : laws_FnSurrealOrder_p10 k y (cmpS a b) a.rowsS b.rowsS = some true := by
      unfold laws_FnSurrealOrder_p10
      obtain ⟨v, ok1, e1, f1⟩ := omega_eq (k := k) (a := a) (by omega) (by omega)
      obtain ⟨w, ok2, e2, f2⟩ := omega_eq (k := k) (a := b) (by omega) (by omega)
      have p12 : laws_FnSurrealOrder_p12 k y (cmpS a b) a.rowsS b.rowsS v.rowsS w.rowsS ok1 ok2 = some true := by
        unfold laws_FnSurrealOrder_p12
        cases ok1 with
        | false => cases ok2 <;> exact p13
        | true =>
          cases ok2 with
          | false => exact p13
          | true =>
            obtain ⟨rfl, s1⟩ := f1 rfl
            obtain ⟨rfl, s2⟩ := f2 rfl
            simp only [cond_true]
            rw [icmpR_eq (by simp only [sizeS]; omega) (by simp only [sizeS]; omega), Option.bind_some]
            unfold cmpR
            rw [s1, s2]
            simp only [Bool.and_self, if_true]
            rw [small_eq s1 s2 (by omega) (by omega), Option.bind_some, cmp_omega]
            simp only [if_true]
            by_cases q : cmpS a b < 0
            · simp only [q, decide_true, if_true]; exact p13
            · simp only [q, decide_false, Bool.false_eq_true, if_false]; exact p13
      rw [e1, Option.bind_some]
      cases ok1 with
      | true =>
        simp only [if_true]
        unfold laws_FnSurrealOrder_p11
        simp only [cond_true]
        rw [e2, Option.bind_some]
        cases ok2 <;> exact p12
      | false =>
        simp only [Bool.false_eq_true, if_false]
        unfold laws_FnSurrealOrder_p11
        simp only [cond_false]
        rw [e2, Option.bind_some]
        cases ok2 <;> exact p12
    simp only [if_true]
    unfold laws_FnSurrealOrder_p4
    simp only [cond_true]
    rw [hs, Option.bind_some]
    simp only [if_true]
    unfold laws_FnSurrealOrder_p5
    simp only [cond_true, if_true]
    rw [hb0, Option.bind_some]
    simp only [if_true]
    unfold laws_FnSurrealOrder_p8
    simp only [cond_true]
    rw [wid (n := 0 - cmpS a b) (by omega) (by omega), if_pos (by omega), isubR_eq (by omega) (by omega), Option.bind_some]
    simp only
    cases hd : (addST a (negS b)).2 with
    | false => simp only [Bool.false_eq_true, if_false]; exact p10
    | true =>
      obtain ⟨g, e⟩ := subR_sign hg.1 hg.2 hd
      simp only [if_true]
      rw [qSign_eq _ g, Option.bind_some, if_pos e]; exact p10
  · have hab : cmpR a b = (0, false) := by unfold cmpR; rw [if_neg hg]
    rw [hab] at hs ⊢
    simp only [Bool.false_eq_true, if_false]
    unfold laws_FnSurrealOrder_p4
    simp only [cond_false]
    rw [hs, Option.bind_some]
    rfl
theorem FnSurrealOrder_pure {x y : Rw} (hx : bytes x) (hy : bytes y) : laws_FnSurrealOrder 5001 x y = some true := by
  have h3 : cap = 1099511627776 := rfl
  unfold laws_FnSurrealOrder laws_big
  obtain ⟨a, b, e, za, zb⟩ := drawAddS_ok (k := 5001) hx (by omega)
  have p2 : laws_FnSurrealOrder_p2 5001 x y = some true := by
    unfold laws_FnSurrealOrder_p2
    rw [e, Option.bind_some]
    exact so_p3 hy (by omega) za zb
  split
  · rfl
  · split
    · rfl
    · rw [Option.bind_some, if_neg (by decide)]; exact p2
end Go.Proofs.Try

namespace Go.Proofs.Try
open Go Go.AX
def structTs (P : Program) (t : TypeId) : Option (List TypeId) := match P.underlying t with
  | some (.struct fs) => some (fs.toList.map fun f => f.type)
  | _ => none
def sliceT (P : Program) (t : TypeId) : Option TypeId := match P.underlying t with
  | some (.slice e) => some e
  | _ => none
def intT? (P : Program) (t : TypeId) : Option IntKind := match P.underlying t with
  | some (.int k) => some k
  | _ => none
def HasTs (H : TypeId → List D → Prop) : List TypeId → List D → Prop
  | [], ds => ds = []
  | t :: l, ds => ∃ a b, ds = a ++ b ∧ H t a ∧ HasTs H l b
theorem hasTs_of {H : TypeId → List D → Prop} : ∀ {l : List Field} {ds : List D}, HasFs H l ds → HasTs H (l.map fun f => f.type) ds
  | [], _, h => h
  | _ :: _, _, ⟨a, b, e, h1, h2⟩ => ⟨a, b, e, h1, hasTs_of h2⟩
theorem has_struct {P : Program} {n : Nat} {t : TypeId} {l : List TypeId} {ds : List D} (h : Has P (n + 1) t ds) (e : structTs P t = some l) : HasTs (Has P n) l ds := by
  unfold structTs at e
  simp only [Has] at h
  split at e
  · rename_i fs hu
    rw [hu] at h
    cases e
    exact hasTs_of h
  · cases e
theorem has_slice {P : Program} {n : Nat} {t u : TypeId} {ds : List D} (h : Has P (n + 1) t ds) (e : sliceT P t = some u) : ∃ es, ds = [.sl es] ∧ es.length ≤ maxLen ∧ ∀ r ∈ es, Has P n u r := by
  unfold sliceT at e
  simp only [Has] at h
  split at e
  · rename_i v hu
    rw [hu] at h
    cases e
    exact h
  · cases e
theorem has_int {P : Program} {n : Nat} {t : TypeId} {k : IntKind} {ds : List D} (h : Has P (n + 1) t ds) (e : intT? P t = some k) : ∃ i, ds = [.int k i] ∧ (Lit.int k i).wf = true := by
  unfold intT? at e
  simp only [Has] at h
  split at e
  · rename_i v hu
    rw [hu] at h
    cases e
    exact h
  · cases e
theorem has_bool {P : Program} {n : Nat} {t : TypeId} {ds : List D} (h : Has P (n + 1) t ds) (e : (match P.underlying t with | some .bool => true | _ => false) = true) : ∃ b, ds = [.bool b] := by
  simp only [Has] at h
  split at e
  · rename_i hu
    rw [hu] at h
    exact h
  · cases e
theorem has_str {P : Program} {n : Nat} {t : TypeId} {ds : List D} (h : Has P (n + 1) t ds) (e : (match P.underlying t with | some .string => true | _ => false) = true) : ∃ b, ds = [.str b] ∧ b.size ≤ maxLen := by
  simp only [Has] at h
  split at e
  · rename_i hu
    rw [hu] at h
    exact h
  · cases e
/-- Bytes. -/
def bytesOf (x : Rw) : Prop := ∀ r ∈ x, ∃ b : Int, r = [.int .u8 b] ∧ 0 ≤ b ∧ b < 256
theorem has_bytes {P : Program} {n : Nat} {t u : TypeId} {ds : List D} (h : Has P n t ds) (e : sliceT P t = some u) (e2 : intT? P u = some .u8) : ∃ es, ds = [.sl es] ∧ bytesOf es := by
  cases n with
  | zero => exact h.elim
  | succ n =>
    obtain ⟨es, rfl, _, hr⟩ := has_slice h e
    refine ⟨es, rfl, fun r hm => ?_⟩
    have hh := hr r hm
    cases n with
    | zero => exact hh.elim
    | succ n =>
      obtain ⟨i, rfl, hw⟩ := has_int hh e2
      have e1 : IntKind.u8.min = 0 := by decide
      have e2 : IntKind.u8.max = 255 := by decide
      simp only [Lit.wf, e1, e2, Bool.and_eq_true, decide_eq_true_eq] at hw
      exact ⟨i, rfl, by omega, by omega⟩
theorem argA_agg {P : Program} {t : TypeId} (e : aggT P t = true) (ds : List D) : argA P t ds = .agg (ds.map .d) := by unfold argA; rw [e]
theorem argA_one {P : Program} {t : TypeId} (e : aggT P t = false) (ds : List D) : argA P t ds = .d (ds.headD (.bool false)) := by unfold argA; rw [e]
theorem has_int1 {P : Program} {n : Nat} {t : TypeId} {k : IntKind} {ds : List D} (h : Has P n t ds) (e : intT? P t = some k) : ∃ i, ds = [.int k i] ∧ (Lit.int k i).wf = true := by
  cases n with
  | zero => exact h.elim
  | succ n => exact has_int h e
end Go.Proofs.Try

namespace Go.Proofs.Try
open Go Go.AX
set_option maxRecDepth 100000 in
theorem FnSurrealOrder_true {n0 n1 : Nat} {c0 c1 : List D} (w0 : Has prog n0 22 c0) (w1 : Has prog n1 22 c1) : Ct prog 9 [argA prog 22 c0, argA prog 22 c1] ⟨[], []⟩ (.d (.bool true)) ⟨[], []⟩ := by
  obtain ⟨u, rfl, bu⟩ := has_bytes w0 (u := 5) (by kernel_rfl) (by kernel_rfl)
  obtain ⟨v, rfl, bv⟩ := has_bytes w1 (u := 5) (by kernel_rfl) (by kernel_rfl)
  rw [argA_one (t := 22) (by kernel_rfl), argA_one (t := 22) (by kernel_rfl)]
  exact laws_FnSurrealOrder_ct (FnSurrealOrder_pure bu bv)
end Go.Proofs.Try
