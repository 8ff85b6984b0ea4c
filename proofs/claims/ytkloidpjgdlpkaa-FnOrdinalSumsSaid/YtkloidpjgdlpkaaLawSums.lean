/- Pure: FnOrdinalSums answers true. -/
import Derived.Test.YtkloidpjgdlpkaaOrdLaw
namespace Go.Proofs.Try
open Go Go.AX T
theorem addT_ok {a b : T} (h : (addT a b).2 = true) : ordP a = true ∧ ordP b = true ∧ ordP (plusT a b) = true ∧ (addT a b).1 = plusT a b := by
  unfold addT toldT at *
  cases ha : ordP a <;> cases hb : ordP b <;> simp only [ha, hb, Bool.and_self, Bool.and_true, Bool.and_false, if_true] at h ⊢ <;> try (simp at h)
  cases hs : ordP (plusT a b) <;> simp [hs] at h ⊢
theorem addT_of {a b : T} (ha : ordP a = true) (hb : ordP b = true) (hs : ordP (plusT a b) = true) : addT a b = (plusT a b, true) := by
  unfold addT toldT
  rw [ha, hb, Bool.and_self, if_pos rfl, if_pos hs]
theorem sums_p16 {k : Nat} {a b s c : T} (hk : 2000 < k) (hab : addT a b = (s, true)) (za : a.size ≤ 300) (zb : b.size ≤ 300) (zc : c.size ≤ 300) : laws_FnOrdinalSums_p16 k a.rows b.rows s.rows c.rows = some true := by
  have h3 : cap = 1099511627776 := rfl
  obtain ⟨oa, ob, os, es⟩ := addT_ok (a := a) (b := b) (by rw [hab])
  rw [hab] at es
  subst es
  have zs := plusT_size a b
  unfold laws_FnOrdinalSums_p16
  rw [IsOrdinal_eq k c (by omega) (by omega), Option.bind_some]
  cases oc : ordP c with
  | false => rfl
  | true =>
    rw [if_pos rfl]
    unfold laws_FnOrdinalSums_p17
    rw [AddOrdinals_eq k _ c (by omega) (by omega), Option.bind_some]
    have p18 : ∀ f, (f = (addT (plusT a b) c).2) → laws_FnOrdinalSums_p18 k a.rows b.rows c.rows (addT (plusT a b) c).1.rows f = some true := by
      intro f hf
      unfold laws_FnOrdinalSums_p18
      rw [AddOrdinals_eq k b c (by omega) (by omega), Option.bind_some]
      cases hbc : (addT b c).2 with
      | false => cases f <;> (simp only [cond, Bool.false_eq_true, if_false]; rfl)
      | true =>
        obtain ⟨_, _, obc, ebc⟩ := addT_ok hbc
        have zbc := plusT_size b c
        cases f with
        | false => simp only [cond, if_true]; rfl
        | true =>
          obtain ⟨_, _, oabc, eabc⟩ := addT_ok hf.symm
          have zabc := plusT_size (plusT a b) c
          have asc := plusT_assoc (ordP_form oa) (ordP_form ob) (ordP_form oc)
          simp only [cond, if_true]
          unfold laws_FnOrdinalSums_p19
          simp only [cond]
          rw [ebc, eabc, AddOrdinals_eq k a _ (by omega) (by omega), Option.bind_some, addT_of oa obc (by rw [asc]; exact oabc), if_pos rfl, asc]
          simp only
          rw [same_refl k _ (by omega) (by omega), Option.bind_some, if_pos rfl]; rfl
    cases hf : (addT (plusT a b) c).2 with
    | false => simp only [Bool.false_eq_true, if_false]; exact p18 _ hf.symm
    | true => simp only [if_true]; exact p18 _ hf.symm
theorem sums_p12 {k : Nat} {a b s : T} {f : Bool} {y : Rw} (hk : 2000 < k) (hy : bytes y) (hab : addT a b = (s, f)) (za : a.size ≤ 300) (zb : b.size ≤ 300) : laws_FnOrdinalSums_p12 k y a.rows b.rows s.rows f = some true := by
  have h3 : cap = 1099511627776 := rfl
  cases f with
  | false => rfl
  | true =>
    obtain ⟨oa, ob, os, es⟩ := addT_ok (a := a) (b := b) (by rw [hab])
    rw [hab] at es
    have zs := plusT_size a b
    have hsub := sub_plus oa ob os
    unfold laws_FnOrdinalSums_p12
    simp only [cond]
    simp only at es
    subst es
    rw [SubtractLeft_eq k _ a (by omega) (by omega) (by omega) (by omega), Option.bind_some, hsub]
    simp only [if_true]
    unfold laws_FnOrdinalSums_p14
    simp only [cond]
    rw [same_refl k _ (by omega) (by omega), Option.bind_some, if_pos rfl]
    unfold laws_FnOrdinalSums_p15
    obtain ⟨c, c2, e, z1, _, _, _⟩ := drawSums_ok (k := k) hy (by omega)
    rw [e, Option.bind_some]
    exact sums_p16 hk hab za zb z1
theorem sums_p3 {k : Nat} {a b : T} {y : Rw} (hk : 2000 < k) (hy : bytes y) (za : a.size ≤ 300) (zb : b.size ≤ 300) (sa : sm 1000000000 a) (sb : sm 1000000000 b) : laws_FnOrdinalSums_p3 k y a.rows b.rows = some true := by
  have h3 : cap = 1099511627776 := rfl
  have qa := sm_calm sa (by omega)
  have qb := sm_calm sb (by omega)
  have p12 := sums_p12 (k := k) (a := a) (b := b) (s := (addT a b).1) (f := (addT a b).2) hk hy rfl za zb
  have zs : (addT a b).1.size ≤ 600 := by
    have := plusT_size a b
    unfold addT toldT
    split
    · split
      · simp only; omega
      · simp [size]
    · simp [size]
  have zd : (subT a b).1.size ≤ 300 := by
    have := lessT_size a b
    unfold subT toldT
    split
    · split
      · simp [size]
      · split
        · simp only; omega
        · simp [size]
    · simp [size]
  have hcmp : (subT a b).2 = true → ¬ (cmpO a b).1 < 0 := by
    unfold subT cmpO
    split
    · split
      · intro h; cases h
      · intro _; simp only; omega
    · intro h; cases h
  have c0 := CompareOrdinals_eq k a b (by omega) (by omega) (by omega) (by omega)
  have c1 := sCompare_eq k a b (by omega) (by omega) (by omega) (by omega) qa qb
  have d0 := SubtractLeft_eq k a b (by omega) (by omega) (by omega) (by omega)
  have d1 := sSub_eq k a b (by omega) (by omega) (by omega) (by omega) qa qb
  have a0 := AddOrdinals_eq k a b (by omega) (by omega)
  have a1 := sAdd_eq k a b (by omega) (by omega) qa qb
  have s0 := same_refl k (addT a b).1 (by omega) (by omega)
  have s1 := same_refl k (subT a b).1 (by omega) (by omega)
  generalize addT a b = r at *
  generalize subT a b = u at *
  generalize cmpO a b = q at *
  obtain ⟨s, f⟩ := r
  obtain ⟨v, g⟩ := u
  obtain ⟨n, h⟩ := q
  simp only at *
  unfold laws_FnOrdinalSums_p3
  rw [a0, Option.bind_some]
  have p4 : laws_FnOrdinalSums_p4 k y a.rows b.rows s.rows f = some true := by
    unfold laws_FnOrdinalSums_p4
    rw [a1, Option.bind_some]
    have p6 : laws_FnOrdinalSums_p6 k y a.rows b.rows s.rows f = some true := by
      unfold laws_FnOrdinalSums_p6
      rw [c0, Option.bind_some]
      have p7 : laws_FnOrdinalSums_p7 k y n a.rows b.rows s.rows h f = some true := by
        unfold laws_FnOrdinalSums_p7
        rw [c1, Option.bind_some]
        have p10 : laws_FnOrdinalSums_p10 k y n a.rows b.rows s.rows v.rows g f = some true := by
          unfold laws_FnOrdinalSums_p10
          rw [d1, Option.bind_some]
          have p11 : laws_FnOrdinalSums_p11 k y n a.rows b.rows s.rows v.rows v.rows g f g = some true := by
            unfold laws_FnOrdinalSums_p11
            rw [s1, Option.bind_some]
            cases g with
            | true => cases f <;> simp only [cond, if_true, if_neg (hcmp rfl)] <;> exact p12
            | false => cases f <;> simp only [cond, if_true] <;> exact p12
          cases f <;> cases g <;> simp only [cond, if_true, Bool.false_eq_true, if_false] <;> exact p11
        have p8 : laws_FnOrdinalSums_p8 k y n n a.rows b.rows s.rows h f h = some true := by
          unfold laws_FnOrdinalSums_p8
          rw [d0, Option.bind_some]
          cases f <;> cases h <;> cases g <;> simp only [cond, if_true, Bool.false_eq_true, if_false] <;> exact p10
        cases f <;> cases h <;> simp only [cond, if_true, Bool.false_eq_true, if_false] <;> exact p8
      cases f <;> cases h <;> simp only [cond, if_true, Bool.false_eq_true, if_false] <;> exact p7
    have p5 : laws_FnOrdinalSums_p5 k y a.rows b.rows s.rows s.rows f f = some true := by
      unfold laws_FnOrdinalSums_p5
      rw [s0, Option.bind_some]
      cases f <;> simp only [cond, if_true] <;> exact p6
    cases f <;> simp only [cond, if_true, Bool.false_eq_true, if_false] <;> exact p5
  cases f <;> simp only [cond, if_true, Bool.false_eq_true, if_false] <;> exact p4
theorem sums_true {x y : Rw} (hx : bytes x) (hy : bytes y) : laws_FnOrdinalSums 2001 x y = some true := by
  unfold laws_FnOrdinalSums laws_big
  obtain ⟨a, b, e, z1, z2, z3, z4⟩ := drawSums_ok (k := 2001) hx (by omega)
  have p2 : laws_FnOrdinalSums_p2 2001 x y = some true := by
    unfold laws_FnOrdinalSums_p2
    rw [e, Option.bind_some]
    exact sums_p3 (by omega) hy z1 z2 z3 z4
  split
  · rfl
  · split
    · rfl
    · rw [Option.bind_some, if_neg (by decide)]; exact p2
end Go.Proofs.Try
