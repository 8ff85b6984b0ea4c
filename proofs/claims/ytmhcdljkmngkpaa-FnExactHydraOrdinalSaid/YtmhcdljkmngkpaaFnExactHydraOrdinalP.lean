/- What the printed functions compute: plain data. -/
import Derived.Test.YtmhcdljkmngkpaaHydPlain
set_option linter.unusedVariables false
set_option linter.unusedSimpArgs false
namespace Go.Proofs.Try
open Go Go.AX T
theorem FnExactHydraOrdinal_pure {a : Hd} (fa : fitH a) (la : (a.lenH : Int) ≤ 9223372036854775807) : laws_FnExactHydraOrdinal (a.sizeH + 6000000) a.rowsH = some true := by
  have h3 : cap = 1099511627776 := rfl
  obtain ⟨k, hk⟩ : ∃ k : Nat, k = a.sizeH + 6000000 := ⟨_, rfl⟩
  rw [← hk]
  unfold laws_FnExactHydraOrdinal
  obtain ⟨r1, s1, u1, v1, q1⟩ := szHydra_eq k a 1048576 (by omega) fa la (by omega) (by omega)
  refine bind_of s1 ?_
  unfold laws_FnExactHydraOrdinal_p3
  by_cases g1 : r1 < 0
  · exact if_pos g1
  have ha := q1 (by omega)
  refine ite_neg g1 ?_
  refine bind_of (toHydra_eq k a (by omega) (by omega)) ?_
  obtain ⟨r_0, ok, ei, es, hb⟩ := hydraOrdH (k := k) (a := a) (by omega) (by omega) (by omega) (by omega)
  cases ok with
  | true =>
    refine bind_of es ?_
    refine ite_pos rfl ?_
    unfold laws_FnExactHydraOrdinal_p5
    refine cond_tt ?_
    refine bind_of (toHydra_eq k a (by omega) (by omega)) ?_
    unfold laws_FnExactHydraOrdinal_p6
    refine cond_tt ?_
    refine bind_of ei ?_
    refine ite_pos rfl ?_
    unfold laws_FnExactHydraOrdinal_p7
    refine cond_tt ?_
    refine cond_tt ?_
    refine bind_of (eqOrd_refl k r_0 (by omega) (by omega)) ?_
    refine ite_pos rfl ?_
    unfold laws_FnExactHydraOrdinal_p8
    refine cond_tt ?_
    refine cond_tt ?_
    refine bind_of (toHydra_eq k a (by omega) (by omega)) ?_
    refine bind_of (eqHydra_refl k a (by omega) (by omega)) ?_
    refine ite_pos rfl ?_
    unfold laws_FnExactHydraOrdinal_p9
    refine cond_tt ?_
    refine cond_tt ?_
    refine bind_of (markHydra_eq k a 1 (by omega) (by omega) (by omega)) ?_
    refine ite_pos (by rw [rowsH_len, rowsH_len, mkH_len]) ?_
    unfold laws_FnExactHydraOrdinal_p11
    refine cond_tt ?_
    refine cond_tt ?_
    refine ite_neg (c := (1 + (a.sizeH : Int)) < (0 : Int)) (by omega) ?_
    refine bind_of (eqOrd_refl k r_0 (by omega) (by omega)) ?_
    refine ite_pos rfl ?_
    unfold laws_FnExactHydraOrdinal_p12
    refine cond_tt ?_
    refine bind_of (mark_eq k r_0 1 (by omega) (by omega) (by omega)) ?_
    refine ite_pos (by rw [rows_len, rows_len, mkT_len]) ?_
    unfold laws_FnExactHydraOrdinal_p14
    refine cond_tt ?_
    refine bind_of (held_eq k r_0 1 (by omega) (by omega) (by omega) (by omega)) ?_
    unfold laws_FnExactHydraOrdinal_p16
    refine cond_tt ?_
    refine ite_neg (c := (1 + (r_0.size : Int)) < (0 : Int)) (by omega) ?_
    refine ite_pos rfl ?_
    refine bind_of (toHydra_eq k a (by omega) (by omega)) ?_
    refine bind_of ei ?_
    refine ite_pos rfl ?_
    unfold laws_FnExactHydraOrdinal_p19
    refine cond_tt ?_
    refine cond_tt ?_
    refine bind_of (eqOrd_refl k r_0 (by omega) (by omega)) ?_
    refine ite_pos rfl ?_
    unfold laws_FnExactHydraOrdinal_p20
    refine bind_of (held_eq k r_0 1 (by omega) (by omega) (by omega) (by omega)) ?_
    unfold laws_FnExactHydraOrdinal_p22
    refine ite_neg (c := (1 + (r_0.size : Int)) < (0 : Int)) (by omega) ?_
    refine ite_pos rfl ?_
    rfl
  | false =>
    refine bind_of es ?_
    refine ite_neg Bool.false_ne_true ?_
    unfold laws_FnExactHydraOrdinal_p5
    refine cond_ff ?_
    refine bind_of (toHydra_eq k a (by omega) (by omega)) ?_
    unfold laws_FnExactHydraOrdinal_p6
    refine cond_ff ?_
    refine bind_of ei ?_
    refine ite_neg Bool.false_ne_true ?_
    unfold laws_FnExactHydraOrdinal_p7
    refine cond_ff ?_
    refine cond_ff ?_
    refine bind_of (eqOrd_refl k r_0 (by omega) (by omega)) ?_
    refine ite_pos rfl ?_
    unfold laws_FnExactHydraOrdinal_p8
    refine cond_ff ?_
    refine cond_ff ?_
    refine bind_of (toHydra_eq k a (by omega) (by omega)) ?_
    refine bind_of (eqHydra_refl k a (by omega) (by omega)) ?_
    refine ite_pos rfl ?_
    unfold laws_FnExactHydraOrdinal_p9
    refine cond_ff ?_
    refine cond_ff ?_
    refine bind_of (markHydra_eq k a 1 (by omega) (by omega) (by omega)) ?_
    refine ite_pos (by rw [rowsH_len, rowsH_len, mkH_len]) ?_
    unfold laws_FnExactHydraOrdinal_p11
    refine cond_ff ?_
    refine cond_ff ?_
    refine ite_neg (c := (1 + (a.sizeH : Int)) < (0 : Int)) (by omega) ?_
    refine bind_of (eqOrd_refl k r_0 (by omega) (by omega)) ?_
    refine ite_pos rfl ?_
    unfold laws_FnExactHydraOrdinal_p12
    refine cond_ff ?_
    refine bind_of (mark_eq k r_0 1 (by omega) (by omega) (by omega)) ?_
    refine ite_pos (by rw [rows_len, rows_len, mkT_len]) ?_
    unfold laws_FnExactHydraOrdinal_p14
    refine cond_ff ?_
    refine bind_of (held_eq k r_0 1 (by omega) (by omega) (by omega) (by omega)) ?_
    unfold laws_FnExactHydraOrdinal_p16
    refine cond_ff ?_
    refine ite_neg (c := (1 + (r_0.size : Int)) < (0 : Int)) (by omega) ?_
    refine ite_pos rfl ?_
    refine bind_of (toHydra_eq k a (by omega) (by omega)) ?_
    refine bind_of ei ?_
    refine ite_neg Bool.false_ne_true ?_
    unfold laws_FnExactHydraOrdinal_p19
    refine cond_ff ?_
    refine cond_ff ?_
    refine bind_of (eqOrd_refl k r_0 (by omega) (by omega)) ?_
    refine ite_pos rfl ?_
    unfold laws_FnExactHydraOrdinal_p20
    refine bind_of (held_eq k r_0 1 (by omega) (by omega) (by omega) (by omega)) ?_
    unfold laws_FnExactHydraOrdinal_p22
    refine ite_neg (c := (1 + (r_0.size : Int)) < (0 : Int)) (by omega) ?_
    refine ite_pos rfl ?_
    rfl
end Go.Proofs.Try

namespace Go.Proofs.Try
open Go Go.AX
set_option maxRecDepth 100000 in
theorem hyd_has (n : Nat) : ∀ ds, Has prog n 24 ds → ∃ t : Hd, ds = [.sl (Hd.rowsH t)] ∧ fitH t ∧ (Hd.lenH t : Int) ≤ 9223372036854775807 := by
  have eT : structTs prog 24 = some [22] := by kernel_rfl
  have eL : sliceT prog 22 = some 3 := by kernel_rfl
  have em : maxLen = 9223372036854775807 := rfl
  intro ds h
  cases n with
  | zero => exact h.elim
  | succ n =>
    obtain ⟨a, b, rfl, h1, h2⟩ := has_struct h eT
    have h2 : b = [] := h2
    subst h2
    cases n with
    | zero => exact h1.elim
    | succ n =>
      obtain ⟨es, rfl, hl, hr⟩ := has_slice h1 eL
      have key : ∀ es : List (List D), (∀ r ∈ es, Has prog n 3 r) → ∃ t : Hd, es = Hd.rowsH t := by
        intro es
        induction es with
        | nil => intro _; exact ⟨[], rfl⟩
        | cons r es ihs =>
          intro hr
          obtain ⟨t, rfl⟩ := ihs fun q hq => hr q (List.mem_cons_of_mem _ hq)
          have hrr := hr r List.mem_cons_self
          obtain ⟨i, rfl, _⟩ := has_int1 hrr (k := .i64) (by kernel_rfl)
          exact ⟨i :: t, rfl⟩
      obtain ⟨t, rfl⟩ := key es hr
      refine ⟨t, rfl, trivial, ?_⟩
      rw [rowsH_len] at hl
      exact Int.ofNat_le.2 hl
set_option maxRecDepth 100000 in
theorem FnExactHydraOrdinal_true {n0 : Nat} {c0 : List D} (w0 : Has prog n0 24 c0) : Ct prog 3 [argA prog 24 c0] ⟨[], []⟩ (.d (.bool true)) ⟨[], []⟩ := by
  obtain ⟨a, rfl, fa, la⟩ := hyd_has _ _ w0
  rw [argA_agg (t := 24) (by kernel_rfl)]
  exact laws_FnExactHydraOrdinal_ct (FnExactHydraOrdinal_pure fa la)
end Go.Proofs.Try
