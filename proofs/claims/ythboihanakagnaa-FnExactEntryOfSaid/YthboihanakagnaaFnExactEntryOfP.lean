/- What the printed functions compute: plain data. -/
import Derived.Test.YthboihanakagnaaSharedEo
set_option linter.unusedVariables false
set_option linter.unusedSimpArgs false
namespace Go.Proofs.Try
open Go Go.AX
def structTs (P : Program) (t : TypeId) : Option (List TypeId) := match P.underlying t with
  | some (.struct fs) => some (fs.toList.map fun f => f.type)
  | _ => none
def sliceT (P : Program) (t : TypeId) : Option TypeId := match P.underlying t with
  | some (.slice e) => some e
  | _ => none
def intT? (P : Program) (t : TypeId) : Option IntKind := match P.underlying t with
  | some (.int k) => some k
  | _ => none
def HasTs (H : TypeId → List D → Prop) : List TypeId → List D → Prop
  | [], ds => ds = []
  | t :: l, ds => ∃ a b, ds = a ++ b ∧ H t a ∧ HasTs H l b
theorem hasTs_of {H : TypeId → List D → Prop} : ∀ {l : List Field} {ds : List D}, HasFs H l ds → HasTs H (l.map fun f => f.type) ds
  | [], _, h => h
  | _ :: _, _, ⟨a, b, e, h1, h2⟩ => ⟨a, b, e, h1, hasTs_of h2⟩
theorem has_struct {P : Program} {n : Nat} {t : TypeId} {l : List TypeId} {ds : List D} (h : Has P (n + 1) t ds) (e : structTs P t = some l) : HasTs (Has P n) l ds := by
  unfold structTs at e
  simp only [Has] at h
  split at e
  · rename_i fs hu
    rw [hu] at h
    cases e
    exact hasTs_of h
  · cases e
theorem has_slice {P : Program} {n : Nat} {t u : TypeId} {ds : List D} (h : Has P (n + 1) t ds) (e : sliceT P t = some u) : ∃ es, ds = [.sl es] ∧ es.length ≤ maxLen ∧ ∀ r ∈ es, Has P n u r := by
  unfold sliceT at e
  simp only [Has] at h
  split at e
  · rename_i v hu
    rw [hu] at h
    cases e
    exact h
  · cases e
theorem has_int {P : Program} {n : Nat} {t : TypeId} {k : IntKind} {ds : List D} (h : Has P (n + 1) t ds) (e : intT? P t = some k) : ∃ i, ds = [.int k i] ∧ (Lit.int k i).wf = true := by
  unfold intT? at e
  simp only [Has] at h
  split at e
  · rename_i v hu
    rw [hu] at h
    cases e
    exact h
  · cases e
theorem has_bool {P : Program} {n : Nat} {t : TypeId} {ds : List D} (h : Has P (n + 1) t ds) (e : (match P.underlying t with | some .bool => true | _ => false) = true) : ∃ b, ds = [.bool b] := by
  simp only [Has] at h
  split at e
  · rename_i hu
    rw [hu] at h
    exact h
  · cases e
theorem has_str {P : Program} {n : Nat} {t : TypeId} {ds : List D} (h : Has P (n + 1) t ds) (e : (match P.underlying t with | some .string => true | _ => false) = true) : ∃ b, ds = [.str b] ∧ b.size ≤ maxLen := by
  simp only [Has] at h
  split at e
  · rename_i hu
    rw [hu] at h
    exact h
  · cases e
/-- Bytes. -/
def bytesOf (x : Rw) : Prop := ∀ r ∈ x, ∃ b : Int, r = [.int .u8 b] ∧ 0 ≤ b ∧ b < 256
theorem has_bytes {P : Program} {n : Nat} {t u : TypeId} {ds : List D} (h : Has P n t ds) (e : sliceT P t = some u) (e2 : intT? P u = some .u8) : ∃ es, ds = [.sl es] ∧ bytesOf es := by
  cases n with
  | zero => exact h.elim
  | succ n =>
    obtain ⟨es, rfl, _, hr⟩ := has_slice h e
    refine ⟨es, rfl, fun r hm => ?_⟩
    have hh := hr r hm
    cases n with
    | zero => exact hh.elim
    | succ n =>
      obtain ⟨i, rfl, hw⟩ := has_int hh e2
      have e1 : IntKind.u8.min = 0 := by decide
      have e2 : IntKind.u8.max = 255 := by decide
      simp only [Lit.wf, e1, e2, Bool.and_eq_true, decide_eq_true_eq] at hw
      exact ⟨i, rfl, by omega, by omega⟩
theorem argA_agg {P : Program} {t : TypeId} (e : aggT P t = true) (ds : List D) : argA P t ds = .agg (ds.map .d) := by unfold argA; rw [e]
theorem argA_one {P : Program} {t : TypeId} (e : aggT P t = false) (ds : List D) : argA P t ds = .d (ds.headD (.bool false)) := by unfold argA; rw [e]
theorem has_int1 {P : Program} {n : Nat} {t : TypeId} {k : IntKind} {ds : List D} (h : Has P n t ds) (e : intT? P t = some k) : ∃ i, ds = [.int k i] ∧ (Lit.int k i).wf = true := by
  cases n with
  | zero => exact h.elim
  | succ n => exact has_int h e
end Go.Proofs.Try

namespace Go.Proofs.Try
open Go Go.AX T
theorem FnExactEntryOf_pure {b : Bk} {t : ByteArray} (fb : fitB b) (lb : (b.lenN : Int) ≤ 9223372036854775807) : laws_FnExactEntryOf (b.sizeN + 6000000) b.rowsN t = some true := by
  have h3 : cap = 1099511627776 := rfl
  obtain ⟨k, hk⟩ : ∃ k : Nat, k = b.sizeN + 6000000 := ⟨_, rfl⟩
  rw [← hk]
  unfold laws_FnExactEntryOf
  by_cases gT : (1048576 : Int) < (t.size : Int)
  · exact if_pos gT
  refine ite_neg gT ?_
  obtain ⟨r1, s1, u1, v1, q1⟩ := szN_eq k b 1048576 (by omega) fb lb (by omega) (by omega)
  refine bind_of s1 ?_
  unfold laws_FnExactEntryOf_p4
  by_cases g1 : r1 < 0
  · exact if_pos g1
  have hb := q1 (by omega)
  refine ite_neg g1 ?_
  refine bind_of (toN_eq k b (by omega) (by omega)) ?_
  obtain ⟨r_0, ok, ei, es, hz⟩ := entry_both (k := k) (b := b) (t := t) (by omega) (by omega)
  cases ok with
  | true =>
    refine bind_of es ?_
    refine ite_pos rfl ?_
    unfold laws_FnExactEntryOf_p6
    refine cond_tt ?_
    refine bind_of (toN_eq k b (by omega) (by omega)) ?_
    unfold laws_FnExactEntryOf_p7
    refine cond_tt ?_
    refine bind_of ei ?_
    refine ite_pos rfl ?_
    unfold laws_FnExactEntryOf_p8
    refine cond_tt ?_
    refine cond_tt ?_
    refine bind_of (eqSur_refl k r_0 (by omega) (by omega)) ?_
    refine ite_pos rfl ?_
    unfold laws_FnExactEntryOf_p9
    refine cond_tt ?_
    refine cond_tt ?_
    refine bind_of (toN_eq k b (by omega) (by omega)) ?_
    refine bind_of (eqN_refl k b (by omega) (by omega)) ?_
    refine ite_pos rfl ?_
    unfold laws_FnExactEntryOf_p10
    refine cond_tt ?_
    refine cond_tt ?_
    obtain ⟨mr, me, hm, hml, hmp⟩ := markN_eq k b (by omega) (by omega)
    refine bind_of hm ?_
    refine ite_pos hml ?_
    unfold laws_FnExactEntryOf_p12
    refine cond_tt ?_
    refine cond_tt ?_
    refine ite_neg (c := mr < (0 : Int)) (by omega) ?_
    refine bind_of (eqSur_refl k r_0 (by omega) (by omega)) ?_
    refine ite_pos rfl ?_
    unfold laws_FnExactEntryOf_p13
    refine cond_tt ?_
    refine bind_of (markSur_eq k r_0 1 (by omega) (by omega) (by omega)) ?_
    refine ite_pos (by rw [S.rowsS_len, S.rowsS_len, mkS_len]) ?_
    unfold laws_FnExactEntryOf_p15
    refine cond_tt ?_
    refine bind_of (heldSur_eq k r_0 1 (by omega) (by omega) (by omega) (by omega)) ?_
    unfold laws_FnExactEntryOf_p17
    refine cond_tt ?_
    refine ite_neg (c := (1 + 2 * (r_0.sizeS : Int)) < (0 : Int)) (by omega) ?_
    refine ite_pos rfl ?_
    refine bind_of (toN_eq k b (by omega) (by omega)) ?_
    refine bind_of ei ?_
    refine ite_pos rfl ?_
    unfold laws_FnExactEntryOf_p20
    refine cond_tt ?_
    refine cond_tt ?_
    refine bind_of (eqSur_refl k r_0 (by omega) (by omega)) ?_
    refine ite_pos rfl ?_
    unfold laws_FnExactEntryOf_p21
    refine bind_of (heldSur_eq k r_0 1 (by omega) (by omega) (by omega) (by omega)) ?_
    unfold laws_FnExactEntryOf_p23
    refine ite_neg (c := (1 + 2 * (r_0.sizeS : Int)) < (0 : Int)) (by omega) ?_
    refine ite_pos rfl ?_
    rfl
  | false =>
    refine bind_of es ?_
    refine ite_neg Bool.false_ne_true ?_
    unfold laws_FnExactEntryOf_p6
    refine cond_ff ?_
    refine bind_of (toN_eq k b (by omega) (by omega)) ?_
    unfold laws_FnExactEntryOf_p7
    refine cond_ff ?_
    refine bind_of ei ?_
    refine ite_neg Bool.false_ne_true ?_
    unfold laws_FnExactEntryOf_p8
    refine cond_ff ?_
    refine cond_ff ?_
    refine bind_of (eqSur_refl k r_0 (by omega) (by omega)) ?_
    refine ite_pos rfl ?_
    unfold laws_FnExactEntryOf_p9
    refine cond_ff ?_
    refine cond_ff ?_
    refine bind_of (toN_eq k b (by omega) (by omega)) ?_
    refine bind_of (eqN_refl k b (by omega) (by omega)) ?_
    refine ite_pos rfl ?_
    unfold laws_FnExactEntryOf_p10
    refine cond_ff ?_
    refine cond_ff ?_
    obtain ⟨mr, me, hm, hml, hmp⟩ := markN_eq k b (by omega) (by omega)
    refine bind_of hm ?_
    refine ite_pos hml ?_
    unfold laws_FnExactEntryOf_p12
    refine cond_ff ?_
    refine cond_ff ?_
    refine ite_neg (c := mr < (0 : Int)) (by omega) ?_
    refine bind_of (eqSur_refl k r_0 (by omega) (by omega)) ?_
    refine ite_pos rfl ?_
    unfold laws_FnExactEntryOf_p13
    refine cond_ff ?_
    refine bind_of (markSur_eq k r_0 1 (by omega) (by omega) (by omega)) ?_
    refine ite_pos (by rw [S.rowsS_len, S.rowsS_len, mkS_len]) ?_
    unfold laws_FnExactEntryOf_p15
    refine cond_ff ?_
    refine bind_of (heldSur_eq k r_0 1 (by omega) (by omega) (by omega) (by omega)) ?_
    unfold laws_FnExactEntryOf_p17
    refine cond_ff ?_
    refine ite_neg (c := (1 + 2 * (r_0.sizeS : Int)) < (0 : Int)) (by omega) ?_
    refine ite_pos rfl ?_
    refine bind_of (toN_eq k b (by omega) (by omega)) ?_
    refine bind_of ei ?_
    refine ite_neg Bool.false_ne_true ?_
    unfold laws_FnExactEntryOf_p20
    refine cond_ff ?_
    refine cond_ff ?_
    refine bind_of (eqSur_refl k r_0 (by omega) (by omega)) ?_
    refine ite_pos rfl ?_
    unfold laws_FnExactEntryOf_p21
    refine bind_of (heldSur_eq k r_0 1 (by omega) (by omega) (by omega) (by omega)) ?_
    unfold laws_FnExactEntryOf_p23
    refine ite_neg (c := (1 + 2 * (r_0.sizeS : Int)) < (0 : Int)) (by omega) ?_
    refine ite_pos rfl ?_
    rfl
end Go.Proofs.Try

namespace Go.Proofs.Try
open Go Go.AX
set_option maxRecDepth 100000 in
theorem sur_has (n : Nat) : ∀ ds, Has prog n 153 ds → ∃ t : S, ds = [.sl (S.rowsS t)] ∧ fitS t ∧ (S.lenS t : Int) ≤ 9223372036854775807 := by
  have eT : structTs prog 153 = some [151] := by kernel_rfl
  have eL : sliceT prog 151 = some 219 := by kernel_rfl
  have eE : structTs prog 219 = some [153, 217] := by kernel_rfl
  have eF : structTs prog 217 = some [3, 3] := by kernel_rfl
  have e3 : intT? prog 3 = some .i64 := by kernel_rfl
  have em : maxLen = 9223372036854775807 := rfl
  induction n using Nat.strongRecOn with
  | ind n ih =>
    intro ds h
    cases n with
    | zero => exact h.elim
    | succ n =>
      obtain ⟨a, b, rfl, h1, h2⟩ := has_struct h eT
      have h2 : b = [] := h2
      subst h2
      cases n with
      | zero => exact h1.elim
      | succ n =>
        obtain ⟨es, rfl, hl, hr⟩ := has_slice h1 eL
        have key : ∀ es : List (List D), (∀ r ∈ es, Has prog n 219 r) → ∃ t : S, es = S.rowsS t ∧ fitS t := by
          intro es
          induction es with
          | nil => intro _; exact ⟨S.nil, rfl, trivial⟩
          | cons r es ihs =>
            intro hr
            obtain ⟨t, rfl, ht⟩ := ihs fun q hq => hr q (List.mem_cons_of_mem _ hq)
            have hrr := hr r List.mem_cons_self
            cases n with
            | zero => exact hrr.elim
            | succ n =>
              obtain ⟨a, b, rfl, q1, q2⟩ := has_struct hrr eE
              obtain ⟨b1, b2, rfl, q3, q4⟩ := q2
              have q4 : b2 = [] := q4
              subst q4
              obtain ⟨e, rfl, f1, f2⟩ := ih n (by omega) a q1
              cases n with
              | zero => exact q1.elim
              | succ n =>
              obtain ⟨c1, c2, rfl, p1, p2⟩ := has_struct q3 eF
              obtain ⟨c3, c4, rfl, p3, p4⟩ := p2
              have p4 : c4 = [] := p4
              subst p4
              cases n with
              | zero => exact p1.elim
              | succ n =>
              obtain ⟨i, rfl, wi⟩ := has_int p1 e3
              obtain ⟨j, rfl, _⟩ := has_int p3 e3
              have m1 : IntKind.i64.min = -9223372036854775808 := by decide
              have m2 : IntKind.i64.max = 9223372036854775807 := by decide
              simp only [Lit.wf, m1, m2, Bool.and_eq_true, decide_eq_true_eq] at wi
              exact ⟨S.cons e i j t, rfl, f1, f2, ht, wi.1, wi.2⟩
        obtain ⟨t, rfl, ht⟩ := key es hr
        refine ⟨t, rfl, ht, ?_⟩
        rw [S.rowsS_len] at hl
        omega
set_option maxRecDepth 100000 in
theorem book_has (n : Nat) : ∀ ds, Has prog n 52 ds → ∃ t : Bk, ds = [.sl (Bk.rowsN t)] ∧ fitB t ∧ (Bk.lenN t : Int) ≤ 9223372036854775807 := by
  have eT : structTs prog 52 = some [50] := by kernel_rfl
  have eL : sliceT prog 50 = some 155 := by kernel_rfl
  have eE : structTs prog 155 = some [9, 153] := by kernel_rfl
  have em : maxLen = 9223372036854775807 := rfl
  intro ds h
  cases n with
  | zero => exact h.elim
  | succ n =>
    obtain ⟨a, b, rfl, h1, h2⟩ := has_struct h eT
    have h2 : b = [] := h2
    subst h2
    cases n with
    | zero => exact h1.elim
    | succ n =>
      obtain ⟨es, rfl, hl, hr⟩ := has_slice h1 eL
      have key : ∀ es : List (List D), (∀ r ∈ es, Has prog n 155 r) → ∃ t : Bk, es = Bk.rowsN t ∧ fitB t := by
        intro es
        induction es with
        | nil => intro _; exact ⟨[], rfl, fun e he => by cases he⟩
        | cons r es ihs =>
          intro hr
          obtain ⟨t, rfl, ht⟩ := ihs fun q hq => hr q (List.mem_cons_of_mem _ hq)
          have hrr := hr r List.mem_cons_self
          cases n with
          | zero => exact hrr.elim
          | succ n =>
            obtain ⟨a, b, rfl, q1, q2⟩ := has_struct hrr eE
            obtain ⟨b1, b2, rfl, q3, q4⟩ := q2
            have q4 : b2 = [] := q4
            subst q4
            obtain ⟨x, rfl, f1, f2⟩ := sur_has n b1 q3
            cases n with
            | zero => exact q1.elim
            | succ n =>
            obtain ⟨s, rfl, ls⟩ := has_str q1 (by kernel_rfl)
            refine ⟨(s, x) :: t, rfl, fun e he => ?_⟩
            rcases List.mem_cons.1 he with rfl | he
            · exact ⟨f1, f2, ls⟩
            · exact ht e he
      obtain ⟨t, rfl, ht⟩ := key es hr
      refine ⟨t, rfl, ht, ?_⟩
      rw [rowsB_len] at hl
      exact Int.ofNat_le.2 hl
set_option maxRecDepth 100000 in
theorem FnExactEntryOf_true {n0 n1 : Nat} {c0 c1 : List D} (w0 : Has prog n0 52 c0) (w1 : Has prog n1 9 c1) : Ct prog 5 [argA prog 52 c0, argA prog 9 c1] ⟨[], []⟩ (.d (.bool true)) ⟨[], []⟩ := by
  obtain ⟨b, rfl, fb, lb⟩ := book_has _ _ w0
  cases n1 with
  | zero => exact w1.elim
  | succ n1 =>
  obtain ⟨t, rfl, lt⟩ := has_str w1 (by kernel_rfl)
  rw [argA_agg (t := 52) (by kernel_rfl), argA_one (t := 9) (by kernel_rfl)]
  exact laws_FnExactEntryOf_ct (FnExactEntryOf_pure fb lb)
end Go.Proofs.Try
