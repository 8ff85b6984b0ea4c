/- What the printed functions compute: plain data. -/
import Derived.Test.YthboihanakagnaaSharedSw
set_option linter.unusedVariables false
set_option linter.unusedSimpArgs false
namespace Go.Proofs.Try
open Go Go.AX
def structTs (P : Program) (t : TypeId) : Option (List TypeId) := match P.underlying t with
  | some (.struct fs) => some (fs.toList.map fun f => f.type)
  | _ => none
def sliceT (P : Program) (t : TypeId) : Option TypeId := match P.underlying t with
  | some (.slice e) => some e
  | _ => none
def intT? (P : Program) (t : TypeId) : Option IntKind := match P.underlying t with
  | some (.int k) => some k
  | _ => none
def HasTs (H : TypeId → List D → Prop) : List TypeId → List D → Prop
  | [], ds => ds = []
  | t :: l, ds => ∃ a b, ds = a ++ b ∧ H t a ∧ HasTs H l b
theorem hasTs_of {H : TypeId → List D → Prop} : ∀ {l : List Field} {ds : List D}, HasFs H l ds → HasTs H (l.map fun f => f.type) ds
  | [], _, h => h
  | _ :: _, _, ⟨a, b, e, h1, h2⟩ => ⟨a, b, e, h1, hasTs_of h2⟩
theorem has_struct {P : Program} {n : Nat} {t : TypeId} {l : List TypeId} {ds : List D} (h : Has P (n + 1) t ds) (e : structTs P t = some l) : HasTs (Has P n) l ds := by
  unfold structTs at e
  simp only [Has] at h
  split at e
  · rename_i fs hu
    rw [hu] at h
    cases e
    exact hasTs_of h
  · cases e
theorem has_slice {P : Program} {n : Nat} {t u : TypeId} {ds : List D} (h : Has P (n + 1) t ds) (e : sliceT P t = some u) : ∃ es, ds = [.sl es] ∧ es.length ≤ maxLen ∧ ∀ r ∈ es, Has P n u r := by
  unfold sliceT at e
  simp only [Has] at h
  split at e
  · rename_i v hu
    rw [hu] at h
    cases e
    exact h
  · cases e
theorem has_int {P : Program} {n : Nat} {t : TypeId} {k : IntKind} {ds : List D} (h : Has P (n + 1) t ds) (e : intT? P t = some k) : ∃ i, ds = [.int k i] ∧ (Lit.int k i).wf = true := by
  unfold intT? at e
  simp only [Has] at h
  split at e
  · rename_i v hu
    rw [hu] at h
    cases e
    exact h
  · cases e
theorem has_bool {P : Program} {n : Nat} {t : TypeId} {ds : List D} (h : Has P (n + 1) t ds) (e : (match P.underlying t with | some .bool => true | _ => false) = true) : ∃ b, ds = [.bool b] := by
  simp only [Has] at h
  split at e
  · rename_i hu
    rw [hu] at h
    exact h
  · cases e
theorem has_str {P : Program} {n : Nat} {t : TypeId} {ds : List D} (h : Has P (n + 1) t ds) (e : (match P.underlying t with | some .string => true | _ => false) = true) : ∃ b, ds = [.str b] ∧ b.size ≤ maxLen := by
  simp only [Has] at h
  split at e
  · rename_i hu
    rw [hu] at h
    exact h
  · cases e
/-- Bytes. -/
def bytesOf (x : Rw) : Prop := ∀ r ∈ x, ∃ b : Int, r = [.int .u8 b] ∧ 0 ≤ b ∧ b < 256
theorem has_bytes {P : Program} {n : Nat} {t u : TypeId} {ds : List D} (h : Has P n t ds) (e : sliceT P t = some u) (e2 : intT? P u = some .u8) : ∃ es, ds = [.sl es] ∧ bytesOf es := by
  cases n with
  | zero => exact h.elim
  | succ n =>
    obtain ⟨es, rfl, _, hr⟩ := has_slice h e
    refine ⟨es, rfl, fun r hm => ?_⟩
    have hh := hr r hm
    cases n with
    | zero => exact hh.elim
    | succ n =>
      obtain ⟨i, rfl, hw⟩ := has_int hh e2
      have e1 : IntKind.u8.min = 0 := by decide
      have e2 : IntKind.u8.max = 255 := by decide
      simp only [Lit.wf, e1, e2, Bool.and_eq_true, decide_eq_true_eq] at hw
      exact ⟨i, rfl, by omega, by omega⟩
theorem argA_agg {P : Program} {t : TypeId} (e : aggT P t = true) (ds : List D) : argA P t ds = .agg (ds.map .d) := by unfold argA; rw [e]
theorem argA_one {P : Program} {t : TypeId} (e : aggT P t = false) (ds : List D) : argA P t ds = .d (ds.headD (.bool false)) := by unfold argA; rw [e]
theorem has_int1 {P : Program} {n : Nat} {t : TypeId} {k : IntKind} {ds : List D} (h : Has P n t ds) (e : intT? P t = some k) : ∃ i, ds = [.int k i] ∧ (Lit.int k i).wf = true := by
  cases n with
  | zero => exact h.elim
  | succ n => exact has_int h e
end Go.Proofs.Try

namespace Go.Proofs.Try
open Go Go.AX T Wd
theorem same_bytes {α : Type} (l : L8) {a b r : α} (h : b = r) : (if (!((bA l).toList == (bA l).toList)) = true then a else b) = r := by
  rw [if_neg (by simp)]; exact h
theorem FnExactShortOfWord_pure {a : Wd} (fa : fitW a) (la : (a.lenW : Int) ≤ 9223372036854775807) : laws_FnExactShortOfWord (a.sizeW + 6000000) a.rowsW = some true := by
  have h3 : cap = 1099511627776 := rfl
  obtain ⟨k, hk⟩ : ∃ k : Nat, k = a.sizeW + 6000000 := ⟨_, rfl⟩
  rw [← hk]
  unfold laws_FnExactShortOfWord
  obtain ⟨r1, s1, u1, v1, q1⟩ := szWord_eq k a 1048576 (by omega) fa la (by omega) (by omega)
  refine bind_of s1 ?_
  by_cases g1 : r1 < 0
  · exact if_pos g1
  have ha := q1 (by omega)
  refine ite_neg g1 ?_
  have ht := toWord_eq k a (by omega) (by omega)
  have es := spec_short k a (by omega) (by omega)
  have ei := impl_short k a (by omega) (by omega)
  have he := eqWord_refl k a (by omega) (by omega)
  refine bind_of ht ?_
  refine bind_of es ?_
  obtain ⟨l, b, hr⟩ : ∃ (l : L8) (b : Bool), shortR a = (bA l, b) := by
    unfold shortR
    split
    · exact ⟨_, _, rfl⟩
    · exact ⟨_, _, rfl⟩
  rw [hr] at ei ⊢
  cases b with
  | true =>
    refine ite_pos rfl ?_
    refine bind_of ht ?_
    refine bind_of ei ?_
    refine ite_pos rfl ?_
    refine same_bytes _ ?_
    refine bind_of ht ?_
    refine bind_of he ?_
    rfl
  | false =>
    refine ite_neg (by simp) ?_
    refine bind_of ht ?_
    refine bind_of ei ?_
    refine ite_neg (by simp) ?_
    refine same_bytes _ ?_
    refine bind_of ht ?_
    refine bind_of he ?_
    rfl
end Go.Proofs.Try

namespace Go.Proofs.Try
open Go Go.AX
set_option maxRecDepth 100000 in
theorem ord_has (n : Nat) : ∀ ds, Has prog n 127 ds → ∃ t : T, ds = [.sl (T.rows t)] ∧ fitT t ∧ (T.len t : Int) ≤ 9223372036854775807 := by
  have eT : structTs prog 127 = some [125] := by kernel_rfl
  have eL : sliceT prog 125 = some 213 := by kernel_rfl
  have eE : structTs prog 213 = some [127, 3] := by kernel_rfl
  have e3 : intT? prog 3 = some .i64 := by kernel_rfl
  have em : maxLen = 9223372036854775807 := rfl
  induction n using Nat.strongRecOn with
  | ind n ih =>
    intro ds h
    cases n with
    | zero => exact h.elim
    | succ n =>
      obtain ⟨a, b, rfl, h1, h2⟩ := has_struct h eT
      have h2 : b = [] := h2
      subst h2
      cases n with
      | zero => exact h1.elim
      | succ n =>
        obtain ⟨es, rfl, hl, hr⟩ := has_slice h1 eL
        have key : ∀ es : List (List D), (∀ r ∈ es, Has prog n 213 r) → ∃ t : T, es = T.rows t ∧ fitT t := by
          intro es
          induction es with
          | nil => intro _; exact ⟨T.nil, rfl, trivial⟩
          | cons r es ihs =>
            intro hr
            obtain ⟨t, rfl, ht⟩ := ihs fun q hq => hr q (List.mem_cons_of_mem _ hq)
            have hrr := hr r List.mem_cons_self
            cases n with
            | zero => exact hrr.elim
            | succ n =>
              obtain ⟨a, b, rfl, q1, q2⟩ := has_struct hrr eE
              obtain ⟨b1, b2, rfl, q3, q4⟩ := q2
              have q4 : b2 = [] := q4
              subst q4
              obtain ⟨e, rfl, f1, f2⟩ := ih n (by omega) a q1
              cases n with
              | zero => exact q1.elim
              | succ n =>
              obtain ⟨i, rfl, _⟩ := has_int q3 e3
              exact ⟨T.cons e i t, rfl, f1, f2, ht⟩
        obtain ⟨t, rfl, ht⟩ := key es hr
        refine ⟨t, rfl, ht, ?_⟩
        rw [T.rows_len] at hl
        omega
set_option maxRecDepth 100000 in
theorem word_has (n : Nat) : ∀ ds, Has prog n 40 ds → ∃ t : Wd, ds = [.sl (Wd.rowsW t)] ∧ fitW t ∧ (Wd.lenW t : Int) ≤ 9223372036854775807 := by
  have eT : structTs prog 40 = some [38] := by kernel_rfl
  have eL : sliceT prog 38 = some 129 := by kernel_rfl
  have eE : structTs prog 129 = some [4, 127] := by kernel_rfl
  have eB : (match prog.underlying 4 with | some .bool => true | _ => false) = true := by kernel_rfl
  have em : maxLen = 9223372036854775807 := rfl
  intro ds h
  cases n with
  | zero => exact h.elim
  | succ n =>
    obtain ⟨a, b, rfl, h1, h2⟩ := has_struct h eT
    have h2 : b = [] := h2
    subst h2
    cases n with
    | zero => exact h1.elim
    | succ n =>
      obtain ⟨es, rfl, hl, hr⟩ := has_slice h1 eL
      have key : ∀ es : List (List D), (∀ r ∈ es, Has prog n 129 r) → ∃ t : Wd, es = Wd.rowsW t ∧ fitW t := by
        intro es
        induction es with
        | nil => intro _; exact ⟨Wd.nil, rfl, trivial⟩
        | cons r es ihs =>
          intro hr
          obtain ⟨t, rfl, ht⟩ := ihs fun q hq => hr q (List.mem_cons_of_mem _ hq)
          have hrr := hr r List.mem_cons_self
          cases n with
          | zero => exact hrr.elim
          | succ n =>
            obtain ⟨a, b, rfl, q1, q2⟩ := has_struct hrr eE
            obtain ⟨b1, b2, rfl, q3, q4⟩ := q2
            have q4 : b2 = [] := q4
            subst q4
            obtain ⟨e, rfl, f1, f2⟩ := ord_has n b1 q3
            cases n with
            | zero => exact q1.elim
            | succ n =>
            obtain ⟨p, rfl⟩ := has_bool q1 eB
            exact ⟨Wd.cons p e t, rfl, f1, f2, ht⟩
      obtain ⟨t, rfl, ht⟩ := key es hr
      refine ⟨t, rfl, ht, ?_⟩
      rw [rowsW_len] at hl
      omega
set_option maxRecDepth 100000 in
theorem FnExactShortOfWord_true {n0 : Nat} {c0 : List D} (w0 : Has prog n0 40 c0) : Ct prog 4 [argA prog 40 c0] ⟨[], []⟩ (.d (.bool true)) ⟨[], []⟩ := by
  obtain ⟨a, rfl, fa, la⟩ := word_has _ _ w0
  rw [argA_agg (t := 40) (by kernel_rfl)]
  exact laws_FnExactShortOfWord_ct (FnExactShortOfWord_pure fa la)
end Go.Proofs.Try
