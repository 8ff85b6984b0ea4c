/- FnExactHardyValue as a contract, on any arguments of its types. -/
import Derived.Test.YtfbphnkfddgihaaLawHardy
import Derived.Test.YtfbphnkfddgihaaAxFrame
namespace Go.Proofs.Try
open Go Go.AX
def structTs (P : Program) (t : TypeId) : Option (List TypeId) := match P.underlying t with
  | some (.struct fs) => some (fs.toList.map fun f => f.type)
  | _ => none
def sliceT (P : Program) (t : TypeId) : Option TypeId := match P.underlying t with
  | some (.slice e) => some e
  | _ => none
def intT? (P : Program) (t : TypeId) : Option IntKind := match P.underlying t with
  | some (.int k) => some k
  | _ => none
def HasTs (H : TypeId → List D → Prop) : List TypeId → List D → Prop
  | [], ds => ds = []
  | t :: l, ds => ∃ a b, ds = a ++ b ∧ H t a ∧ HasTs H l b
theorem hasTs_of {H : TypeId → List D → Prop} : ∀ {l : List Field} {ds : List D}, HasFs H l ds → HasTs H (l.map fun f => f.type) ds
  | [], _, h => h
  | _ :: _, _, ⟨a, b, e, h1, h2⟩ => ⟨a, b, e, h1, hasTs_of h2⟩
theorem has_struct {P : Program} {n : Nat} {t : TypeId} {l : List TypeId} {ds : List D} (h : Has P (n + 1) t ds) (e : structTs P t = some l) : HasTs (Has P n) l ds := by
  unfold structTs at e
  simp only [Has] at h
  split at e
  · rename_i fs hu
    rw [hu] at h
    cases e
    exact hasTs_of h
  · cases e
theorem has_slice {P : Program} {n : Nat} {t u : TypeId} {ds : List D} (h : Has P (n + 1) t ds) (e : sliceT P t = some u) : ∃ es, ds = [.sl es] ∧ es.length ≤ maxLen ∧ ∀ r ∈ es, Has P n u r := by
  unfold sliceT at e
  simp only [Has] at h
  split at e
  · rename_i v hu
    rw [hu] at h
    cases e
    exact h
  · cases e
theorem has_int {P : Program} {n : Nat} {t : TypeId} {k : IntKind} {ds : List D} (h : Has P (n + 1) t ds) (e : intT? P t = some k) : ∃ i, ds = [.int k i] ∧ (Lit.int k i).wf = true := by
  unfold intT? at e
  simp only [Has] at h
  split at e
  · rename_i v hu
    rw [hu] at h
    cases e
    exact h
  · cases e
set_option maxRecDepth 100000 in
theorem ord_has (n : Nat) : ∀ ds, Has prog n 36 ds → ∃ t : T, ds = [.sl t.rows] ∧ fitT t ∧ (t.len : Int) ≤ 9223372036854775807 := by
  have e36 : structTs prog 36 = some [34] := by kernel_rfl
  have e34 : sliceT prog 34 = some 136 := by kernel_rfl
  have e136 : structTs prog 136 = some [36, 3] := by kernel_rfl
  have e3 : intT? prog 3 = some .i64 := by kernel_rfl
  have em : maxLen = 9223372036854775807 := rfl
  induction n using Nat.strongRecOn with
  | ind n ih =>
    intro ds h
    cases n with
    | zero => exact h.elim
    | succ n =>
      obtain ⟨a, b, rfl, h1, h2⟩ := has_struct h e36
      have h2 : b = [] := h2
      subst h2
      cases n with
      | zero => exact h1.elim
      | succ n =>
        obtain ⟨es, rfl, hl, hr⟩ := has_slice h1 e34
        have key : ∀ es : List (List D), (∀ r ∈ es, Has prog n 136 r) → ∃ t : T, es = t.rows ∧ fitT t := by
          intro es
          induction es with
          | nil => intro _; exact ⟨.nil, rfl, trivial⟩
          | cons r es ihs =>
            intro hr
            obtain ⟨t, rfl, ht⟩ := ihs fun q hq => hr q (List.mem_cons_of_mem _ hq)
            have hrr := hr r List.mem_cons_self
            cases n with
            | zero => exact hrr.elim
            | succ n =>
              obtain ⟨a, b, rfl, q1, q2⟩ := has_struct hrr e136
              obtain ⟨b1, b2, rfl, q3, q4⟩ := q2
              have q4 : b2 = [] := q4
              subst q4
              obtain ⟨e, rfl, f1, f2⟩ := ih n (by omega) a q1
              cases n with
              | zero => exact q1.elim
              | succ n =>
                obtain ⟨i, rfl, _⟩ := has_int q3 e3
                exact ⟨.cons e i t, rfl, f1, f2, ht⟩
        obtain ⟨t, rfl, ht⟩ := key es hr
        refine ⟨t, rfl, ht, ?_⟩
        rw [T.rows_len] at hl
        omega
set_option maxRecDepth 100000 in
theorem int_has {n : Nat} {c : List D} (h : Has prog n 3 c) : ∃ i, c = [.int .i64 i] := by
  have e3 : intT? prog 3 = some .i64 := by kernel_rfl
  cases n with
  | zero => exact h.elim
  | succ n => obtain ⟨i, rfl, _⟩ := has_int h e3; exact ⟨i, rfl⟩
theorem FnExactHardyValue_true {n0 n1 n2 : Nat} {c0 c1 c2 : List D} (w0 : Has prog n0 36 c0) (w1 : Has prog n1 3 c1) (w2 : Has prog n2 3 c2) : Ct prog 4 [argA prog 36 c0, argA prog 3 c1, argA prog 3 c2] ⟨[], []⟩ (.d (.bool true)) ⟨[], []⟩ := by
  obtain ⟨a, rfl, hf, hl⟩ := ord_has _ _ w0
  obtain ⟨n, rfl⟩ := int_has w1
  obtain ⟨m, rfl⟩ := int_has w2
  have e : aggT prog 36 = true := by kernel_rfl
  have e2 : aggT prog 3 = false := by kernel_rfl
  have h : ∀ ds : List D, argA prog 36 ds = .agg (ds.map .d) := fun ds => by unfold argA; rw [e]
  have h2 : ∀ ds : List D, argA prog 3 ds = .d (ds.headD (.bool false)) := fun ds => by unfold argA; rw [e2]
  rw [h, h2, h2]
  exact laws_FnExactHardyValue_ct (hardy_true hf hl)
end Go.Proofs.Try
