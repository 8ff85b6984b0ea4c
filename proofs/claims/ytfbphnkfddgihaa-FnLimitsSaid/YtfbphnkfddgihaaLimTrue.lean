/- FnLimits as a contract, on any arguments of its types. -/
import Derived.Test.YtfbphnkfddgihaaLawLimits
import Derived.Test.YtfbphnkfddgihaaAxFrame
namespace Go.Proofs.Try
open Go Go.AX
theorem bytes_has {n : Nat} {c : List D} (h : Has prog n 22 c) : ∃ es, c = [.sl es] ∧ bytes es := by
  have e22 : prog.underlying 22 = some (.slice 5) := by kernel_rfl
  have e5 : prog.underlying 5 = some (.int .u8) := by kernel_rfl
  cases n with
  | zero => exact h.elim
  | succ n =>
    simp only [Has, e22] at h
    obtain ⟨es, rfl, _, hr⟩ := h
    refine ⟨es, rfl, fun r hm => ?_⟩
    have := hr r hm
    cases n with
    | zero => exact this.elim
    | succ n =>
      simp only [Has, e5] at this
      obtain ⟨i, rfl, hw⟩ := this
      have e1 : IntKind.u8.min = 0 := by decide
      have e2 : IntKind.u8.max = 255 := by decide
      simp only [Lit.wf, e1, e2, Bool.and_eq_true, decide_eq_true_eq] at hw
      exact ⟨i, rfl, by omega, by omega⟩
theorem FnLimits_true {n0 n1 : Nat} {c0 c1 : List D} (w0 : Has prog n0 22 c0) (w1 : Has prog n1 22 c1) : Ct prog 7 [argA prog 22 c0, argA prog 22 c1] ⟨[], []⟩ (.d (.bool true)) ⟨[], []⟩ := by
  obtain ⟨x, rfl, hx⟩ := bytes_has w0
  obtain ⟨y, rfl, hy⟩ := bytes_has w1
  have e : aggT prog 22 = false := by kernel_rfl
  have h : ∀ ds : List D, argA prog 22 ds = .d (ds.headD (.bool false)) := fun ds => by unfold argA; rw [e]
  rw [h, h]
  exact laws_FnLimits_ct (limits_true hx)
end Go.Proofs.Try
