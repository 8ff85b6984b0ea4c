/- slices.Backward over ints: what its function value does. -/
import Derived.Test.YtmihoieaiojbhaaAxC
import Derived.Test.YtmihoieaiojbhaaAxC
import Derived.Test.YtmihoieaiojbhaaProg
import Derived.RangeFuncBox
import Derived.RangeFuncLeaves
import Derived.Shelf.Abstract
import Derived.Shelf.RegionOpen
import Derived.WalkKit
import Derived.OwnWalkIn
import Derived.TacticsInMore
import Derived.LoopNIn
import Derived.LoopIn
import Derived.KernelRfl
namespace Go.Proofs.Try
open Go Go.AX Go.RowKit Go.Shelf
attribute [local go_sem] Oper.semAt_some
set_option maxRecDepth 100000 in
set_option maxHeartbeats 4000000 in
theorem back1_in (n l : Nat) (pa : Addr) (cap : Nat) (a : Option Addr) (zs : List Int) (hn : 1 ≤ n) (hz : zs.length ≤ 9223372036854775807) (J : Nat → World → Prop)
    (hY : ∀ k W, k < zs.length → J k W → YieldAt Fence.wide (n - 1) prog l #[.int .i64 ((zs.length - 1 - k : Nat) : Int), .int .i64 (zs[zs.length - 1 - k]?.getD 0)] W fun e W' =>
      e = .returned (.bool true) ∧ J (k + 1) W' ∧ BackRd pa a cap zs W')
    (W : World) (hR : BackRd pa a cap zs W) (h0 : J 0 W) :
    CallsIn Fence.wide n prog 178 #[.func (.yield l) #[] #[], .pointer (some pa)] W fun e W' => (∃ v, e = .returned v) ∧ J zs.length W' := by
  refine callsIn_of_wp func178 rfl trivial ?_ rfl
  simp only [ntmps178, List.size_toArray, List.length_cons, List.length_nil, Nat.reduceAdd, Nat.reduceSub, Array.replicate_succ, Array.replicate_zero, List.push_toArray, List.append_toArray, List.nil_append, List.cons_append]
  have hBs := hR.1
  gi_wp2
  gi_loopw [3] (fun i wr => ∃ k : Nat, k ≤ zs.length ∧ i = .int .i64 ((zs.length : Int) - 1 - k) ∧ J k wr ∧ BackRd pa a cap zs wr)
    (fun i _ => (intOf i + 1).toNat)
  case atStart => exact ⟨0, Nat.zero_le _, by simp, h0, hR⟩
  case round =>
    obtain ⟨k, hk, rfl, hJs, hRk⟩ := hrel
    by_cases hlt : k < zs.length
    · have hj : zs.length - 1 - k < zs.length := by omega
      obtain ⟨ad, ha, hcx⟩ := hRk.2 (zs.length - 1 - k) hj
      have hb1 := hRk.1
      subst ha
      have e1 : ((zs.length : Int) - 1 - k) = ((zs.length - 1 - k : Nat) : Int) := by omega
      obtain ⟨fn, tmps, assign, body, hy, hR'⟩ := hY k wr hlt hJs
      rw [e1]
      have hge : (0 : Int) ≤ ((zs.length - 1 - k : Nat) : Int) := by omega
      generalize hm : zs.length - 1 - k = m at hj hcx hy hR' hge ⊢
      generalize hv : zs[m]?.getD 0 = v at hcx hy hR' ⊢
      gi_wp2
      refine hR'.mono ?_
      rintro e W3 ⟨rfl, hJ3, hk3⟩
      gi_wp2
      go_roundw
      case rel =>
        refine ⟨k + 1, by omega, ?_, hJ3, hk3⟩
        congr 1; omega
      case measure => simp [intOf]
    · obtain rfl : k = zs.length := by omega
      gi_wp2
      go_end0
      exact ⟨⟨_, rfl⟩, hJs⟩
theorem back_it : BackIt prog 178 := ⟨enters_of func178 (by kernel_rfl) rfl, fun n l pa cap a zs J W hn hz hY hR h0 => back1_in n l pa cap a zs hn hz J hY W hR h0⟩
set_option maxHeartbeats 1000000 in
theorem backward_calls (a : Option Addr) (n c : Nat) (v : Value) (hv : v = .slice a n c) (w : World) : Calls prog 141 #[v] w fun e w' => e = .returned (.func (.func 178) #[] #[.pointer (some ⟨w.heap.size, 0, none⟩)]) ∧ w' = w.alloc (.cells #[v] 52 (0, 0)) := by
  subst hv
  go_enter func141, ntmps141
  go_wp2
  go_ret
  exact ⟨rfl, rfl⟩
/-- slices.Backward: a function value with the slice in a box that nobody writes any more. -/
theorem backward_ct {a1 : Rw} : Ct prog 141 [.d (.sl a1)] ⟨[], []⟩ (.fn 178 [.dp [.sl a1]]) ⟨[], []⟩ := by
  refine ⟨⟨_, func141, rfl, rfl⟩, ⟨rfl, by simp, rfl, by simp⟩, fun w M vs hs hr => ?_⟩
  obtain ⟨v, rfl, hv⟩ := repL_oneD hr
  obtain ⟨a, n, c, hvs⟩ : ∃ a n c, v = .slice a n c := by
    cases hv with
    | sl a c sz es vs hc hsz ha hr => exact ⟨_, _, _, rfl⟩
  refine (backward_calls a n c v hvs w).mono ?_
  rintro e w' ⟨rfl, rfl⟩
  obtain ⟨hs1, hl⟩ := hs.alloc (.cells #[v] 52 (0, 0))
  have hs2 := hs1.freeze hl
  have hsz : (w.alloc (.cells #[v] 52 (0, 0))).heap.size = w.heap.size + 1 := by show (w.heap.push _).size = _; simp
  have old : ∀ b, b < w.heap.size → (w.alloc (.cells #[v] 52 (0, 0))).heap[b]? = w.heap[b]? := by
    intro b hb
    show (w.heap.push _)[b]? = _
    rw [Array.getElem?_push, if_neg (by omega)]
  have hnew : (w.alloc (.cells #[v] 52 (0, 0))).heap[w.heap.size]? = some (.cells #[v] 52 (0, 0)) := by
    show (w.heap.push _)[w.heap.size]? = _
    simp
  refine ⟨_, _, rfl, hs2, ?_, ⟨rfl, rfl, rfl, by rw [hsz]; omega, fun b hb _ => old b hb, fun b hb => .inl hb, fun b hb => ?_, fun id b hb => .inl ⟨id, hb⟩⟩, fun b hb => absurd hb (by simp)⟩
  · simp only [RepA]
    refine ⟨[_], rfl, ⟨_, fun _ => v, rfl, fun j x hx => ?_⟩, trivial⟩
    cases j with
    | zero =>
      cases hx
      refine ⟨.inr (by simp), ?_, hv.mono fun b hb => ⟨.inl hb, old b (hs.fz b hb)⟩⟩
      rw [add0]
      simp only [World.cell?, hnew]
      rfl
    | succ j => cases hx
  · rcases hb with hb | hb
    · exact .inl hb
    · simp only [List.mem_singleton] at hb; subst hb; exact .inr (.inr (Nat.le_refl _))
end Go.Proofs.Try
