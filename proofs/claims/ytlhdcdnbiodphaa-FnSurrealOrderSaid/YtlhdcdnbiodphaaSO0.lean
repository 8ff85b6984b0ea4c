/- Printed by program (axgen): pure functions, and that the Go functions compute them. -/
import Derived.Test.YtlhdcdnbiodphaaProg
import Derived.Test.YtlhdcdnbiodphaaAxC
import Derived.KernelRfl
set_option linter.unusedVariables false
set_option linter.unusedSimpArgs false
namespace Go.Proofs.Try
open Go Go.AX
theorem mixed : prog.follows .mixedOrders = true := by kernel_rfl
def cell_i {α : Type} (cs : List D) (K : Int → Option α) : Option α := match cs with | [.int .i64 a0] => K a0 | _ => none
def row_i {α : Type} (es : Rw) (i : Int) (K : Int → Option α) : Option α := if 0 ≤ i then (match es[i.toNat]? with | some cs => cell_i cs K | none => none) else none
theorem cell_i_ex {α : Type} {cs : List D} {K : Int → Option α} {r : α} (h : cell_i cs K = some r) : ∃ a0, cs = [.int .i64 a0] ∧ K a0 = some r := by
  unfold cell_i at h
  split at h
  · exact ⟨_, rfl, h⟩
  · cases h
theorem row_i_ex {α : Type} {es : Rw} {i : Int} {K : Int → Option α} {r : α} (h : row_i es i K = some r) : 0 ≤ i ∧ ∃ a0, es[i.toNat]? = some [.int .i64 a0] ∧ K a0 = some r := by
  unfold row_i at h
  obtain ⟨g, h⟩ := req_ex h
  split at h
  · rename_i cs e
    obtain ⟨a0, rfl, h⟩ := cell_i_ex h
    exact ⟨g, a0, e, h⟩
  · cases h
def cell_iu8 {α : Type} (cs : List D) (K : Int → Option α) : Option α := match cs with | [.int .u8 a0] => K a0 | _ => none
def row_iu8 {α : Type} (es : Rw) (i : Int) (K : Int → Option α) : Option α := if 0 ≤ i then (match es[i.toNat]? with | some cs => cell_iu8 cs K | none => none) else none
theorem cell_iu8_ex {α : Type} {cs : List D} {K : Int → Option α} {r : α} (h : cell_iu8 cs K = some r) : ∃ a0, cs = [.int .u8 a0] ∧ K a0 = some r := by
  unfold cell_iu8 at h
  split at h
  · exact ⟨_, rfl, h⟩
  · cases h
theorem row_iu8_ex {α : Type} {es : Rw} {i : Int} {K : Int → Option α} {r : α} (h : row_iu8 es i K = some r) : 0 ≤ i ∧ ∃ a0, es[i.toNat]? = some [.int .u8 a0] ∧ K a0 = some r := by
  unfold row_iu8 at h
  obtain ⟨g, h⟩ := req_ex h
  split at h
  · rename_i cs e
    obtain ⟨a0, rfl, h⟩ := cell_iu8_ex h
    exact ⟨g, a0, e, h⟩
  · cases h
def cell_si {α : Type} (cs : List D) (K : Rw → Int → Option α) : Option α := match cs with | [.sl a0, .int .i64 a1] => K a0 a1 | _ => none
def row_si {α : Type} (es : Rw) (i : Int) (K : Rw → Int → Option α) : Option α := if 0 ≤ i then (match es[i.toNat]? with | some cs => cell_si cs K | none => none) else none
theorem cell_si_ex {α : Type} {cs : List D} {K : Rw → Int → Option α} {r : α} (h : cell_si cs K = some r) : ∃ a0 a1, cs = [.sl a0, .int .i64 a1] ∧ K a0 a1 = some r := by
  unfold cell_si at h
  split at h
  · exact ⟨_, _, rfl, h⟩
  · cases h
theorem row_si_ex {α : Type} {es : Rw} {i : Int} {K : Rw → Int → Option α} {r : α} (h : row_si es i K = some r) : 0 ≤ i ∧ ∃ a0 a1, es[i.toNat]? = some [.sl a0, .int .i64 a1] ∧ K a0 a1 = some r := by
  unfold row_si at h
  obtain ⟨g, h⟩ := req_ex h
  split at h
  · rename_i cs e
    obtain ⟨a0, a1, rfl, h⟩ := cell_si_ex h
    exact ⟨g, a0, a1, e, h⟩
  · cases h
def cell_sii {α : Type} (cs : List D) (K : Rw → Int → Int → Option α) : Option α := match cs with | [.sl a0, .int .i64 a1, .int .i64 a2] => K a0 a1 a2 | _ => none
def row_sii {α : Type} (es : Rw) (i : Int) (K : Rw → Int → Int → Option α) : Option α := if 0 ≤ i then (match es[i.toNat]? with | some cs => cell_sii cs K | none => none) else none
theorem cell_sii_ex {α : Type} {cs : List D} {K : Rw → Int → Int → Option α} {r : α} (h : cell_sii cs K = some r) : ∃ a0 a1 a2, cs = [.sl a0, .int .i64 a1, .int .i64 a2] ∧ K a0 a1 a2 = some r := by
  unfold cell_sii at h
  split at h
  · exact ⟨_, _, _, rfl, h⟩
  · cases h
theorem row_sii_ex {α : Type} {es : Rw} {i : Int} {K : Rw → Int → Int → Option α} {r : α} (h : row_sii es i K = some r) : 0 ≤ i ∧ ∃ a0 a1 a2, es[i.toNat]? = some [.sl a0, .int .i64 a1, .int .i64 a2] ∧ K a0 a1 a2 = some r := by
  unfold row_sii at h
  obtain ⟨g, h⟩ := req_ex h
  split at h
  · rename_i cs e
    obtain ⟨a0, a1, a2, rfl, h⟩ := cell_sii_ex h
    exact ⟨g, a0, a1, a2, e, h⟩
  · cases h
def cell_t {α : Type} (cs : List D) (K : ByteArray → Option α) : Option α := match cs with | [.str a0] => K a0 | _ => none
def row_t {α : Type} (es : Rw) (i : Int) (K : ByteArray → Option α) : Option α := if 0 ≤ i then (match es[i.toNat]? with | some cs => cell_t cs K | none => none) else none
theorem cell_t_ex {α : Type} {cs : List D} {K : ByteArray → Option α} {r : α} (h : cell_t cs K = some r) : ∃ a0, cs = [.str a0] ∧ K a0 = some r := by
  unfold cell_t at h
  split at h
  · exact ⟨_, rfl, h⟩
  · cases h
theorem row_t_ex {α : Type} {es : Rw} {i : Int} {K : ByteArray → Option α} {r : α} (h : row_t es i K = some r) : 0 ≤ i ∧ ∃ a0, es[i.toNat]? = some [.str a0] ∧ K a0 = some r := by
  unfold row_t at h
  obtain ⟨g, h⟩ := req_ex h
  split at h
  · rename_i cs e
    obtain ⟨a0, rfl, h⟩ := cell_t_ex h
    exact ⟨g, a0, e, h⟩
  · cases h
noncomputable section
def impl_in  (a1 : Int) (a2 : Int) (a3 : Int) : Option Bool :=
  (if a2 ≤ a1 then (if a1 ≤ a3 then some true else some false) else some false)
set_option maxHeartbeats 4000000 in
set_option maxRecDepth 100000 in
theorem impl_in_ct  {a1 : Int} {a2 : Int} {a3 : Int} {r : Bool} (h : impl_in a1 a2 a3 = some r) : Ct prog 71 [.d (D.int .i64 a1), .d (D.int .i64 a2), .d (D.int .i64 a3)] (⟨[], []⟩) (.d (D.bool r)) (⟨[], []⟩) := by
  rw [impl_in] at h
  refine Ct.of (c := _) mixed func71 ⟨rfl, rfl, rfl⟩ ?_ rfl
  conv => whnf
  refine splD (fun g4 => ?_) (fun g4 => ?_)
  · replace h := iteP h g4
    conv => whnf
    refine splD (fun g5 => ?_) (fun g5 => ?_)
    · replace h := iteP h g5
      conv => whnf
      cases h
      exact Done.of [] [] rfl rfl ⟨⟨rfl, rfl⟩, ⟨rfl, trivial⟩, rfl, trivial⟩
    · replace h := iteN h g5
      conv => whnf
      cases h
      exact Done.of [] [] rfl rfl ⟨⟨rfl, rfl⟩, ⟨rfl, trivial⟩, rfl, trivial⟩
  · replace h := iteN h g4
    conv => whnf
    cases h
    exact Done.of [] [] rfl rfl ⟨⟨rfl, rfl⟩, ⟨rfl, trivial⟩, rfl, trivial⟩

def impl_size  (a1 : Int) : Option Int :=
  some (if a1 < (IntKind.i64.wrap (0 - a1)) then IntKind.i64.wrap (0 - a1) else a1)
set_option maxHeartbeats 4000000 in
set_option maxRecDepth 100000 in
theorem impl_size_ct  {a1 : Int} {r : Int} (h : impl_size a1 = some r) : Ct prog 215 [.d (D.int .i64 a1)] (⟨[], []⟩) (.d (D.int .i64 r)) (⟨[], []⟩) := by
  rw [impl_size] at h
  refine Ct.of (c := _) mixed func215 ⟨rfl, rfl, rfl⟩ ?_ rfl
  conv => whnf
  cases h
  exact Done.of [] [] rfl rfl ⟨⟨rfl, rfl⟩, ⟨rfl, trivial⟩, rfl, trivial⟩

def impl_gcd_l0 (K0 : Int → Option Int) : Nat → Int → Int → Option Int
  | 0, _, _ => none
  | n + 1, v5, v6 => (if v6 = (0 : Int) then (K0 v5) else (if v6 ≠ 0 then (impl_gcd_l0 K0 n v6 (v5.tmod v6)) else none))
set_option maxRecDepth 100000 in
theorem impl_gcd_l0_ct {K0 : Int → Option Int} {r : Int} : ∀ (n : Nat) (v5 : Int) (v6 : Int), impl_gcd_l0 K0 n v5 v6 = some r → LoopOk prog 0 (lp f192 0) (mk 13 [(0, .d (D.int .i64 v5)), (1, .d (D.int .i64 v6))] []) (LoopEnd prog f192 0 13 (.d (D.int .i64 r)) (⟨[], []⟩) (fun i ts os => (i = 0 ∧ ∃ v9 : Int, K0 v9 = some r ∧ ts = [(0, .d (D.int .i64 v9))] ∧ os = [])))
  | 0, _, _, h => by
      rw [impl_gcd_l0] at h; cases h
  | n + 1, v5, v6, h => by
      rw [impl_gcd_l0] at h
      refine LoopOk.step ?_
      conv => whnf
      refine splN (fun g12 => ?_) (fun g12 => ?_)
      · replace h := iteN h g12
        conv => whnf
        obtain ⟨g13, h⟩ := req_ex h
        refine Req.of g13 ?_
        conv => whnf
        exact LoopOk.back (impl_gcd_l0_ct  n _ _ h) [] [] ⟨⟨rfl, rfl⟩, ⟨rfl, trivial⟩, rfl, rfl, trivial⟩
      · replace h := iteP h g12
        conv => whnf
        exact ⟨_, _, [], [], ⟨rfl, _, h, rfl, rfl⟩, ⟨⟨rfl, rfl⟩, ⟨rfl, trivial⟩, rfl, trivial⟩⟩
def impl_gcd (k : Nat) (a1 : Int) (a2 : Int) : Option Int :=
  (impl_gcd_l0 (fun (v9 : Int) => ((impl_size v9).bind fun y14 => some y14)) k a1 a2)
set_option maxHeartbeats 4000000 in
set_option maxRecDepth 100000 in
theorem impl_gcd_ct {k : Nat} {a1 : Int} {a2 : Int} {r : Int} (h : impl_gcd k a1 a2 = some r) : Ct prog 192 [.d (D.int .i64 a1), .d (D.int .i64 a2)] (⟨[], []⟩) (.d (D.int .i64 r)) (⟨[], []⟩) := by
  rw [impl_gcd] at h
  refine Ct.of (c := _) mixed func192 ⟨rfl, rfl, rfl⟩ ?_ rfl
  conv => whnf
  refine LoopOk.into (impl_gcd_l0_ct  _ _ _ h) [] [] ⟨⟨rfl, rfl⟩, ⟨rfl, trivial⟩, rfl, rfl, trivial⟩ ?_ (fun _ hs => hs)
  rintro i ts os ⟨rfl, v9, h, rfl, rfl⟩
  conv => whnf
  refine CutK.go ?_
  conv => whnf
  refine Pick.no ?_
  conv => whnf
  obtain ⟨y14, e15, h⟩ := bind_ex h
  refine CallOk.of (impl_size_ct e15) ?_
  conv => whnf
  refine CutK.go ?_
  conv => whnf
  cases h
  exact Done.of [] [] rfl rfl ⟨⟨rfl, rfl⟩, ⟨rfl, trivial⟩, rfl, trivial⟩

def impl_IsFraction (k : Nat) (a1 : Int) (a2 : Int) : Option Bool :=
  ((impl_in a2 1 1000000).bind fun y3 => (if y3 = true then ((impl_in a1 (-1000000) 1000000).bind fun y6 => (if y6 = true then ((impl_gcd k a1 a2).bind fun y9 => (if y9 = (1 : Int) then some true else some false)) else some false)) else some false))
set_option maxHeartbeats 4000000 in
set_option maxRecDepth 100000 in
theorem impl_IsFraction_ct {k : Nat} {a1 : Int} {a2 : Int} {r : Bool} (h : impl_IsFraction k a1 a2 = some r) : Ct prog 123 [.agg [.d (D.int .i64 a1), .d (D.int .i64 a2)]] (⟨[], []⟩) (.d (D.bool r)) (⟨[], []⟩) := by
  rw [impl_IsFraction] at h
  refine Ct.of (c := _) mixed func123 ⟨rfl, rfl, rfl⟩ ?_ rfl
  conv => whnf
  refine Pick.no ?_
  conv => whnf
  obtain ⟨y3, e4, h⟩ := bind_ex h
  refine CallOk.of (impl_in_ct e4) ?_
  conv => whnf
  refine spl (fun g5 => ?_) (fun g5 => ?_)
  · replace h := iteT h g5
    conv => whnf
    refine Pick.no ?_
    conv => whnf
    obtain ⟨y6, e7, h⟩ := bind_ex h
    refine CallOk.of (impl_in_ct e7) ?_
    conv => whnf
    refine spl (fun g8 => ?_) (fun g8 => ?_)
    · replace h := iteT h g8
      conv => whnf
      refine Pick.no ?_
      conv => whnf
      obtain ⟨y9, e10, h⟩ := bind_ex h
      refine CallOk.of (impl_gcd_ct e10) ?_
      conv => whnf
      refine splD (fun g11 => ?_) (fun g11 => ?_)
      · replace h := iteP h g11
        conv => whnf
        refine CutK.go ?_
        conv => whnf
        cases h
        exact Done.of [] [] rfl rfl ⟨⟨rfl, rfl⟩, ⟨rfl, trivial⟩, rfl, trivial⟩
      · replace h := iteN h g11
        conv => whnf
        refine CutK.go ?_
        conv => whnf
        cases h
        exact Done.of [] [] rfl rfl ⟨⟨rfl, rfl⟩, ⟨rfl, trivial⟩, rfl, trivial⟩
    · replace h := iteF h g8
      conv => whnf
      refine CutK.go ?_
      conv => whnf
      cases h
      exact Done.of [] [] rfl rfl ⟨⟨rfl, rfl⟩, ⟨rfl, trivial⟩, rfl, trivial⟩
  · replace h := iteF h g5
    conv => whnf
    refine CutK.go ?_
    conv => whnf
    cases h
    exact Done.of [] [] rfl rfl ⟨⟨rfl, rfl⟩, ⟨rfl, trivial⟩, rfl, trivial⟩

def impl_compare  (a1 : Int) (a2 : Int) : Option Int :=
  (if a1 < a2 then some (-1) else (if a2 < a1 then some 1 else some 0))
set_option maxHeartbeats 4000000 in
set_option maxRecDepth 100000 in
theorem impl_compare_ct  {a1 : Int} {a2 : Int} {r : Int} (h : impl_compare a1 a2 = some r) : Ct prog 176 [.d (D.int .i64 a1), .d (D.int .i64 a2)] (⟨[], []⟩) (.d (D.int .i64 r)) (⟨[], []⟩) := by
  rw [impl_compare] at h
  refine Ct.of (c := _) mixed func176 ⟨rfl, rfl, rfl⟩ ?_ rfl
  conv => whnf
  refine splD (fun g3 => ?_) (fun g3 => ?_)
  · replace h := iteP h g3
    conv => whnf
    cases h
    exact Done.of [] [] rfl rfl ⟨⟨rfl, rfl⟩, ⟨rfl, trivial⟩, rfl, trivial⟩
  · replace h := iteN h g3
    conv => whnf
    refine splD (fun g4 => ?_) (fun g4 => ?_)
    · replace h := iteP h g4
      conv => whnf
      cases h
      exact Done.of [] [] rfl rfl ⟨⟨rfl, rfl⟩, ⟨rfl, trivial⟩, rfl, trivial⟩
    · replace h := iteN h g4
      conv => whnf
      cases h
      exact Done.of [] [] rfl rfl ⟨⟨rfl, rfl⟩, ⟨rfl, trivial⟩, rfl, trivial⟩

def impl_cmpFractions  (a1 : Int) (a2 : Int) (a3 : Int) (a4 : Int) : Option Int :=
  ((impl_compare (IntKind.i64.wrap (a1 * a4)) (IntKind.i64.wrap (a3 * a2))).bind fun y5 => some y5)
set_option maxHeartbeats 4000000 in
set_option maxRecDepth 100000 in
theorem impl_cmpFractions_ct  {a1 : Int} {a2 : Int} {a3 : Int} {a4 : Int} {r : Int} (h : impl_cmpFractions a1 a2 a3 a4 = some r) : Ct prog 177 [.agg [.d (D.int .i64 a1), .d (D.int .i64 a2)], .agg [.d (D.int .i64 a3), .d (D.int .i64 a4)]] (⟨[], []⟩) (.d (D.int .i64 r)) (⟨[], []⟩) := by
  rw [impl_cmpFractions] at h
  refine Ct.of (c := _) mixed func177 ⟨rfl, rfl, rfl⟩ ?_ rfl
  conv => whnf
  refine Pick.no ?_
  conv => whnf
  obtain ⟨y5, e6, h⟩ := bind_ex h
  refine CallOk.of (impl_compare_ct e6) ?_
  conv => whnf
  refine CutK.go ?_
  conv => whnf
  cases h
  exact Done.of [] [] rfl rfl ⟨⟨rfl, rfl⟩, ⟨rfl, trivial⟩, rfl, trivial⟩

def impl_order_p2  : Option Int :=
  some 0
set_option maxHeartbeats 4000000 in
set_option maxRecDepth 100000 in
theorem impl_order_p2_ct  {r : Int} (h : impl_order_p2 = some r) : X prog 0 (tlF f103 2) (mk 86 [] []) (finK prog f103 0 (.d (D.int .i64 r)) (⟨[], []⟩)) := by
  rw [impl_order_p2] at h
  conv => whnf
  cases h
  exact Done.of [] [] rfl rfl ⟨⟨rfl, rfl⟩, ⟨rfl, trivial⟩, rfl, trivial⟩
def impl_order_l0 (rec_impl_order : Rw → Rw → Option Int) (a1 : Rw) (a2 : Rw) (K0 : Option Int) : Nat → Int → Option Int
  | 0, _ => none
  | n + 1, v211 => (if v211 < (a1.length : Int) then (if v211 = (a1.length : Int) then (row_sii a2 v211 fun x359 x360 x361 => ((impl_compare x360 0).bind fun y364 => some (IntKind.i64.wrap (0 - y364)))) else (if v211 = (a2.length : Int) then (row_sii a1 v211 fun x367 x368 x369 => ((impl_compare x368 0).bind fun y372 => some y372)) else (row_sii a1 v211 fun x374 x375 x376 => (row_sii a2 v211 fun x379 x380 x381 => ((rec_impl_order x374 x379).bind fun y384 => (if y384 = (1 : Int) then ((impl_compare x375 0).bind fun y387 => some y387) else (if y384 = ((-1) : Int) then ((impl_compare x380 0).bind fun y390 => some (IntKind.i64.wrap (0 - y390))) else ((impl_cmpFractions x375 x376 x380 x381).bind fun y392 => (if y392 = (0 : Int) then (impl_order_l0 rec_impl_order a1 a2 K0 n (IntKind.i64.wrap (v211 + 1))) else some y392))))))))) else (if v211 < (a2.length : Int) then (if v211 = (a1.length : Int) then (row_sii a2 v211 fun x397 x398 x399 => ((impl_compare x398 0).bind fun y402 => some (IntKind.i64.wrap (0 - y402)))) else (if v211 = (a2.length : Int) then (row_sii a1 v211 fun x405 x406 x407 => ((impl_compare x406 0).bind fun y410 => some y410)) else (row_sii a1 v211 fun x412 x413 x414 => (row_sii a2 v211 fun x417 x418 x419 => ((rec_impl_order x412 x417).bind fun y422 => (if y422 = (1 : Int) then ((impl_compare x413 0).bind fun y425 => some y425) else (if y422 = ((-1) : Int) then ((impl_compare x418 0).bind fun y428 => some (IntKind.i64.wrap (0 - y428))) else ((impl_cmpFractions x413 x414 x418 x419).bind fun y430 => (if y430 = (0 : Int) then (impl_order_l0 rec_impl_order a1 a2 K0 n (IntKind.i64.wrap (v211 + 1))) else some y430))))))))) else (K0)))
set_option maxRecDepth 100000 in
theorem impl_order_l0_ct {rec_impl_order : Rw → Rw → Option Int} {a1 : Rw} {a2 : Rw} {K0 : Option Int} (hrec_impl_order : ∀ (a1 : Rw) (a2 : Rw) (r : Int), rec_impl_order a1 a2 = some r → Ct prog 103 [.agg [.d (D.sl a1)], .agg [.d (D.sl a2)]] (⟨[], []⟩) (.d (D.int .i64 r)) (⟨[], []⟩)) {r : Int} : ∀ (n : Nat) (v211 : Int), impl_order_l0 rec_impl_order a1 a2 K0 n v211 = some r → LoopOk prog 0 (lp f103 0) (mk 86 [(2, .ptr 128 0), (3, .ptr 192 0), (5, .d (D.int .i64 v211))] [(128, .box 46 [.d (D.sl a1)]), (192, .box 46 [.d (D.sl a2)])]) (LoopEnd prog f103 0 86 (.d (D.int .i64 r)) (⟨[], []⟩) (fun i ts os => (i = 0 ∧ K0 = some r ∧ ts = [] ∧ os = [])))
  | 0, _, h => by
      rw [impl_order_l0] at h; cases h
  | n + 1, v211, h => by
      rw [impl_order_l0] at h
      refine LoopOk.step ?_
      conv => whnf
      refine splD (fun g357 => ?_) (fun g357 => ?_)
      · replace h := iteP h g357
        conv => whnf
        refine splD (fun g358 => ?_) (fun g358 => ?_)
        · replace h := iteP h g358
          conv => whnf
          obtain ⟨g363, x359, x360, x361, e362, h⟩ := row_sii_ex h
          refine Req.of g363 ?_
          refine Row.of _ e362 ?_
          conv => whnf
          refine Pick.no ?_
          conv => whnf
          obtain ⟨y364, e365, h⟩ := bind_ex h
          refine CallOk.of (impl_compare_ct e365) ?_
          conv => whnf
          refine CutK.norm [4] [] ?_
          conv => whnf
          cases h
          exact Done.of [] [] rfl rfl ⟨⟨rfl, rfl⟩, ⟨rfl, trivial⟩, rfl, trivial⟩
        · replace h := iteN h g358
          conv => whnf
          refine CutK.norm [2, 3, 5] [128, 192] ?_
          conv => whnf
          refine splD (fun g366 => ?_) (fun g366 => ?_)
          · replace h := iteP h g366
            conv => whnf
            obtain ⟨g371, x367, x368, x369, e370, h⟩ := row_sii_ex h
            refine Req.of g371 ?_
            refine Row.of _ e370 ?_
            conv => whnf
            refine Pick.no ?_
            conv => whnf
            obtain ⟨y372, e373, h⟩ := bind_ex h
            refine CallOk.of (impl_compare_ct e373) ?_
            conv => whnf
            refine CutK.norm [4] [] ?_
            conv => whnf
            cases h
            exact Done.of [] [] rfl rfl ⟨⟨rfl, rfl⟩, ⟨rfl, trivial⟩, rfl, trivial⟩
          · replace h := iteN h g366
            conv => whnf
            refine CutK.norm [2, 3, 5] [128, 192] ?_
            conv => whnf
            obtain ⟨g378, x374, x375, x376, e377, h⟩ := row_sii_ex h
            refine Req.of g378 ?_
            refine Row.of _ e377 ?_
            conv => whnf
            obtain ⟨g383, x379, x380, x381, e382, h⟩ := row_sii_ex h
            refine Req.of g383 ?_
            refine Row.of _ e382 ?_
            conv => whnf
            refine Pick.no ?_
            conv => whnf
            obtain ⟨y384, e385, h⟩ := bind_ex h
            refine CallOk.of (hrec_impl_order _ _ _ e385) ?_
            conv => whnf
            refine CutK.norm [2, 3, 5, 6, 7, 64] [128, 192, 384, 448] ?_
            conv => whnf
            refine splD (fun g386 => ?_) (fun g386 => ?_)
            · replace h := iteP h g386
              conv => whnf
              refine Pick.no ?_
              conv => whnf
              obtain ⟨y387, e388, h⟩ := bind_ex h
              refine CallOk.of (impl_compare_ct e388) ?_
              conv => whnf
              refine CutK.norm [4] [] ?_
              conv => whnf
              cases h
              exact Done.of [] [] rfl rfl ⟨⟨rfl, rfl⟩, ⟨rfl, trivial⟩, rfl, trivial⟩
            · replace h := iteN h g386
              conv => whnf
              refine splD (fun g389 => ?_) (fun g389 => ?_)
              · replace h := iteP h g389
                conv => whnf
                refine Pick.no ?_
                conv => whnf
                obtain ⟨y390, e391, h⟩ := bind_ex h
                refine CallOk.of (impl_compare_ct e391) ?_
                conv => whnf
                refine CutK.norm [4] [] ?_
                conv => whnf
                cases h
                exact Done.of [] [] rfl rfl ⟨⟨rfl, rfl⟩, ⟨rfl, trivial⟩, rfl, trivial⟩
              · replace h := iteN h g389
                conv => whnf
                refine CutK.norm [2, 3, 5, 6, 7] [128, 192, 384, 448] ?_
                conv => whnf
                refine Pick.no ?_
                conv => whnf
                obtain ⟨y392, e393, h⟩ := bind_ex h
                refine CallOk.of (impl_cmpFractions_ct e393) ?_
                conv => whnf
                refine CutK.norm [2, 3, 5, 8] [128, 192] ?_
                conv => whnf
                refine splN (fun g394 => ?_) (fun g394 => ?_)
                · replace h := iteN h g394
                  conv => whnf
                  cases h
                  exact Done.of [] [] rfl rfl ⟨⟨rfl, rfl⟩, ⟨rfl, trivial⟩, rfl, trivial⟩
                · replace h := iteP h g394
                  conv => whnf
                  refine CutK.norm [2, 3, 5] [128, 192] ?_
                  conv => whnf
                  exact LoopOk.back (impl_order_l0_ct hrec_impl_order n _ h) [some 128, some 192] [] ⟨⟨rfl, rfl⟩, ⟨rfl, ⟨rfl, rfl, trivial⟩, ⟨rfl, rfl, trivial⟩, trivial⟩, ⟨rfl, rfl⟩, ⟨rfl, rfl⟩, rfl, trivial⟩
      · replace h := iteN h g357
        conv => whnf
        refine splD (fun g395 => ?_) (fun g395 => ?_)
        · replace h := iteP h g395
          conv => whnf
          refine splD (fun g396 => ?_) (fun g396 => ?_)
          · replace h := iteP h g396
            conv => whnf
            obtain ⟨g401, x397, x398, x399, e400, h⟩ := row_sii_ex h
            refine Req.of g401 ?_
            refine Row.of _ e400 ?_
            conv => whnf
            refine Pick.no ?_
            conv => whnf
            obtain ⟨y402, e403, h⟩ := bind_ex h
            refine CallOk.of (impl_compare_ct e403) ?_
            conv => whnf
            refine CutK.norm [4] [] ?_
            conv => whnf
            cases h
            exact Done.of [] [] rfl rfl ⟨⟨rfl, rfl⟩, ⟨rfl, trivial⟩, rfl, trivial⟩
          · replace h := iteN h g396
            conv => whnf
            refine CutK.norm [2, 3, 5] [128, 192] ?_
            conv => whnf
            refine splD (fun g404 => ?_) (fun g404 => ?_)
            · replace h := iteP h g404
              conv => whnf
              obtain ⟨g409, x405, x406, x407, e408, h⟩ := row_sii_ex h
              refine Req.of g409 ?_
              refine Row.of _ e408 ?_
              conv => whnf
              refine Pick.no ?_
              conv => whnf
              obtain ⟨y410, e411, h⟩ := bind_ex h
              refine CallOk.of (impl_compare_ct e411) ?_
              conv => whnf
              refine CutK.norm [4] [] ?_
              conv => whnf
              cases h
              exact Done.of [] [] rfl rfl ⟨⟨rfl, rfl⟩, ⟨rfl, trivial⟩, rfl, trivial⟩
            · replace h := iteN h g404
              conv => whnf
              refine CutK.norm [2, 3, 5] [128, 192] ?_
              conv => whnf
              obtain ⟨g416, x412, x413, x414, e415, h⟩ := row_sii_ex h
              refine Req.of g416 ?_
              refine Row.of _ e415 ?_
              conv => whnf
              obtain ⟨g421, x417, x418, x419, e420, h⟩ := row_sii_ex h
              refine Req.of g421 ?_
              refine Row.of _ e420 ?_
              conv => whnf
              refine Pick.no ?_
              conv => whnf
              obtain ⟨y422, e423, h⟩ := bind_ex h
              refine CallOk.of (hrec_impl_order _ _ _ e423) ?_
              conv => whnf
              refine CutK.norm [2, 3, 5, 6, 7, 64] [128, 192, 384, 448] ?_
              conv => whnf
              refine splD (fun g424 => ?_) (fun g424 => ?_)
              · replace h := iteP h g424
                conv => whnf
                refine Pick.no ?_
                conv => whnf
                obtain ⟨y425, e426, h⟩ := bind_ex h
                refine CallOk.of (impl_compare_ct e426) ?_
                conv => whnf
                refine CutK.norm [4] [] ?_
                conv => whnf
                cases h
                exact Done.of [] [] rfl rfl ⟨⟨rfl, rfl⟩, ⟨rfl, trivial⟩, rfl, trivial⟩
              · replace h := iteN h g424
                conv => whnf
                refine splD (fun g427 => ?_) (fun g427 => ?_)
                · replace h := iteP h g427
                  conv => whnf
                  refine Pick.no ?_
                  conv => whnf
                  obtain ⟨y428, e429, h⟩ := bind_ex h
                  refine CallOk.of (impl_compare_ct e429) ?_
                  conv => whnf
                  refine CutK.norm [4] [] ?_
                  conv => whnf
                  cases h
                  exact Done.of [] [] rfl rfl ⟨⟨rfl, rfl⟩, ⟨rfl, trivial⟩, rfl, trivial⟩
                · replace h := iteN h g427
                  conv => whnf
                  refine CutK.norm [2, 3, 5, 6, 7] [128, 192, 384, 448] ?_
                  conv => whnf
                  refine Pick.no ?_
                  conv => whnf
                  obtain ⟨y430, e431, h⟩ := bind_ex h
                  refine CallOk.of (impl_cmpFractions_ct e431) ?_
                  conv => whnf
                  refine CutK.norm [2, 3, 5, 8] [128, 192] ?_
                  conv => whnf
                  refine splN (fun g432 => ?_) (fun g432 => ?_)
                  · replace h := iteN h g432
                    conv => whnf
                    cases h
                    exact Done.of [] [] rfl rfl ⟨⟨rfl, rfl⟩, ⟨rfl, trivial⟩, rfl, trivial⟩
                  · replace h := iteP h g432
                    conv => whnf
                    refine CutK.norm [2, 3, 5] [128, 192] ?_
                    conv => whnf
                    exact LoopOk.back (impl_order_l0_ct hrec_impl_order n _ h) [some 128, some 192] [] ⟨⟨rfl, rfl⟩, ⟨rfl, ⟨rfl, rfl, trivial⟩, ⟨rfl, rfl, trivial⟩, trivial⟩, ⟨rfl, rfl⟩, ⟨rfl, rfl⟩, rfl, trivial⟩
        · replace h := iteN h g395
          conv => whnf
          exact ⟨_, _, [], [], ⟨rfl, h, rfl, rfl⟩, ⟨⟨rfl, rfl⟩, ⟨rfl, trivial⟩, trivial⟩⟩
def impl_order_b (k : Nat) (rec_impl_order : Rw → Rw → Option Int) (a1 : Rw) (a2 : Rw) : Option Int :=
  (impl_order_l0 rec_impl_order a1 a2 (impl_order_p2) k 0)
set_option maxHeartbeats 4000000 in
set_option maxRecDepth 100000 in
theorem impl_order_b_ct {k : Nat} {rec_impl_order : Rw → Rw → Option Int} (hrec_impl_order : ∀ (a1 : Rw) (a2 : Rw) (r : Int), rec_impl_order a1 a2 = some r → Ct prog 103 [.agg [.d (D.sl a1)], .agg [.d (D.sl a2)]] (⟨[], []⟩) (.d (D.int .i64 r)) (⟨[], []⟩)) {a1 : Rw} {a2 : Rw} {r : Int} (h : impl_order_b k rec_impl_order a1 a2 = some r) : Ct prog 103 [.agg [.d (D.sl a1)], .agg [.d (D.sl a2)]] (⟨[], []⟩) (.d (D.int .i64 r)) (⟨[], []⟩) := by
  rw [impl_order_b] at h
  refine Ct.of (c := _) mixed func103 ⟨rfl, rfl, rfl⟩ ?_ rfl
  conv => whnf
  refine LoopOk.into (impl_order_l0_ct hrec_impl_order _ _ h) [some 128, some 192] [] ⟨⟨rfl, rfl⟩, ⟨rfl, ⟨rfl, rfl, trivial⟩, ⟨rfl, rfl, trivial⟩, trivial⟩, ⟨rfl, rfl⟩, ⟨rfl, rfl⟩, rfl, trivial⟩ ?_ (fun _ hs => hs)
  rintro i ts os ⟨rfl, h, rfl, rfl⟩
  conv => whnf
  exact CutK.piece (impl_order_p2_ct  h) [] [] ⟨⟨rfl, rfl⟩, ⟨rfl, trivial⟩, trivial⟩
def impl_order : Nat → Rw → Rw → Option Int
  | 0, _, _ => none
  | k + 1, a1, a2 => impl_order_b k (impl_order k) a1 a2
theorem impl_order_ct' : ∀ (k : Nat) (a1 : Rw) (a2 : Rw) (r : Int), impl_order k a1 a2 = some r → Ct prog 103 [.agg [.d (D.sl a1)], .agg [.d (D.sl a2)]] (⟨[], []⟩) (.d (D.int .i64 r)) (⟨[], []⟩)
  | 0, _, _, _, h => by rw [impl_order] at h; cases h
  | k + 1, _, _, _, h => by rw [impl_order] at h; exact impl_order_b_ct (impl_order_ct' k) h
theorem impl_order_ct {k : Nat} {a1 : Rw} {a2 : Rw} {r : Int} (h : impl_order k a1 a2 = some r) : Ct prog 103 [.agg [.d (D.sl a1)], .agg [.d (D.sl a2)]] (⟨[], []⟩) (.d (D.int .i64 r)) (⟨[], []⟩) := impl_order_ct' k _ _ _ h

def impl_surrealAt_2_p3 (o71 : Int) : Option (Bool × Int) :=
  some (true, o71)
set_option maxHeartbeats 4000000 in
set_option maxRecDepth 100000 in
theorem impl_surrealAt_2_p3_ct {o71 : Int} {r : Bool × Int} (h : impl_surrealAt_2_p3 o71 = some r) : X prog 1 (tlF f173 3) (mk 91 [] [(0, .box 3 [.d (D.int .i64 o71)])]) (finK prog f173 1 (.d (D.bool r.1)) (⟨[(3, [.d (D.int .i64 r.2)])], []⟩)) := by
  rw [impl_surrealAt_2_p3] at h
  conv => whnf
  cases h
  exact Done.of [some 0] [] rfl rfl ⟨⟨rfl, rfl⟩, ⟨rfl, ⟨rfl, rfl, trivial⟩, trivial⟩, rfl, trivial⟩
def impl_surrealAt_2_l0 (k : Nat) (rec_impl_surrealAt_2 : Rw → Int → Int → Int → Int → Option (Bool × Int)) (a1 : Rw) (a2 : Int) (a3 : Int) (a4 : Int) (K0 : Int → Option (Bool × Int)) : Rw → Nat → Int → Option (Bool × Int)
  | [], v88n, v89 => (K0 v89)
  | cs :: rest, v88n, v89 => (cell_sii cs fun x137 x138 x139 => (if (60 : Int) < (IntKind.i64.wrap (v89 + 1)) then some (false, IntKind.i64.wrap (v89 + 1)) else ((impl_IsFraction k x138 x139).bind fun y142 => (if y142 = true then (if x138 = (0 : Int) then some (false, IntKind.i64.wrap (v89 + 1)) else ((rec_impl_surrealAt_2 x137 x138 x139 (IntKind.i64.wrap (a4 + 1)) (IntKind.i64.wrap (v89 + 1))).bind fun y146 => (if y146.1 = true then (if (0 : Int) < (v88n : Int) then (row_sii a1 (IntKind.i64.wrap ((v88n : Int) - 1)) fun x150 x151 x152 => ((impl_order k x150 x137).bind fun y155 => (if y155 ≤ (0 : Int) then some (false, y146.2) else (impl_surrealAt_2_l0 k rec_impl_surrealAt_2 a1 a2 a3 a4 K0 rest (v88n + 1) y146.2)))) else (impl_surrealAt_2_l0 k rec_impl_surrealAt_2 a1 a2 a3 a4 K0 rest (v88n + 1) y146.2)) else some (false, y146.2)))) else some (false, IntKind.i64.wrap (v89 + 1))))))
set_option maxRecDepth 100000 in
theorem impl_surrealAt_2_l0_ct {k : Nat} {rec_impl_surrealAt_2 : Rw → Int → Int → Int → Int → Option (Bool × Int)} {a1 : Rw} {a2 : Int} {a3 : Int} {a4 : Int} {K0 : Int → Option (Bool × Int)} (hrec_impl_surrealAt_2 : ∀ (a1 : Rw) (a2 : Int) (a3 : Int) (a4 : Int) (a5 : Int) (r : Bool × Int), rec_impl_surrealAt_2 a1 a2 a3 a4 a5 = some r → Ct prog 173 [.dp [D.sl a1, D.int .i64 a2, D.int .i64 a3], .d (D.int .i64 a4), .ptr 0 0] (⟨[(3, [.d (D.int .i64 a5)])], []⟩) (.d (D.bool r.1)) (⟨[(3, [.d (D.int .i64 r.2)])], []⟩)) {r : Bool × Int} (hx : a1.length ≤ cap) : ∀ (rest : Rw) (v88n : Nat) (v89 : Int), a1.drop v88n = rest → impl_surrealAt_2_l0 k rec_impl_surrealAt_2 a1 a2 a3 a4 K0 rest v88n v89 = some r → LoopOk prog 1 (lp f173 0) (mk 91 [(0, .dp [D.sl a1, D.int .i64 a2, D.int .i64 a3]), (1, .d (D.int .i64 a4)), (2, .ptr 0 0), (26, .d (D.int .i64 (a1.length : Int))), (27, .d (D.int .i64 (v88n : Int)))] [(0, .box 3 [.d (D.int .i64 v89)])]) (LoopEnd prog f173 1 91 (.d (D.bool r.1)) (⟨[(3, [.d (D.int .i64 r.2)])], []⟩) (fun i ts os => (i = 0 ∧ ∃ v113 : Int, K0 v113 = some r ∧ ts = [] ∧ os = [(0, .box 3 [.d (D.int .i64 v113)])])))
  | [], v88n, v89, hd, h => by
      rw [impl_surrealAt_2_l0] at h
      have hn := drop_nil hd
      refine LoopOk.step ?_
      conv => whnf
      refine splD (fun g => absurd g hn) (fun _ => ?_)
      conv => whnf
      exact ⟨_, _, [some 0], [], ⟨rfl, _, h, rfl, rfl⟩, ⟨⟨rfl, rfl⟩, ⟨rfl, ⟨rfl, rfl, trivial⟩, trivial⟩, trivial⟩⟩
  | cs :: rest, v88n, v89, hd, h => by
      rw [impl_surrealAt_2_l0] at h
      obtain ⟨hrow, hd1, hlt⟩ := drop_cons hd
      refine LoopOk.step ?_
      conv => whnf
      refine splD (fun _ => ?_) (fun g => absurd hlt g)
      conv => whnf
      obtain ⟨x137, x138, x139, e140, h⟩ := cell_sii_ex h
      rw [e140] at hrow
      refine Req.of (Int.natCast_nonneg _) ?_
      refine Row.of _ hrow ?_
      conv => whnf
      refine splD (fun g141 => ?_) (fun g141 => ?_)
      · replace h := iteP h g141
        conv => whnf
        refine CutK.norm [0, 1, 2, 7, 8, 26, 27, 70] [0] ?_
        conv => whnf
        cases h
        exact Done.of [some 0] [] rfl rfl ⟨⟨rfl, rfl⟩, ⟨rfl, ⟨rfl, rfl, trivial⟩, trivial⟩, rfl, trivial⟩
      · replace h := iteN h g141
        conv => whnf
        refine Pick.no ?_
        conv => whnf
        obtain ⟨y142, e143, h⟩ := bind_ex h
        refine CallOk.of (impl_IsFraction_ct e143) ?_
        conv => whnf
        refine spl (fun g144 => ?_) (fun g144 => ?_)
        · replace h := iteT h g144
          conv => whnf
          refine splD (fun g145 => ?_) (fun g145 => ?_)
          · replace h := iteP h g145
            conv => whnf
            refine CutK.norm [0, 1, 2, 7, 8, 26, 27, 70] [0] ?_
            conv => whnf
            cases h
            exact Done.of [some 0] [] rfl rfl ⟨⟨rfl, rfl⟩, ⟨rfl, ⟨rfl, rfl, trivial⟩, trivial⟩, rfl, trivial⟩
          · replace h := iteN h g145
            conv => whnf
            refine Pick.no ?_
            conv => whnf
            obtain ⟨y146, e147, h⟩ := bind_ex h
            refine CallOk.of (hrec_impl_surrealAt_2 _ _ _ _ _ _ e147) ?_
            conv => whnf
            refine spl (fun g148 => ?_) (fun g148 => ?_)
            · replace h := iteT h g148
              conv => whnf
              refine CutK.norm [0, 1, 2, 7, 8, 26, 27, 70] [0] ?_
              conv => whnf
              refine CutK.norm [0, 1, 2, 7, 8, 26, 27] [0] ?_
              conv => whnf
              refine splD (fun g149 => ?_) (fun g149 => ?_)
              · replace h := iteP h g149
                conv => whnf
                obtain ⟨g154, x150, x151, x152, e153, h⟩ := row_sii_ex h
                refine Req.of g154 ?_
                refine Row.of _ e153 ?_
                conv => whnf
                refine Pick.no ?_
                conv => whnf
                obtain ⟨y155, e156, h⟩ := bind_ex h
                refine CallOk.of (impl_order_ct e156) ?_
                conv => whnf
                refine splD (fun g157 => ?_) (fun g157 => ?_)
                · replace h := iteP h g157
                  conv => whnf
                  refine CutK.norm [0, 1, 2, 26, 27, 89] [0] ?_
                  conv => whnf
                  cases h
                  exact Done.of [some 0] [] rfl rfl ⟨⟨rfl, rfl⟩, ⟨rfl, ⟨rfl, rfl, trivial⟩, trivial⟩, rfl, trivial⟩
                · replace h := iteN h g157
                  conv => whnf
                  refine CutK.norm [0, 1, 2, 26, 27, 89] [0] ?_
                  conv => whnf
                  refine CutK.norm [0, 1, 2, 26, 27] [0] ?_
                  conv => whnf
                  exact LoopOk.back (impl_surrealAt_2_l0_ct hrec_impl_surrealAt_2 hx rest (v88n + 1) _ hd1 h) [some 0] [] ⟨⟨rfl, rfl⟩, ⟨rfl, ⟨rfl, rfl, trivial⟩, trivial⟩, rfl, rfl, ⟨rfl, rfl⟩, rfl, i64eq (wrap_up hlt hx), trivial⟩
              · replace h := iteN h g149
                conv => whnf
                refine CutK.norm [0, 1, 2, 26, 27, 89] [0] ?_
                conv => whnf
                refine CutK.norm [0, 1, 2, 26, 27] [0] ?_
                conv => whnf
                exact LoopOk.back (impl_surrealAt_2_l0_ct hrec_impl_surrealAt_2 hx rest (v88n + 1) _ hd1 h) [some 0] [] ⟨⟨rfl, rfl⟩, ⟨rfl, ⟨rfl, rfl, trivial⟩, trivial⟩, rfl, rfl, ⟨rfl, rfl⟩, rfl, i64eq (wrap_up hlt hx), trivial⟩
            · replace h := iteF h g148
              conv => whnf
              refine CutK.norm [0, 1, 2, 7, 8, 26, 27, 70] [0] ?_
              conv => whnf
              cases h
              exact Done.of [some 0] [] rfl rfl ⟨⟨rfl, rfl⟩, ⟨rfl, ⟨rfl, rfl, trivial⟩, trivial⟩, rfl, trivial⟩
        · replace h := iteF h g144
          conv => whnf
          refine CutK.norm [0, 1, 2, 7, 8, 26, 27, 70] [0] ?_
          conv => whnf
          cases h
          exact Done.of [some 0] [] rfl rfl ⟨⟨rfl, rfl⟩, ⟨rfl, ⟨rfl, rfl, trivial⟩, trivial⟩, rfl, trivial⟩
def impl_surrealAt_2_b (k : Nat) (rec_impl_surrealAt_2 : Rw → Int → Int → Int → Int → Option (Bool × Int)) (a1 : Rw) (a2 : Int) (a3 : Int) (a4 : Int) (a5 : Int) : Option (Bool × Int) :=
  (if (60 : Int) < (IntKind.i64.wrap (a5 + 1)) then some (false, IntKind.i64.wrap (a5 + 1)) else (if (6 : Int) < a4 then some (false, IntKind.i64.wrap (a5 + 1)) else (if a1.length ≤ cap then (impl_surrealAt_2_l0 k rec_impl_surrealAt_2 a1 a2 a3 a4 (fun (v113 : Int) => (impl_surrealAt_2_p3 v113)) a1 0 (IntKind.i64.wrap (a5 + 1))) else none)))
set_option maxHeartbeats 4000000 in
set_option maxRecDepth 100000 in
theorem impl_surrealAt_2_b_ct {k : Nat} {rec_impl_surrealAt_2 : Rw → Int → Int → Int → Int → Option (Bool × Int)} (hrec_impl_surrealAt_2 : ∀ (a1 : Rw) (a2 : Int) (a3 : Int) (a4 : Int) (a5 : Int) (r : Bool × Int), rec_impl_surrealAt_2 a1 a2 a3 a4 a5 = some r → Ct prog 173 [.dp [D.sl a1, D.int .i64 a2, D.int .i64 a3], .d (D.int .i64 a4), .ptr 0 0] (⟨[(3, [.d (D.int .i64 a5)])], []⟩) (.d (D.bool r.1)) (⟨[(3, [.d (D.int .i64 r.2)])], []⟩)) {a1 : Rw} {a2 : Int} {a3 : Int} {a4 : Int} {a5 : Int} {r : Bool × Int} (h : impl_surrealAt_2_b k rec_impl_surrealAt_2 a1 a2 a3 a4 a5 = some r) : Ct prog 173 [.dp [D.sl a1, D.int .i64 a2, D.int .i64 a3], .d (D.int .i64 a4), .ptr 0 0] (⟨[(3, [.d (D.int .i64 a5)])], []⟩) (.d (D.bool r.1)) (⟨[(3, [.d (D.int .i64 r.2)])], []⟩) := by
  rw [impl_surrealAt_2_b] at h
  refine Ct.of (c := _) mixed func173 ⟨rfl, rfl, rfl⟩ ?_ rfl
  conv => whnf
  refine splD (fun g72 => ?_) (fun g72 => ?_)
  · replace h := iteP h g72
    conv => whnf
    cases h
    exact Done.of [some 0] [] rfl rfl ⟨⟨rfl, rfl⟩, ⟨rfl, ⟨rfl, rfl, trivial⟩, trivial⟩, rfl, trivial⟩
  · replace h := iteN h g72
    conv => whnf
    refine splD (fun g73 => ?_) (fun g73 => ?_)
    · replace h := iteP h g73
      conv => whnf
      cases h
      exact Done.of [some 0] [] rfl rfl ⟨⟨rfl, rfl⟩, ⟨rfl, ⟨rfl, rfl, trivial⟩, trivial⟩, rfl, trivial⟩
    · replace h := iteN h g73
      conv => whnf
      obtain ⟨g158, h⟩ := req_ex h
      refine LoopOk.into (impl_surrealAt_2_l0_ct hrec_impl_surrealAt_2 g158 _ _ _ rfl h) [some 0] [] ⟨⟨rfl, rfl⟩, ⟨rfl, ⟨rfl, rfl, trivial⟩, trivial⟩, rfl, rfl, ⟨rfl, rfl⟩, rfl, rfl, trivial⟩ ?_ (fun _ hs => hs)
      rintro i ts os ⟨rfl, v113, h, rfl, rfl⟩
      conv => whnf
      exact CutK.piece (impl_surrealAt_2_p3_ct  h) [some 0] [] ⟨⟨rfl, rfl⟩, ⟨rfl, ⟨rfl, rfl, trivial⟩, trivial⟩, trivial⟩
def impl_surrealAt_2 : Nat → Rw → Int → Int → Int → Int → Option (Bool × Int)
  | 0, _, _, _, _, _ => none
  | k + 1, a1, a2, a3, a4, a5 => impl_surrealAt_2_b k (impl_surrealAt_2 k) a1 a2 a3 a4 a5
theorem impl_surrealAt_2_ct' : ∀ (k : Nat) (a1 : Rw) (a2 : Int) (a3 : Int) (a4 : Int) (a5 : Int) (r : Bool × Int), impl_surrealAt_2 k a1 a2 a3 a4 a5 = some r → Ct prog 173 [.dp [D.sl a1, D.int .i64 a2, D.int .i64 a3], .d (D.int .i64 a4), .ptr 0 0] (⟨[(3, [.d (D.int .i64 a5)])], []⟩) (.d (D.bool r.1)) (⟨[(3, [.d (D.int .i64 r.2)])], []⟩)
  | 0, _, _, _, _, _, _, h => by rw [impl_surrealAt_2] at h; cases h
  | k + 1, _, _, _, _, _, _, h => by rw [impl_surrealAt_2] at h; exact impl_surrealAt_2_b_ct (impl_surrealAt_2_ct' k) h
theorem impl_surrealAt_2_ct {k : Nat} {a1 : Rw} {a2 : Int} {a3 : Int} {a4 : Int} {a5 : Int} {r : Bool × Int} (h : impl_surrealAt_2 k a1 a2 a3 a4 a5 = some r) : Ct prog 173 [.dp [D.sl a1, D.int .i64 a2, D.int .i64 a3], .d (D.int .i64 a4), .ptr 0 0] (⟨[(3, [.d (D.int .i64 a5)])], []⟩) (.d (D.bool r.1)) (⟨[(3, [.d (D.int .i64 r.2)])], []⟩) := impl_surrealAt_2_ct' k _ _ _ _ _ _ h

def impl_surrealAt_p3 (a1 : Rw) (o69 : Int) : Option (Bool × Rw × Int) :=
  some (true, a1, o69)
set_option maxHeartbeats 4000000 in
set_option maxRecDepth 100000 in
theorem impl_surrealAt_p3_ct {a1 : Rw} {o69 : Int} {r : Bool × Rw × Int} (h : impl_surrealAt_p3 a1 o69 = some r) : X prog 2 (tlF f173 3) (mk 91 [] [(0, .box 46 [.d (D.sl a1)]), (64, .box 3 [.d (D.int .i64 o69)])]) (finK prog f173 2 (.d (D.bool r.1)) (⟨[(46, [.d (D.sl r.2.1)]), (3, [.d (D.int .i64 r.2.2)])], []⟩)) := by
  rw [impl_surrealAt_p3] at h
  conv => whnf
  cases h
  exact Done.of [some 0, some 64] [] rfl rfl ⟨⟨rfl, rfl⟩, ⟨rfl, ⟨rfl, rfl, trivial⟩, ⟨rfl, rfl, trivial⟩, trivial⟩, rfl, trivial⟩
def impl_surrealAt_l0 (k : Nat) (a1 : Rw) (a2 : Int) (K0 : Int → Option (Bool × Rw × Int)) : Rw → Nat → Int → Option (Bool × Rw × Int)
  | [], v86n, v87 => (K0 v87)
  | cs :: rest, v86n, v87 => (cell_sii cs fun x135 x136 x137 => (if (60 : Int) < (IntKind.i64.wrap (v87 + 1)) then some (false, a1, IntKind.i64.wrap (v87 + 1)) else ((impl_IsFraction k x136 x137).bind fun y140 => (if y140 = true then (if x136 = (0 : Int) then some (false, a1, IntKind.i64.wrap (v87 + 1)) else ((impl_surrealAt_2 k x135 x136 x137 (IntKind.i64.wrap (a2 + 1)) (IntKind.i64.wrap (v87 + 1))).bind fun y144 => (if y144.1 = true then (if (0 : Int) < (v86n : Int) then (row_sii a1 (IntKind.i64.wrap ((v86n : Int) - 1)) fun x148 x149 x150 => ((impl_order k x148 x135).bind fun y153 => (if y153 ≤ (0 : Int) then some (false, a1, y144.2) else (impl_surrealAt_l0 k a1 a2 K0 rest (v86n + 1) y144.2)))) else (impl_surrealAt_l0 k a1 a2 K0 rest (v86n + 1) y144.2)) else some (false, a1, y144.2)))) else some (false, a1, IntKind.i64.wrap (v87 + 1))))))
set_option maxRecDepth 100000 in
theorem impl_surrealAt_l0_ct {k : Nat} {a1 : Rw} {a2 : Int} {K0 : Int → Option (Bool × Rw × Int)} {r : Bool × Rw × Int} (hx : a1.length ≤ cap) : ∀ (rest : Rw) (v86n : Nat) (v87 : Int), a1.drop v86n = rest → impl_surrealAt_l0 k a1 a2 K0 rest v86n v87 = some r → LoopOk prog 2 (lp f173 0) (mk 91 [(0, .ptr 0 0), (1, .d (D.int .i64 a2)), (2, .ptr 64 0), (26, .d (D.int .i64 (a1.length : Int))), (27, .d (D.int .i64 (v86n : Int)))] [(0, .box 46 [.d (D.sl a1)]), (64, .box 3 [.d (D.int .i64 v87)])]) (LoopEnd prog f173 2 91 (.d (D.bool r.1)) (⟨[(46, [.d (D.sl r.2.1)]), (3, [.d (D.int .i64 r.2.2)])], []⟩) (fun i ts os => (i = 0 ∧ ∃ v111 : Int, K0 v111 = some r ∧ ts = [] ∧ os = [(0, .box 46 [.d (D.sl a1)]), (64, .box 3 [.d (D.int .i64 v111)])])))
  | [], v86n, v87, hd, h => by
      rw [impl_surrealAt_l0] at h
      have hn := drop_nil hd
      refine LoopOk.step ?_
      conv => whnf
      refine splD (fun g => absurd g hn) (fun _ => ?_)
      conv => whnf
      exact ⟨_, _, [some 0, some 64], [], ⟨rfl, _, h, rfl, rfl⟩, ⟨⟨rfl, rfl⟩, ⟨rfl, ⟨rfl, rfl, trivial⟩, ⟨rfl, rfl, trivial⟩, trivial⟩, trivial⟩⟩
  | cs :: rest, v86n, v87, hd, h => by
      rw [impl_surrealAt_l0] at h
      obtain ⟨hrow, hd1, hlt⟩ := drop_cons hd
      refine LoopOk.step ?_
      conv => whnf
      refine splD (fun _ => ?_) (fun g => absurd hlt g)
      conv => whnf
      obtain ⟨x135, x136, x137, e138, h⟩ := cell_sii_ex h
      rw [e138] at hrow
      refine Req.of (Int.natCast_nonneg _) ?_
      refine Row.of _ hrow ?_
      conv => whnf
      refine splD (fun g139 => ?_) (fun g139 => ?_)
      · replace h := iteP h g139
        conv => whnf
        refine CutK.norm [0, 1, 2, 7, 8, 26, 27, 70] [0, 64] ?_
        conv => whnf
        cases h
        exact Done.of [some 0, some 64] [] rfl rfl ⟨⟨rfl, rfl⟩, ⟨rfl, ⟨rfl, rfl, trivial⟩, ⟨rfl, rfl, trivial⟩, trivial⟩, rfl, trivial⟩
      · replace h := iteN h g139
        conv => whnf
        refine Pick.no ?_
        conv => whnf
        obtain ⟨y140, e141, h⟩ := bind_ex h
        refine CallOk.of (impl_IsFraction_ct e141) ?_
        conv => whnf
        refine spl (fun g142 => ?_) (fun g142 => ?_)
        · replace h := iteT h g142
          conv => whnf
          refine splD (fun g143 => ?_) (fun g143 => ?_)
          · replace h := iteP h g143
            conv => whnf
            refine CutK.norm [0, 1, 2, 7, 8, 26, 27, 70] [0, 64] ?_
            conv => whnf
            cases h
            exact Done.of [some 0, some 64] [] rfl rfl ⟨⟨rfl, rfl⟩, ⟨rfl, ⟨rfl, rfl, trivial⟩, ⟨rfl, rfl, trivial⟩, trivial⟩, rfl, trivial⟩
          · replace h := iteN h g143
            conv => whnf
            refine Pick.no ?_
            conv => whnf
            obtain ⟨y144, e145, h⟩ := bind_ex h
            refine CallOk.of (impl_surrealAt_2_ct e145) ?_
            conv => whnf
            refine spl (fun g146 => ?_) (fun g146 => ?_)
            · replace h := iteT h g146
              conv => whnf
              refine CutK.norm [0, 1, 2, 7, 8, 26, 27, 70] [0, 64] ?_
              conv => whnf
              refine CutK.norm [0, 1, 2, 7, 8, 26, 27] [0, 64] ?_
              conv => whnf
              refine splD (fun g147 => ?_) (fun g147 => ?_)
              · replace h := iteP h g147
                conv => whnf
                obtain ⟨g152, x148, x149, x150, e151, h⟩ := row_sii_ex h
                refine Req.of g152 ?_
                refine Row.of _ e151 ?_
                conv => whnf
                refine Pick.no ?_
                conv => whnf
                obtain ⟨y153, e154, h⟩ := bind_ex h
                refine CallOk.of (impl_order_ct e154) ?_
                conv => whnf
                refine splD (fun g155 => ?_) (fun g155 => ?_)
                · replace h := iteP h g155
                  conv => whnf
                  refine CutK.norm [0, 1, 2, 26, 27, 89] [0, 64] ?_
                  conv => whnf
                  cases h
                  exact Done.of [some 0, some 64] [] rfl rfl ⟨⟨rfl, rfl⟩, ⟨rfl, ⟨rfl, rfl, trivial⟩, ⟨rfl, rfl, trivial⟩, trivial⟩, rfl, trivial⟩
                · replace h := iteN h g155
                  conv => whnf
                  refine CutK.norm [0, 1, 2, 26, 27, 89] [0, 64] ?_
                  conv => whnf
                  refine CutK.norm [0, 1, 2, 26, 27] [0, 64] ?_
                  conv => whnf
                  exact LoopOk.back (impl_surrealAt_l0_ct hx rest (v86n + 1) _ hd1 h) [some 0, some 64] [] ⟨⟨rfl, rfl⟩, ⟨rfl, ⟨rfl, rfl, trivial⟩, ⟨rfl, rfl, trivial⟩, trivial⟩, ⟨rfl, rfl⟩, rfl, ⟨rfl, rfl⟩, rfl, i64eq (wrap_up hlt hx), trivial⟩
              · replace h := iteN h g147
                conv => whnf
                refine CutK.norm [0, 1, 2, 26, 27, 89] [0, 64] ?_
                conv => whnf
                refine CutK.norm [0, 1, 2, 26, 27] [0, 64] ?_
                conv => whnf
                exact LoopOk.back (impl_surrealAt_l0_ct hx rest (v86n + 1) _ hd1 h) [some 0, some 64] [] ⟨⟨rfl, rfl⟩, ⟨rfl, ⟨rfl, rfl, trivial⟩, ⟨rfl, rfl, trivial⟩, trivial⟩, ⟨rfl, rfl⟩, rfl, ⟨rfl, rfl⟩, rfl, i64eq (wrap_up hlt hx), trivial⟩
            · replace h := iteF h g146
              conv => whnf
              refine CutK.norm [0, 1, 2, 7, 8, 26, 27, 70] [0, 64] ?_
              conv => whnf
              cases h
              exact Done.of [some 0, some 64] [] rfl rfl ⟨⟨rfl, rfl⟩, ⟨rfl, ⟨rfl, rfl, trivial⟩, ⟨rfl, rfl, trivial⟩, trivial⟩, rfl, trivial⟩
        · replace h := iteF h g142
          conv => whnf
          refine CutK.norm [0, 1, 2, 7, 8, 26, 27, 70] [0, 64] ?_
          conv => whnf
          cases h
          exact Done.of [some 0, some 64] [] rfl rfl ⟨⟨rfl, rfl⟩, ⟨rfl, ⟨rfl, rfl, trivial⟩, ⟨rfl, rfl, trivial⟩, trivial⟩, rfl, trivial⟩
def impl_surrealAt (k : Nat) (a1 : Rw) (a2 : Int) (a3 : Int) : Option (Bool × Rw × Int) :=
  (if (60 : Int) < (IntKind.i64.wrap (a3 + 1)) then some (false, a1, IntKind.i64.wrap (a3 + 1)) else (if (6 : Int) < a2 then some (false, a1, IntKind.i64.wrap (a3 + 1)) else (if a1.length ≤ cap then (impl_surrealAt_l0 k a1 a2 (fun (v111 : Int) => (impl_surrealAt_p3 a1 v111)) a1 0 (IntKind.i64.wrap (a3 + 1))) else none)))
set_option maxHeartbeats 4000000 in
set_option maxRecDepth 100000 in
theorem impl_surrealAt_ct {k : Nat} {a1 : Rw} {a2 : Int} {a3 : Int} {r : Bool × Rw × Int} (h : impl_surrealAt k a1 a2 a3 = some r) : Ct prog 173 [.ptr 0 0, .d (D.int .i64 a2), .ptr 64 0] (⟨[(46, [.d (D.sl a1)]), (3, [.d (D.int .i64 a3)])], []⟩) (.d (D.bool r.1)) (⟨[(46, [.d (D.sl r.2.1)]), (3, [.d (D.int .i64 r.2.2)])], []⟩) := by
  rw [impl_surrealAt] at h
  refine Ct.of (c := _) mixed func173 ⟨rfl, rfl, rfl⟩ ?_ rfl
  conv => whnf
  refine splD (fun g70 => ?_) (fun g70 => ?_)
  · replace h := iteP h g70
    conv => whnf
    cases h
    exact Done.of [some 0, some 64] [] rfl rfl ⟨⟨rfl, rfl⟩, ⟨rfl, ⟨rfl, rfl, trivial⟩, ⟨rfl, rfl, trivial⟩, trivial⟩, rfl, trivial⟩
  · replace h := iteN h g70
    conv => whnf
    refine splD (fun g71 => ?_) (fun g71 => ?_)
    · replace h := iteP h g71
      conv => whnf
      cases h
      exact Done.of [some 0, some 64] [] rfl rfl ⟨⟨rfl, rfl⟩, ⟨rfl, ⟨rfl, rfl, trivial⟩, ⟨rfl, rfl, trivial⟩, trivial⟩, rfl, trivial⟩
    · replace h := iteN h g71
      conv => whnf
      obtain ⟨g156, h⟩ := req_ex h
      refine LoopOk.into (impl_surrealAt_l0_ct  g156 _ _ _ rfl h) [some 0, some 64] [] ⟨⟨rfl, rfl⟩, ⟨rfl, ⟨rfl, rfl, trivial⟩, ⟨rfl, rfl, trivial⟩, trivial⟩, ⟨rfl, rfl⟩, rfl, ⟨rfl, rfl⟩, rfl, rfl, trivial⟩ ?_ (fun _ hs => hs)
      rintro i ts os ⟨rfl, v111, h, rfl, rfl⟩
      conv => whnf
      exact CutK.piece (impl_surrealAt_p3_ct  h) [some 0, some 64] [] ⟨⟨rfl, rfl⟩, ⟨rfl, ⟨rfl, rfl, trivial⟩, ⟨rfl, rfl, trivial⟩, trivial⟩, trivial⟩

def impl_IsSurreal (k : Nat) (a1 : Rw) : Option Bool :=
  ((impl_surrealAt k a1 0 0).bind fun y2 => (if y2.1 = true then some true else some false))
set_option maxHeartbeats 4000000 in
set_option maxRecDepth 100000 in
theorem impl_IsSurreal_ct {k : Nat} {a1 : Rw} {r : Bool} (h : impl_IsSurreal k a1 = some r) : Ct prog 99 [.agg [.d (D.sl a1)]] (⟨[], []⟩) (.d (D.bool r)) (⟨[], []⟩) := by
  rw [impl_IsSurreal] at h
  refine Ct.of (c := _) mixed func99 ⟨rfl, rfl, rfl⟩ ?_ rfl
  conv => whnf
  refine Pick.no ?_
  conv => whnf
  obtain ⟨y2, e3, h⟩ := bind_ex h
  refine CallOk.of (impl_surrealAt_ct e3) ?_
  conv => whnf
  refine spl (fun g4 => ?_) (fun g4 => ?_)
  · replace h := iteT h g4
    conv => whnf
    refine CutK.go ?_
    conv => whnf
    cases h
    exact Done.of [] [] rfl rfl ⟨⟨rfl, rfl⟩, ⟨rfl, trivial⟩, rfl, trivial⟩
  · replace h := iteF h g4
    conv => whnf
    refine CutK.go ?_
    conv => whnf
    cases h
    exact Done.of [] [] rfl rfl ⟨⟨rfl, rfl⟩, ⟨rfl, trivial⟩, rfl, trivial⟩

def impl_surreals (k : Nat) (a1 : Rw) (a2 : Rw) : Option Bool :=
  ((impl_IsSurreal k a1).bind fun y3 => (if y3 = true then ((impl_IsSurreal k a2).bind fun y6 => (if y6 = true then some true else some false)) else some false))
set_option maxHeartbeats 4000000 in
set_option maxRecDepth 100000 in
theorem impl_surreals_ct {k : Nat} {a1 : Rw} {a2 : Rw} {r : Bool} (h : impl_surreals k a1 a2 = some r) : Ct prog 102 [.agg [.d (D.sl a1)], .agg [.d (D.sl a2)]] (⟨[], []⟩) (.d (D.bool r)) (⟨[], []⟩) := by
  rw [impl_surreals] at h
  refine Ct.of (c := _) mixed func102 ⟨rfl, rfl, rfl⟩ ?_ rfl
  conv => whnf
  refine Pick.no ?_
  conv => whnf
  obtain ⟨y3, e4, h⟩ := bind_ex h
  refine CallOk.of (impl_IsSurreal_ct e4) ?_
  conv => whnf
  refine spl (fun g5 => ?_) (fun g5 => ?_)
  · replace h := iteT h g5
    conv => whnf
    refine Pick.no ?_
    conv => whnf
    obtain ⟨y6, e7, h⟩ := bind_ex h
    refine CallOk.of (impl_IsSurreal_ct e7) ?_
    conv => whnf
    refine spl (fun g8 => ?_) (fun g8 => ?_)
    · replace h := iteT h g8
      conv => whnf
      refine CutK.go ?_
      conv => whnf
      cases h
      exact Done.of [] [] rfl rfl ⟨⟨rfl, rfl⟩, ⟨rfl, trivial⟩, rfl, trivial⟩
    · replace h := iteF h g8
      conv => whnf
      refine CutK.go ?_
      conv => whnf
      cases h
      exact Done.of [] [] rfl rfl ⟨⟨rfl, rfl⟩, ⟨rfl, trivial⟩, rfl, trivial⟩
  · replace h := iteF h g5
    conv => whnf
    refine CutK.go ?_
    conv => whnf
    cases h
    exact Done.of [] [] rfl rfl ⟨⟨rfl, rfl⟩, ⟨rfl, trivial⟩, rfl, trivial⟩

def impl_CompareSurreals (k : Nat) (a1 : Rw) (a2 : Rw) : Option (Int × Bool) :=
  ((impl_surreals k a1 a2).bind fun y3 => (if y3 = true then ((impl_order k a1 a2).bind fun y6 => some (y6, true)) else some (0, false)))
set_option maxHeartbeats 4000000 in
set_option maxRecDepth 100000 in
theorem impl_CompareSurreals_ct {k : Nat} {a1 : Rw} {a2 : Rw} {r : Int × Bool} (h : impl_CompareSurreals k a1 a2 = some r) : Ct prog 34 [.agg [.d (D.sl a1)], .agg [.d (D.sl a2)]] (⟨[], []⟩) (.tup [.d (D.int .i64 r.1), .d (D.bool r.2)]) (⟨[], []⟩) := by
  rw [impl_CompareSurreals] at h
  refine Ct.of (c := _) mixed func34 ⟨rfl, rfl, rfl⟩ ?_ rfl
  conv => whnf
  refine Pick.no ?_
  conv => whnf
  obtain ⟨y3, e4, h⟩ := bind_ex h
  refine CallOk.of (impl_surreals_ct e4) ?_
  conv => whnf
  refine spl (fun g5 => ?_) (fun g5 => ?_)
  · replace h := iteT h g5
    conv => whnf
    refine CutK.go ?_
    conv => whnf
    refine CutK.go ?_
    conv => whnf
    refine Pick.no ?_
    conv => whnf
    obtain ⟨y6, e7, h⟩ := bind_ex h
    refine CallOk.of (impl_order_ct e7) ?_
    conv => whnf
    refine CutK.go ?_
    conv => whnf
    cases h
    exact Done.of [] [] rfl rfl ⟨⟨rfl, rfl⟩, ⟨rfl, trivial⟩, ⟨rfl, rfl, trivial⟩, trivial⟩
  · replace h := iteF h g5
    conv => whnf
    refine CutK.go ?_
    conv => whnf
    cases h
    exact Done.of [] [] rfl rfl ⟨⟨rfl, rfl⟩, ⟨rfl, trivial⟩, ⟨rfl, rfl, trivial⟩, trivial⟩

def spec_l1Cur_next  (a1 : Rw) (a2 : Int) (a3 : Int) : Option (Int × Rw × Int × Int) :=
  (if a2 < (a1.length : Int) then (row_iu8 a1 a2 fun x5 => (if (IntKind.i64.wrap (a2 + 1)) ≤ (a1.length : Int) then some (IntKind.i64.wrap x5, a1, IntKind.i64.wrap (a2 + 1), IntKind.u64.wrap ((IntKind.u64.wrap ((IntKind.u64.wrap (a3 * 6364136223846793005)) + (IntKind.u64.wrap (IntKind.i64.wrap x5)))) + 1442695040888963407)) else some (IntKind.i64.wrap (IntKind.u64.wrap (BitVec.ofInt (IntKind.u64).bits ((IntKind.u64.wrap ((IntKind.u64.wrap ((IntKind.u64.wrap (a3 * 6364136223846793005)) + (IntKind.u64.wrap (IntKind.i64.wrap x5)))) + 1442695040888963407)).fdiv (2 ^ (min (40 : Int).toNat (IntKind.u64).bits))) &&& BitVec.ofInt (IntKind.u64).bits 255).toNat), a1, IntKind.i64.wrap (a2 + 1), IntKind.u64.wrap ((IntKind.u64.wrap ((IntKind.u64.wrap (a3 * 6364136223846793005)) + (IntKind.u64.wrap (IntKind.i64.wrap x5)))) + 1442695040888963407)))) else (if (IntKind.i64.wrap (a2 + 1)) ≤ (a1.length : Int) then some (0, a1, IntKind.i64.wrap (a2 + 1), IntKind.u64.wrap ((IntKind.u64.wrap ((IntKind.u64.wrap (a3 * 6364136223846793005)) + (IntKind.u64.wrap 0))) + 1442695040888963407)) else some (IntKind.i64.wrap (IntKind.u64.wrap (BitVec.ofInt (IntKind.u64).bits ((IntKind.u64.wrap ((IntKind.u64.wrap ((IntKind.u64.wrap (a3 * 6364136223846793005)) + (IntKind.u64.wrap 0))) + 1442695040888963407)).fdiv (2 ^ (min (40 : Int).toNat (IntKind.u64).bits))) &&& BitVec.ofInt (IntKind.u64).bits 255).toNat), a1, IntKind.i64.wrap (a2 + 1), IntKind.u64.wrap ((IntKind.u64.wrap ((IntKind.u64.wrap (a3 * 6364136223846793005)) + (IntKind.u64.wrap 0))) + 1442695040888963407))))
set_option maxHeartbeats 4000000 in
set_option maxRecDepth 100000 in
theorem spec_l1Cur_next_ct  {a1 : Rw} {a2 : Int} {a3 : Int} {r : Int × Rw × Int × Int} (h : spec_l1Cur_next a1 a2 a3 = some r) : Ct prog 147 [.ptr 0 0] (⟨[(91, [.d (D.sl a1), .d (D.int .i64 a2), .d (D.int .u64 a3)])], []⟩) (.d (D.int .i64 r.1)) (⟨[(91, [.d (D.sl r.2.1), .d (D.int .i64 r.2.2.1), .d (D.int .u64 r.2.2.2)])], []⟩) := by
  rw [spec_l1Cur_next] at h
  refine Ct.of (c := _) mixed func147 ⟨rfl, rfl, rfl⟩ ?_ rfl
  conv => whnf
  refine splD (fun g4 => ?_) (fun g4 => ?_)
  · replace h := iteP h g4
    conv => whnf
    obtain ⟨g7, x5, e6, h⟩ := row_iu8_ex h
    refine Req.of g7 ?_
    refine Row.of _ e6 ?_
    conv => whnf
    refine splD (fun g8 => ?_) (fun g8 => ?_)
    · replace h := iteP h g8
      conv => whnf
      cases h
      exact Done.of [some 0] [] rfl rfl ⟨⟨rfl, rfl⟩, ⟨rfl, ⟨rfl, rfl, rfl, rfl, trivial⟩, trivial⟩, rfl, trivial⟩
    · replace h := iteN h g8
      conv => whnf
      cases h
      exact Done.of [some 0] [] rfl rfl ⟨⟨rfl, rfl⟩, ⟨rfl, ⟨rfl, rfl, rfl, rfl, trivial⟩, trivial⟩, rfl, trivial⟩
  · replace h := iteN h g4
    conv => whnf
    refine splD (fun g9 => ?_) (fun g9 => ?_)
    · replace h := iteP h g9
      conv => whnf
      cases h
      exact Done.of [some 0] [] rfl rfl ⟨⟨rfl, rfl⟩, ⟨rfl, ⟨rfl, rfl, rfl, rfl, trivial⟩, trivial⟩, rfl, trivial⟩
    · replace h := iteN h g9
      conv => whnf
      cases h
      exact Done.of [some 0] [] rfl rfl ⟨⟨rfl, rfl⟩, ⟨rfl, ⟨rfl, rfl, rfl, rfl, trivial⟩, trivial⟩, rfl, trivial⟩

def spec_l1Cur_pick  (a1 : Rw) (a2 : Int) (a3 : Int) (a4 : Int) : Option (Int × Rw × Int × Int) :=
  (if a4 ≤ (1 : Int) then some (0, a1, a2, a3) else ((spec_l1Cur_next a1 a2 a3).bind fun y6 => (if (200 : Int) < a4 then ((spec_l1Cur_next y6.2.1 y6.2.2.1 y6.2.2.2).bind fun y9 => (if a4 ≠ 0 then some ((IntKind.i64.wrap ((IntKind.i64.wrap (y6.1 * 256)) + y9.1)).tmod a4, y9.2.1, y9.2.2.1, y9.2.2.2) else none)) else (if a4 ≠ 0 then some (y6.1.tmod a4, y6.2.1, y6.2.2.1, y6.2.2.2) else none))))
set_option maxHeartbeats 4000000 in
set_option maxRecDepth 100000 in
theorem spec_l1Cur_pick_ct  {a1 : Rw} {a2 : Int} {a3 : Int} {a4 : Int} {r : Int × Rw × Int × Int} (h : spec_l1Cur_pick a1 a2 a3 a4 = some r) : Ct prog 65 [.ptr 0 0, .d (D.int .i64 a4)] (⟨[(91, [.d (D.sl a1), .d (D.int .i64 a2), .d (D.int .u64 a3)])], []⟩) (.d (D.int .i64 r.1)) (⟨[(91, [.d (D.sl r.2.1), .d (D.int .i64 r.2.2.1), .d (D.int .u64 r.2.2.2)])], []⟩) := by
  rw [spec_l1Cur_pick] at h
  refine Ct.of (c := _) mixed func65 ⟨rfl, rfl, rfl⟩ ?_ rfl
  conv => whnf
  refine splD (fun g5 => ?_) (fun g5 => ?_)
  · replace h := iteP h g5
    conv => whnf
    cases h
    exact Done.of [some 0] [] rfl rfl ⟨⟨rfl, rfl⟩, ⟨rfl, ⟨rfl, rfl, rfl, rfl, trivial⟩, trivial⟩, rfl, trivial⟩
  · replace h := iteN h g5
    conv => whnf
    refine Pick.no ?_
    conv => whnf
    obtain ⟨y6, e7, h⟩ := bind_ex h
    refine CallOk.of (spec_l1Cur_next_ct e7) ?_
    conv => whnf
    refine CutK.go ?_
    conv => whnf
    refine splD (fun g8 => ?_) (fun g8 => ?_)
    · replace h := iteP h g8
      conv => whnf
      refine Pick.no ?_
      conv => whnf
      obtain ⟨y9, e10, h⟩ := bind_ex h
      refine CallOk.of (spec_l1Cur_next_ct e10) ?_
      conv => whnf
      refine CutK.go ?_
      conv => whnf
      obtain ⟨g11, h⟩ := req_ex h
      refine Req.of g11 ?_
      conv => whnf
      cases h
      exact Done.of [some 0] [] rfl rfl ⟨⟨rfl, rfl⟩, ⟨rfl, ⟨rfl, rfl, rfl, rfl, trivial⟩, trivial⟩, rfl, trivial⟩
    · replace h := iteN h g8
      conv => whnf
      refine CutK.go ?_
      conv => whnf
      obtain ⟨g12, h⟩ := req_ex h
      refine Req.of g12 ?_
      conv => whnf
      cases h
      exact Done.of [some 0] [] rfl rfl ⟨⟨rfl, rfl⟩, ⟨rfl, ⟨rfl, rfl, rfl, rfl, trivial⟩, trivial⟩, rfl, trivial⟩

def spec_shInt  (a1 : Int) : Option (Int × Int) :=
  some (a1, 1)
set_option maxHeartbeats 4000000 in
set_option maxRecDepth 100000 in
theorem spec_shInt_ct  {a1 : Int} {r : Int × Int} (h : spec_shInt a1 = some r) : Ct prog 172 [.d (D.int .i64 a1)] (⟨[], []⟩) (.agg [.d (D.int .i64 r.1), .d (D.int .i64 r.2)]) (⟨[], []⟩) := by
  rw [spec_shInt] at h
  refine Ct.of (c := _) mixed func172 ⟨rfl, rfl, rfl⟩ ?_ rfl
  conv => whnf
  cases h
  exact Done.of [] [] rfl rfl ⟨⟨rfl, rfl⟩, ⟨rfl, trivial⟩, ⟨rfl, rfl, trivial⟩, trivial⟩

def spec_suTerm  (a1 : Rw) (a2 : Int) (a3 : Int) : Option Rw :=
  (if a2 = (0 : Int) then some ([] : Rw) else some ([[D.sl a1, D.int .i64 a2, D.int .i64 a3]] : Rw))
set_option maxHeartbeats 4000000 in
set_option maxRecDepth 100000 in
theorem spec_suTerm_ct  {a1 : Rw} {a2 : Int} {a3 : Int} {r : Rw} (h : spec_suTerm a1 a2 a3 = some r) : Ct prog 191 [.agg [.d (D.sl a1)], .agg [.d (D.int .i64 a2), .d (D.int .i64 a3)]] (⟨[], []⟩) (.agg [.os 8 r.length]) (⟨[], [(120, false, r)]⟩) := by
  rw [spec_suTerm] at h
  refine Ct.of (c := _) mixed func191 ⟨rfl, rfl, rfl⟩ ?_ rfl
  conv => whnf
  refine splD (fun g4 => ?_) (fun g4 => ?_)
  · replace h := iteP h g4
    conv => whnf
    cases h
    exact Done.of [none] [] rfl rfl ⟨⟨rfl, rfl⟩, ⟨rfl, rfl, trivial⟩, ⟨⟨rfl, rfl⟩, trivial⟩, trivial⟩
  · replace h := iteN h g4
    conv => whnf
    cases h
    exact Done.of [some 768] [] rfl rfl ⟨⟨rfl, rfl⟩, ⟨rfl, ⟨rfl, rfl, rows_same⟩, trivial⟩, ⟨⟨(by first | rfl | exact List.length_append.symm | (simp; done) | omega), rfl⟩, trivial⟩, trivial⟩

def spec_suReal  (a1 : Int) (a2 : Int) : Option Rw :=
  ((spec_suTerm ([] : Rw) a1 a2).bind fun y3 => some y3)
set_option maxHeartbeats 4000000 in
set_option maxRecDepth 100000 in
theorem spec_suReal_ct  {a1 : Int} {a2 : Int} {r : Rw} (h : spec_suReal a1 a2 = some r) : Ct prog 121 [.agg [.d (D.int .i64 a1), .d (D.int .i64 a2)]] (⟨[], []⟩) (.agg [.os 8 r.length]) (⟨[], [(120, false, r)]⟩) := by
  rw [spec_suReal] at h
  refine Ct.of (c := _) mixed func121 ⟨rfl, rfl, rfl⟩ ?_ rfl
  conv => whnf
  refine Pick.no ?_
  conv => whnf
  obtain ⟨y3, e4, h⟩ := bind_ex h
  refine CallOk.of (spec_suTerm_ct e4) ?_
  conv => whnf
  refine CutK.go ?_
  conv => whnf
  cases h
  exact Done.of [some 320] [] rfl rfl ⟨⟨rfl, rfl⟩, ⟨rfl, ⟨rfl, rfl, rows_same⟩, trivial⟩, ⟨⟨rfl, rfl⟩, trivial⟩, trivial⟩

def spec_suInt  (a1 : Int) : Option Rw :=
  ((spec_shInt a1).bind fun y2 => ((spec_suReal y2.1 y2.2).bind fun y4 => some y4))
set_option maxHeartbeats 4000000 in
set_option maxRecDepth 100000 in
theorem spec_suInt_ct  {a1 : Int} {r : Rw} (h : spec_suInt a1 = some r) : Ct prog 184 [.d (D.int .i64 a1)] (⟨[], []⟩) (.agg [.os 8 r.length]) (⟨[], [(120, false, r)]⟩) := by
  rw [spec_suInt] at h
  refine Ct.of (c := _) mixed func184 ⟨rfl, rfl, rfl⟩ ?_ rfl
  conv => whnf
  refine Pick.no ?_
  conv => whnf
  obtain ⟨y2, e3, h⟩ := bind_ex h
  refine CallOk.of (spec_shInt_ct e3) ?_
  conv => whnf
  refine Pick.no ?_
  conv => whnf
  obtain ⟨y4, e5, h⟩ := bind_ex h
  refine CallOk.of (spec_suReal_ct e5) ?_
  conv => whnf
  refine CutK.go ?_
  conv => whnf
  cases h
  exact Done.of [some 320] [] rfl rfl ⟨⟨rfl, rfl⟩, ⟨rfl, ⟨rfl, rfl, rows_same⟩, trivial⟩, ⟨⟨rfl, rfl⟩, trivial⟩, trivial⟩

def spec_l1Most  (a1 : Int) (a2 : Int) : Option Int :=
  (if a2 < a1 then some a1 else some a2)
set_option maxHeartbeats 4000000 in
set_option maxRecDepth 100000 in
theorem spec_l1Most_ct  {a1 : Int} {a2 : Int} {r : Int} (h : spec_l1Most a1 a2 = some r) : Ct prog 230 [.d (D.int .i64 a1), .d (D.int .i64 a2)] (⟨[], []⟩) (.d (D.int .i64 r)) (⟨[], []⟩) := by
  rw [spec_l1Most] at h
  refine Ct.of (c := _) mixed func230 ⟨rfl, rfl, rfl⟩ ?_ rfl
  conv => whnf
  refine splD (fun g3 => ?_) (fun g3 => ?_)
  · replace h := iteP h g3
    conv => whnf
    cases h
    exact Done.of [] [] rfl rfl ⟨⟨rfl, rfl⟩, ⟨rfl, trivial⟩, rfl, trivial⟩
  · replace h := iteN h g3
    conv => whnf
    cases h
    exact Done.of [] [] rfl rfl ⟨⟨rfl, rfl⟩, ⟨rfl, trivial⟩, rfl, trivial⟩

def spec_l1Abs  (a1 : Int) : Option Int :=
  ((spec_l1Most a1 (IntKind.i64.wrap (0 - a1))).bind fun y2 => some y2)
set_option maxHeartbeats 4000000 in
set_option maxRecDepth 100000 in
theorem spec_l1Abs_ct  {a1 : Int} {r : Int} (h : spec_l1Abs a1 = some r) : Ct prog 223 [.d (D.int .i64 a1)] (⟨[], []⟩) (.d (D.int .i64 r)) (⟨[], []⟩) := by
  rw [spec_l1Abs] at h
  refine Ct.of (c := _) mixed func223 ⟨rfl, rfl, rfl⟩ ?_ rfl
  conv => whnf
  refine Pick.no ?_
  conv => whnf
  obtain ⟨y2, e3, h⟩ := bind_ex h
  refine CallOk.of (spec_l1Most_ct e3) ?_
  conv => whnf
  refine CutK.go ?_
  conv => whnf
  cases h
  exact Done.of [] [] rfl rfl ⟨⟨rfl, rfl⟩, ⟨rfl, trivial⟩, rfl, trivial⟩

def spec_shGcd_l0 (K0 : Int → Option Int) : Nat → Int → Int → Option Int
  | 0, _, _ => none
  | n + 1, v5, v6 => (if v6 = (0 : Int) then (K0 v5) else (if v6 ≠ 0 then (spec_shGcd_l0 K0 n v6 (v5.tmod v6)) else none))
set_option maxRecDepth 100000 in
theorem spec_shGcd_l0_ct {K0 : Int → Option Int} {r : Int} : ∀ (n : Nat) (v5 : Int) (v6 : Int), spec_shGcd_l0 K0 n v5 v6 = some r → LoopOk prog 0 (lp f212 0) (mk 13 [(0, .d (D.int .i64 v5)), (1, .d (D.int .i64 v6))] []) (LoopEnd prog f212 0 13 (.d (D.int .i64 r)) (⟨[], []⟩) (fun i ts os => (i = 0 ∧ ∃ v9 : Int, K0 v9 = some r ∧ ts = [(0, .d (D.int .i64 v9))] ∧ os = [])))
  | 0, _, _, h => by
      rw [spec_shGcd_l0] at h; cases h
  | n + 1, v5, v6, h => by
      rw [spec_shGcd_l0] at h
      refine LoopOk.step ?_
      conv => whnf
      refine splN (fun g12 => ?_) (fun g12 => ?_)
      · replace h := iteN h g12
        conv => whnf
        obtain ⟨g13, h⟩ := req_ex h
        refine Req.of g13 ?_
        conv => whnf
        exact LoopOk.back (spec_shGcd_l0_ct  n _ _ h) [] [] ⟨⟨rfl, rfl⟩, ⟨rfl, trivial⟩, rfl, rfl, trivial⟩
      · replace h := iteP h g12
        conv => whnf
        exact ⟨_, _, [], [], ⟨rfl, _, h, rfl, rfl⟩, ⟨⟨rfl, rfl⟩, ⟨rfl, trivial⟩, rfl, trivial⟩⟩
def spec_shGcd (k : Nat) (a1 : Int) (a2 : Int) : Option Int :=
  (spec_shGcd_l0 (fun (v9 : Int) => ((spec_l1Abs v9).bind fun y14 => some y14)) k a1 a2)
set_option maxHeartbeats 4000000 in
set_option maxRecDepth 100000 in
theorem spec_shGcd_ct {k : Nat} {a1 : Int} {a2 : Int} {r : Int} (h : spec_shGcd k a1 a2 = some r) : Ct prog 212 [.d (D.int .i64 a1), .d (D.int .i64 a2)] (⟨[], []⟩) (.d (D.int .i64 r)) (⟨[], []⟩) := by
  rw [spec_shGcd] at h
  refine Ct.of (c := _) mixed func212 ⟨rfl, rfl, rfl⟩ ?_ rfl
  conv => whnf
  refine LoopOk.into (spec_shGcd_l0_ct  _ _ _ h) [] [] ⟨⟨rfl, rfl⟩, ⟨rfl, trivial⟩, rfl, rfl, trivial⟩ ?_ (fun _ hs => hs)
  rintro i ts os ⟨rfl, v9, h, rfl, rfl⟩
  conv => whnf
  refine CutK.go ?_
  conv => whnf
  refine Pick.no ?_
  conv => whnf
  obtain ⟨y14, e15, h⟩ := bind_ex h
  refine CallOk.of (spec_l1Abs_ct e15) ?_
  conv => whnf
  refine CutK.go ?_
  conv => whnf
  cases h
  exact Done.of [] [] rfl rfl ⟨⟨rfl, rfl⟩, ⟨rfl, trivial⟩, rfl, trivial⟩

def spec_shMake (k : Nat) (a1 : Int) (a2 : Int) : Option (Int × Int) :=
  ((spec_shGcd k a1 a2).bind fun y3 => (if a2 < (0 : Int) then (if (IntKind.i64.wrap (0 - y3)) ≠ 0 then some (IntKind.i64.wrap (a1.tdiv (IntKind.i64.wrap (0 - y3))), IntKind.i64.wrap (a2.tdiv (IntKind.i64.wrap (0 - y3)))) else none) else (if y3 ≠ 0 then some (IntKind.i64.wrap (a1.tdiv y3), IntKind.i64.wrap (a2.tdiv y3)) else none)))
set_option maxHeartbeats 4000000 in
set_option maxRecDepth 100000 in
theorem spec_shMake_ct {k : Nat} {a1 : Int} {a2 : Int} {r : Int × Int} (h : spec_shMake k a1 a2 = some r) : Ct prog 216 [.d (D.int .i64 a1), .d (D.int .i64 a2)] (⟨[], []⟩) (.agg [.d (D.int .i64 r.1), .d (D.int .i64 r.2)]) (⟨[], []⟩) := by
  rw [spec_shMake] at h
  refine Ct.of (c := _) mixed func216 ⟨rfl, rfl, rfl⟩ ?_ rfl
  conv => whnf
  refine Pick.no ?_
  conv => whnf
  obtain ⟨y3, e4, h⟩ := bind_ex h
  refine CallOk.of (spec_shGcd_ct e4) ?_
  conv => whnf
  refine CutK.go ?_
  conv => whnf
  refine splD (fun g5 => ?_) (fun g5 => ?_)
  · replace h := iteP h g5
    conv => whnf
    obtain ⟨g6, h⟩ := req_ex h
    refine Req.of g6 ?_
    conv => whnf
    refine Req.of g6 ?_
    conv => whnf
    cases h
    exact Done.of [] [] rfl rfl ⟨⟨rfl, rfl⟩, ⟨rfl, trivial⟩, ⟨rfl, rfl, trivial⟩, trivial⟩
  · replace h := iteN h g5
    conv => whnf
    obtain ⟨g7, h⟩ := req_ex h
    refine Req.of g7 ?_
    conv => whnf
    refine Req.of g7 ?_
    conv => whnf
    cases h
    exact Done.of [] [] rfl rfl ⟨⟨rfl, rfl⟩, ⟨rfl, trivial⟩, ⟨rfl, rfl, trivial⟩, trivial⟩

def spec_l1Cur_among  (a1 : Rw) (a2 : Int) (a3 : Int) (a4 : Rw) : Option (Int × Rw × Int × Int) :=
  ((spec_l1Cur_pick a1 a2 a3 (a4.length : Int)).bind fun y5 => (row_i a4 y5.1 fun x7 => some (x7, y5.2.1, y5.2.2.1, y5.2.2.2)))
set_option maxHeartbeats 4000000 in
set_option maxRecDepth 100000 in
theorem spec_l1Cur_among_ct  {a1 : Rw} {a2 : Int} {a3 : Int} {a4 : Rw} {r : Int × Rw × Int × Int} (h : spec_l1Cur_among a1 a2 a3 a4 = some r) : Ct prog 67 [.ptr 0 0, .d (D.sl a4)] (⟨[(91, [.d (D.sl a1), .d (D.int .i64 a2), .d (D.int .u64 a3)])], []⟩) (.d (D.int .i64 r.1)) (⟨[(91, [.d (D.sl r.2.1), .d (D.int .i64 r.2.2.1), .d (D.int .u64 r.2.2.2)])], []⟩) := by
  rw [spec_l1Cur_among] at h
  refine Ct.of (c := _) mixed func67 ⟨rfl, rfl, rfl⟩ ?_ rfl
  conv => whnf
  refine Pick.no ?_
  conv => whnf
  obtain ⟨y5, e6, h⟩ := bind_ex h
  refine CallOk.of (spec_l1Cur_pick_ct e6) ?_
  conv => whnf
  obtain ⟨g9, x7, e8, h⟩ := row_i_ex h
  refine Req.of g9 ?_
  refine Row.of _ e8 ?_
  conv => whnf
  refine CutK.go ?_
  conv => whnf
  cases h
  exact Done.of [some 0] [] rfl rfl ⟨⟨rfl, rfl⟩, ⟨rfl, ⟨rfl, rfl, rfl, rfl, trivial⟩, trivial⟩, rfl, trivial⟩

def spec_l1Cur_of  (a1 : Rw) (a2 : Int) (a3 : Int) (a4 : Rw) : Option (ByteArray × Rw × Int × Int) :=
  ((spec_l1Cur_pick a1 a2 a3 (a4.length : Int)).bind fun y5 => (row_t a4 y5.1 fun x7 => some (x7, y5.2.1, y5.2.2.1, y5.2.2.2)))
set_option maxHeartbeats 4000000 in
set_option maxRecDepth 100000 in
theorem spec_l1Cur_of_ct  {a1 : Rw} {a2 : Int} {a3 : Int} {a4 : Rw} {r : ByteArray × Rw × Int × Int} (h : spec_l1Cur_of a1 a2 a3 a4 = some r) : Ct prog 228 [.ptr 0 0, .d (D.sl a4)] (⟨[(91, [.d (D.sl a1), .d (D.int .i64 a2), .d (D.int .u64 a3)])], []⟩) (.d (D.str r.1)) (⟨[(91, [.d (D.sl r.2.1), .d (D.int .i64 r.2.2.1), .d (D.int .u64 r.2.2.2)])], []⟩) := by
  rw [spec_l1Cur_of] at h
  refine Ct.of (c := _) mixed func228 ⟨rfl, rfl, rfl⟩ ?_ rfl
  conv => whnf
  refine Pick.no ?_
  conv => whnf
  obtain ⟨y5, e6, h⟩ := bind_ex h
  refine CallOk.of (spec_l1Cur_pick_ct e6) ?_
  conv => whnf
  obtain ⟨g9, x7, e8, h⟩ := row_t_ex h
  refine Req.of g9 ?_
  refine Row.of _ e8 ?_
  conv => whnf
  refine CutK.go ?_
  conv => whnf
  cases h
  exact Done.of [some 0] [] rfl rfl ⟨⟨rfl, rfl⟩, ⟨rfl, ⟨rfl, rfl, rfl, rfl, trivial⟩, trivial⟩, rfl, trivial⟩

def spec_l1Cur_word_l0 (K0 : ByteArray → Rw → Int → Int → Option (ByteArray × Rw × Int × Int)) : Nat → ByteArray → Int → Rw → Int → Int → Option (ByteArray × Rw × Int × Int)
  | 0, _, _, _, _, _ => none
  | n + 1, v11, v12, v13, v14, v15 => (if (0 : Int) < v12 then ((spec_l1Cur_of v13 v14 v15 ([[D.str (ByteArray.mk #[43])], [D.str (ByteArray.mk #[45])], [D.str (ByteArray.mk #[43])]] : Rw)).bind fun y29 => (if v11.size + y29.1.size ≤ 9223372036854775807 then (spec_l1Cur_word_l0 K0 n (v11 ++ y29.1) (IntKind.i64.wrap (v12 - 1)) y29.2.1 y29.2.2.1 y29.2.2.2) else none)) else (K0 v11 v13 v14 v15))
set_option maxRecDepth 100000 in
theorem spec_l1Cur_word_l0_ct {K0 : ByteArray → Rw → Int → Int → Option (ByteArray × Rw × Int × Int)} {r : ByteArray × Rw × Int × Int} : ∀ (n : Nat) (v11 : ByteArray) (v12 : Int) (v13 : Rw) (v14 : Int) (v15 : Int), spec_l1Cur_word_l0 K0 n v11 v12 v13 v14 v15 = some r → LoopOk prog 1 (lp f218 0) (mk 21 [(0, .ptr 0 0), (5, .d (D.str v11)), (6, .d (D.int .i64 v12))] [(0, .box 91 [.d (D.sl v13), .d (D.int .i64 v14), .d (D.int .u64 v15)])]) (LoopEnd prog f218 1 21 (.d (D.str r.1)) (⟨[(91, [.d (D.sl r.2.1), .d (D.int .i64 r.2.2.1), .d (D.int .u64 r.2.2.2)])], []⟩) (fun i ts os => (i = 0 ∧ ∃ v20 : ByteArray, ∃ v21 : Rw, ∃ v22 : Int, ∃ v23 : Int, K0 v20 v21 v22 v23 = some r ∧ ts = [(5, .d (D.str v20))] ∧ os = [(0, .box 91 [.d (D.sl v21), .d (D.int .i64 v22), .d (D.int .u64 v23)])])))
  | 0, _, _, _, _, _, h => by
      rw [spec_l1Cur_word_l0] at h; cases h
  | n + 1, v11, v12, v13, v14, v15, h => by
      rw [spec_l1Cur_word_l0] at h
      refine LoopOk.step ?_
      conv => whnf
      refine splD (fun g28 => ?_) (fun g28 => ?_)
      · replace h := iteP h g28
        conv => whnf
        refine Pick.no ?_
        conv => whnf
        refine Take.all (by first | rfl | exact List.length_append.symm | (simp; done) | omega) ?_
        conv => whnf
        obtain ⟨y29, e30, h⟩ := bind_ex h
        refine CallOk.of (spec_l1Cur_of_ct e30) ?_
        conv => whnf
        obtain ⟨g31, h⟩ := req_ex h
        refine Req.of g31 ?_
        conv => whnf
        refine CutK.go ?_
        conv => whnf
        exact LoopOk.back (spec_l1Cur_word_l0_ct  n _ _ _ _ _ h) [some 0] [] ⟨⟨rfl, rfl⟩, ⟨rfl, ⟨rfl, rfl, rfl, rfl, trivial⟩, trivial⟩, ⟨rfl, rfl⟩, rfl, rfl, trivial⟩
      · replace h := iteN h g28
        conv => whnf
        exact ⟨_, _, [some 0], [], ⟨rfl, _, _, _, _, h, rfl, rfl⟩, ⟨⟨rfl, rfl⟩, ⟨rfl, ⟨rfl, rfl, rfl, rfl, trivial⟩, trivial⟩, rfl, trivial⟩⟩
def spec_l1Cur_word (k : Nat) (a1 : Rw) (a2 : Int) (a3 : Int) (a4 : Int) : Option (ByteArray × Rw × Int × Int) :=
  ((spec_l1Cur_pick a1 a2 a3 (IntKind.i64.wrap (a4 + 1))).bind fun y5 => (spec_l1Cur_word_l0 (fun (v20 : ByteArray) (v21 : Rw) (v22 : Int) (v23 : Int) => some (v20, v21, v22, v23)) k (ByteArray.mk #[]) y5.1 y5.2.1 y5.2.2.1 y5.2.2.2))
set_option maxHeartbeats 4000000 in
set_option maxRecDepth 100000 in
theorem spec_l1Cur_word_ct {k : Nat} {a1 : Rw} {a2 : Int} {a3 : Int} {a4 : Int} {r : ByteArray × Rw × Int × Int} (h : spec_l1Cur_word k a1 a2 a3 a4 = some r) : Ct prog 218 [.ptr 0 0, .d (D.int .i64 a4)] (⟨[(91, [.d (D.sl a1), .d (D.int .i64 a2), .d (D.int .u64 a3)])], []⟩) (.d (D.str r.1)) (⟨[(91, [.d (D.sl r.2.1), .d (D.int .i64 r.2.2.1), .d (D.int .u64 r.2.2.2)])], []⟩) := by
  rw [spec_l1Cur_word] at h
  refine Ct.of (c := _) mixed func218 ⟨rfl, rfl, rfl⟩ ?_ rfl
  conv => whnf
  refine Pick.no ?_
  conv => whnf
  obtain ⟨y5, e6, h⟩ := bind_ex h
  refine CallOk.of (spec_l1Cur_pick_ct e6) ?_
  conv => whnf
  refine CutK.go ?_
  conv => whnf
  refine LoopOk.into (spec_l1Cur_word_l0_ct  _ _ _ _ _ _ h) [some 0] [] ⟨⟨rfl, rfl⟩, ⟨rfl, ⟨rfl, rfl, rfl, rfl, trivial⟩, trivial⟩, ⟨rfl, rfl⟩, rfl, rfl, trivial⟩ ?_ (fun _ hs => hs)
  rintro i ts os ⟨rfl, v20, v21, v22, v23, h, rfl, rfl⟩
  conv => whnf
  refine CutK.go ?_
  conv => whnf
  cases h
  exact Done.of [some 0] [] rfl rfl ⟨⟨rfl, rfl⟩, ⟨rfl, ⟨rfl, rfl, rfl, rfl, trivial⟩, trivial⟩, rfl, trivial⟩

def spec_shStart   : Option (Int × Int × Int × Int × Int × Int × Bool × Bool) :=
  ((spec_shInt 0).bind fun y1 => some (y1.1, y1.2, 0, 0, 0, 0, false, false))
set_option maxHeartbeats 4000000 in
set_option maxRecDepth 100000 in
theorem spec_shStart_ct   {r : Int × Int × Int × Int × Int × Int × Bool × Bool} (h : spec_shStart = some r) : Ct prog 226 [] (⟨[], []⟩) (.agg [.d (D.int .i64 r.1), .d (D.int .i64 r.2.1), .d (D.int .i64 r.2.2.1), .d (D.int .i64 r.2.2.2.1), .d (D.int .i64 r.2.2.2.2.1), .d (D.int .i64 r.2.2.2.2.2.1), .d (D.bool r.2.2.2.2.2.2.1), .d (D.bool r.2.2.2.2.2.2.2)]) (⟨[], []⟩) := by
  rw [spec_shStart] at h
  refine Ct.of (c := _) mixed func226 ⟨rfl, rfl, rfl⟩ ?_ rfl
  conv => whnf
  refine Pick.no ?_
  conv => whnf
  obtain ⟨y1, e2, h⟩ := bind_ex h
  refine CallOk.of (spec_shInt_ct e2) ?_
  conv => whnf
  refine CutK.go ?_
  conv => whnf
  cases h
  exact Done.of [] [] rfl rfl ⟨⟨rfl, rfl⟩, ⟨rfl, trivial⟩, ⟨rfl, rfl, rfl, rfl, rfl, rfl, rfl, rfl, trivial⟩, trivial⟩

def spec_shAdd (k : Nat) (a1 : Int) (a2 : Int) (a3 : Int) (a4 : Int) : Option (Int × Int) :=
  ((spec_shMake k (IntKind.i64.wrap ((IntKind.i64.wrap (a1 * a4)) + (IntKind.i64.wrap (a3 * a2)))) (IntKind.i64.wrap (a2 * a4))).bind fun y5 => some (y5.1, y5.2))
set_option maxHeartbeats 4000000 in
set_option maxRecDepth 100000 in
theorem spec_shAdd_ct {k : Nat} {a1 : Int} {a2 : Int} {a3 : Int} {a4 : Int} {r : Int × Int} (h : spec_shAdd k a1 a2 a3 a4 = some r) : Ct prog 219 [.agg [.d (D.int .i64 a1), .d (D.int .i64 a2)], .agg [.d (D.int .i64 a3), .d (D.int .i64 a4)]] (⟨[], []⟩) (.agg [.d (D.int .i64 r.1), .d (D.int .i64 r.2)]) (⟨[], []⟩) := by
  rw [spec_shAdd] at h
  refine Ct.of (c := _) mixed func219 ⟨rfl, rfl, rfl⟩ ?_ rfl
  conv => whnf
  refine Pick.no ?_
  conv => whnf
  obtain ⟨y5, e6, h⟩ := bind_ex h
  refine CallOk.of (spec_shMake_ct e6) ?_
  conv => whnf
  refine CutK.go ?_
  conv => whnf
  cases h
  exact Done.of [] [] rfl rfl ⟨⟨rfl, rfl⟩, ⟨rfl, trivial⟩, ⟨rfl, rfl, trivial⟩, trivial⟩

def spec_shMul (k : Nat) (a1 : Int) (a2 : Int) (a3 : Int) (a4 : Int) : Option (Int × Int) :=
  ((spec_shMake k (IntKind.i64.wrap (a1 * a3)) (IntKind.i64.wrap (a2 * a4))).bind fun y5 => some (y5.1, y5.2))
set_option maxHeartbeats 4000000 in
set_option maxRecDepth 100000 in
theorem spec_shMul_ct {k : Nat} {a1 : Int} {a2 : Int} {a3 : Int} {a4 : Int} {r : Int × Int} (h : spec_shMul k a1 a2 a3 a4 = some r) : Ct prog 225 [.agg [.d (D.int .i64 a1), .d (D.int .i64 a2)], .agg [.d (D.int .i64 a3), .d (D.int .i64 a4)]] (⟨[], []⟩) (.agg [.d (D.int .i64 r.1), .d (D.int .i64 r.2)]) (⟨[], []⟩) := by
  rw [spec_shMul] at h
  refine Ct.of (c := _) mixed func225 ⟨rfl, rfl, rfl⟩ ?_ rfl
  conv => whnf
  refine Pick.no ?_
  conv => whnf
  obtain ⟨y5, e6, h⟩ := bind_ex h
  refine CallOk.of (spec_shMake_ct e6) ?_
  conv => whnf
  refine CutK.go ?_
  conv => whnf
  cases h
  exact Done.of [] [] rfl rfl ⟨⟨rfl, rfl⟩, ⟨rfl, trivial⟩, ⟨rfl, rfl, trivial⟩, trivial⟩

def spec_shWalk_step (k : Nat) (a1 : Int) (a2 : Int) (a3 : Int) (a4 : Int) (a5 : Int) (a6 : Int) (a7 : Bool) (a8 : Bool) (a9 : Bool) : Option (Int × Int × Int × Int × Int × Int × Bool × Bool) :=
  (cond a7 (cond a8 (cond a9 ((spec_shAdd k a1 a2 a5 a6).bind fun y38 => ((spec_shMul k y38.1 y38.2 1 2).bind fun y40 => some (y40.1, y40.2, a1, a2, a5, a6, true, true))) ((spec_shAdd k a3 a4 a1 a2).bind fun y34 => ((spec_shMul k y34.1 y34.2 1 2).bind fun y36 => some (y36.1, y36.2, a3, a4, a1, a2, true, true)))) (cond a9 ((spec_shInt 1).bind fun y30 => ((spec_shAdd k a1 a2 y30.1 y30.2).bind fun y32 => some (y32.1, y32.2, a1, a2, a5, a6, true, false))) ((spec_shAdd k a3 a4 a1 a2).bind fun y26 => ((spec_shMul k y26.1 y26.2 1 2).bind fun y28 => some (y28.1, y28.2, a3, a4, a1, a2, true, true))))) (cond a8 (cond a9 ((spec_shAdd k a1 a2 a5 a6).bind fun y22 => ((spec_shMul k y22.1 y22.2 1 2).bind fun y24 => some (y24.1, y24.2, a1, a2, a5, a6, true, true))) ((spec_shInt (-1)).bind fun y18 => ((spec_shAdd k a1 a2 y18.1 y18.2).bind fun y20 => some (y20.1, y20.2, a3, a4, a1, a2, false, true)))) (cond a9 ((spec_shInt 1).bind fun y14 => ((spec_shAdd k a1 a2 y14.1 y14.2).bind fun y16 => some (y16.1, y16.2, a1, a2, a5, a6, true, false))) ((spec_shInt (-1)).bind fun y10 => ((spec_shAdd k a1 a2 y10.1 y10.2).bind fun y12 => some (y12.1, y12.2, a3, a4, a1, a2, false, true))))))
set_option maxHeartbeats 4000000 in
set_option maxRecDepth 100000 in
theorem spec_shWalk_step_ct {k : Nat} {a1 : Int} {a2 : Int} {a3 : Int} {a4 : Int} {a5 : Int} {a6 : Int} {a7 : Bool} {a8 : Bool} {a9 : Bool} {r : Int × Int × Int × Int × Int × Int × Bool × Bool} (h : spec_shWalk_step k a1 a2 a3 a4 a5 a6 a7 a8 a9 = some r) : Ct prog 227 [.agg [.d (D.int .i64 a1), .d (D.int .i64 a2), .d (D.int .i64 a3), .d (D.int .i64 a4), .d (D.int .i64 a5), .d (D.int .i64 a6), .d (D.bool a7), .d (D.bool a8)], .d (D.bool a9)] (⟨[], []⟩) (.agg [.d (D.int .i64 r.1), .d (D.int .i64 r.2.1), .d (D.int .i64 r.2.2.1), .d (D.int .i64 r.2.2.2.1), .d (D.int .i64 r.2.2.2.2.1), .d (D.int .i64 r.2.2.2.2.2.1), .d (D.bool r.2.2.2.2.2.2.1), .d (D.bool r.2.2.2.2.2.2.2)]) (⟨[], []⟩) := by
  rw [spec_shWalk_step] at h
  refine Ct.of (c := _) mixed func227 ⟨rfl, rfl, rfl⟩ ?_ rfl
  cases a7
  · replace h := condF h
    cases a8
    · replace h := condF h
      cases a9
      · replace h := condF h
        conv => whnf
        refine splF ?_
        conv => whnf
        refine Pick.no ?_
        conv => whnf
        obtain ⟨y10, e11, h⟩ := bind_ex h
        refine CallOk.of (spec_shInt_ct e11) ?_
        conv => whnf
        refine Pick.no ?_
        conv => whnf
        obtain ⟨y12, e13, h⟩ := bind_ex h
        refine CallOk.of (spec_shAdd_ct e13) ?_
        conv => whnf
        refine CutK.norm [2, 4] [128, 256] ?_
        conv => whnf
        refine splF ?_
        conv => whnf
        refine splT ?_
        conv => whnf
        cases h
        exact Done.of [] [] rfl rfl ⟨⟨rfl, rfl⟩, ⟨rfl, trivial⟩, ⟨rfl, rfl, rfl, rfl, rfl, rfl, rfl, rfl, trivial⟩, trivial⟩
      · replace h := condT h
        conv => whnf
        refine splT ?_
        conv => whnf
        refine splF ?_
        conv => whnf
        refine Pick.no ?_
        conv => whnf
        obtain ⟨y14, e15, h⟩ := bind_ex h
        refine CallOk.of (spec_shInt_ct e15) ?_
        conv => whnf
        refine Pick.no ?_
        conv => whnf
        obtain ⟨y16, e17, h⟩ := bind_ex h
        refine CallOk.of (spec_shAdd_ct e17) ?_
        conv => whnf
        refine CutK.norm [2, 4] [128, 256] ?_
        conv => whnf
        refine splT ?_
        conv => whnf
        refine splF ?_
        conv => whnf
        cases h
        exact Done.of [] [] rfl rfl ⟨⟨rfl, rfl⟩, ⟨rfl, trivial⟩, ⟨rfl, rfl, rfl, rfl, rfl, rfl, rfl, rfl, trivial⟩, trivial⟩
    · replace h := condT h
      cases a9
      · replace h := condF h
        conv => whnf
        refine splF ?_
        conv => whnf
        refine Pick.no ?_
        conv => whnf
        obtain ⟨y18, e19, h⟩ := bind_ex h
        refine CallOk.of (spec_shInt_ct e19) ?_
        conv => whnf
        refine Pick.no ?_
        conv => whnf
        obtain ⟨y20, e21, h⟩ := bind_ex h
        refine CallOk.of (spec_shAdd_ct e21) ?_
        conv => whnf
        refine CutK.norm [2, 4] [128, 256] ?_
        conv => whnf
        refine splF ?_
        conv => whnf
        refine splT ?_
        conv => whnf
        cases h
        exact Done.of [] [] rfl rfl ⟨⟨rfl, rfl⟩, ⟨rfl, trivial⟩, ⟨rfl, rfl, rfl, rfl, rfl, rfl, rfl, rfl, trivial⟩, trivial⟩
      · replace h := condT h
        conv => whnf
        refine splT ?_
        conv => whnf
        refine splT ?_
        conv => whnf
        refine Pick.no ?_
        conv => whnf
        obtain ⟨y22, e23, h⟩ := bind_ex h
        refine CallOk.of (spec_shAdd_ct e23) ?_
        conv => whnf
        refine Pick.no ?_
        conv => whnf
        obtain ⟨y24, e25, h⟩ := bind_ex h
        refine CallOk.of (spec_shMul_ct e25) ?_
        conv => whnf
        refine CutK.norm [2, 4] [128, 256] ?_
        conv => whnf
        refine splT ?_
        conv => whnf
        refine splT ?_
        conv => whnf
        cases h
        exact Done.of [] [] rfl rfl ⟨⟨rfl, rfl⟩, ⟨rfl, trivial⟩, ⟨rfl, rfl, rfl, rfl, rfl, rfl, rfl, rfl, trivial⟩, trivial⟩
  · replace h := condT h
    cases a8
    · replace h := condF h
      cases a9
      · replace h := condF h
        conv => whnf
        refine splT ?_
        conv => whnf
        refine splT ?_
        conv => whnf
        refine Pick.no ?_
        conv => whnf
        obtain ⟨y26, e27, h⟩ := bind_ex h
        refine CallOk.of (spec_shAdd_ct e27) ?_
        conv => whnf
        refine Pick.no ?_
        conv => whnf
        obtain ⟨y28, e29, h⟩ := bind_ex h
        refine CallOk.of (spec_shMul_ct e29) ?_
        conv => whnf
        refine CutK.norm [2, 4] [128, 256] ?_
        conv => whnf
        refine splT ?_
        conv => whnf
        refine splT ?_
        conv => whnf
        cases h
        exact Done.of [] [] rfl rfl ⟨⟨rfl, rfl⟩, ⟨rfl, trivial⟩, ⟨rfl, rfl, rfl, rfl, rfl, rfl, rfl, rfl, trivial⟩, trivial⟩
      · replace h := condT h
        conv => whnf
        refine splT ?_
        conv => whnf
        refine splF ?_
        conv => whnf
        refine Pick.no ?_
        conv => whnf
        obtain ⟨y30, e31, h⟩ := bind_ex h
        refine CallOk.of (spec_shInt_ct e31) ?_
        conv => whnf
        refine Pick.no ?_
        conv => whnf
        obtain ⟨y32, e33, h⟩ := bind_ex h
        refine CallOk.of (spec_shAdd_ct e33) ?_
        conv => whnf
        refine CutK.norm [2, 4] [128, 256] ?_
        conv => whnf
        refine splT ?_
        conv => whnf
        refine splF ?_
        conv => whnf
        cases h
        exact Done.of [] [] rfl rfl ⟨⟨rfl, rfl⟩, ⟨rfl, trivial⟩, ⟨rfl, rfl, rfl, rfl, rfl, rfl, rfl, rfl, trivial⟩, trivial⟩
    · replace h := condT h
      cases a9
      · replace h := condF h
        conv => whnf
        refine splT ?_
        conv => whnf
        refine splT ?_
        conv => whnf
        refine Pick.no ?_
        conv => whnf
        obtain ⟨y34, e35, h⟩ := bind_ex h
        refine CallOk.of (spec_shAdd_ct e35) ?_
        conv => whnf
        refine Pick.no ?_
        conv => whnf
        obtain ⟨y36, e37, h⟩ := bind_ex h
        refine CallOk.of (spec_shMul_ct e37) ?_
        conv => whnf
        refine CutK.norm [2, 4] [128, 256] ?_
        conv => whnf
        refine splT ?_
        conv => whnf
        refine splT ?_
        conv => whnf
        cases h
        exact Done.of [] [] rfl rfl ⟨⟨rfl, rfl⟩, ⟨rfl, trivial⟩, ⟨rfl, rfl, rfl, rfl, rfl, rfl, rfl, rfl, trivial⟩, trivial⟩
      · replace h := condT h
        conv => whnf
        refine splT ?_
        conv => whnf
        refine splT ?_
        conv => whnf
        refine Pick.no ?_
        conv => whnf
        obtain ⟨y38, e39, h⟩ := bind_ex h
        refine CallOk.of (spec_shAdd_ct e39) ?_
        conv => whnf
        refine Pick.no ?_
        conv => whnf
        obtain ⟨y40, e41, h⟩ := bind_ex h
        refine CallOk.of (spec_shMul_ct e41) ?_
        conv => whnf
        refine CutK.norm [2, 4] [128, 256] ?_
        conv => whnf
        refine splT ?_
        conv => whnf
        refine splT ?_
        conv => whnf
        cases h
        exact Done.of [] [] rfl rfl ⟨⟨rfl, rfl⟩, ⟨rfl, trivial⟩, ⟨rfl, rfl, rfl, rfl, rfl, rfl, rfl, rfl, trivial⟩, trivial⟩

def spec_shValue_l0 (k : Nat) (a1 : ByteArray) (K0 : Int → Int → Int → Int → Int → Int → Bool → Bool → Option (Int × Int)) : Nat → Int → Int → Int → Int → Int → Int → Int → Bool → Bool → Option (Int × Int)
  | 0, _, _, _, _, _, _, _, _, _ => none
  | n + 1, v15, v16, v17, v18, v19, v20, v21, v22, v24 => (cond v22 (cond v24 (if v15 < (a1.size : Int) then (byteD a1 v15 fun b204 => (if (b204.toNat : Int) = (43 : Int) then ((spec_shWalk_step k v16 v17 v18 v19 v20 v21 true true true).bind fun y208 => (if y208.2.2.2.2.2.2.1 = true then (if y208.2.2.2.2.2.2.2 = true then (spec_shValue_l0 k a1 K0 n (IntKind.i64.wrap (v15 + 1)) y208.1 y208.2.1 y208.2.2.1 y208.2.2.2.1 y208.2.2.2.2.1 y208.2.2.2.2.2.1 true true) else (spec_shValue_l0 k a1 K0 n (IntKind.i64.wrap (v15 + 1)) y208.1 y208.2.1 y208.2.2.1 y208.2.2.2.1 y208.2.2.2.2.1 y208.2.2.2.2.2.1 false true)) else (if y208.2.2.2.2.2.2.2 = true then (spec_shValue_l0 k a1 K0 n (IntKind.i64.wrap (v15 + 1)) y208.1 y208.2.1 y208.2.2.1 y208.2.2.2.1 y208.2.2.2.2.1 y208.2.2.2.2.2.1 true false) else (spec_shValue_l0 k a1 K0 n (IntKind.i64.wrap (v15 + 1)) y208.1 y208.2.1 y208.2.2.1 y208.2.2.2.1 y208.2.2.2.2.1 y208.2.2.2.2.2.1 false false)))) else ((spec_shWalk_step k v16 v17 v18 v19 v20 v21 true true false).bind fun y213 => (if y213.2.2.2.2.2.2.1 = true then (if y213.2.2.2.2.2.2.2 = true then (spec_shValue_l0 k a1 K0 n (IntKind.i64.wrap (v15 + 1)) y213.1 y213.2.1 y213.2.2.1 y213.2.2.2.1 y213.2.2.2.2.1 y213.2.2.2.2.2.1 true true) else (spec_shValue_l0 k a1 K0 n (IntKind.i64.wrap (v15 + 1)) y213.1 y213.2.1 y213.2.2.1 y213.2.2.2.1 y213.2.2.2.2.1 y213.2.2.2.2.2.1 false true)) else (if y213.2.2.2.2.2.2.2 = true then (spec_shValue_l0 k a1 K0 n (IntKind.i64.wrap (v15 + 1)) y213.1 y213.2.1 y213.2.2.1 y213.2.2.2.1 y213.2.2.2.2.1 y213.2.2.2.2.2.1 true false) else (spec_shValue_l0 k a1 K0 n (IntKind.i64.wrap (v15 + 1)) y213.1 y213.2.1 y213.2.2.1 y213.2.2.2.1 y213.2.2.2.2.1 y213.2.2.2.2.2.1 false false)))))) else (K0 v16 v17 v18 v19 v20 v21 true true)) (if v15 < (a1.size : Int) then (byteD a1 v15 fun b189 => (if (b189.toNat : Int) = (43 : Int) then ((spec_shWalk_step k v16 v17 v18 v19 v20 v21 false true true).bind fun y193 => (if y193.2.2.2.2.2.2.1 = true then (if y193.2.2.2.2.2.2.2 = true then (spec_shValue_l0 k a1 K0 n (IntKind.i64.wrap (v15 + 1)) y193.1 y193.2.1 y193.2.2.1 y193.2.2.2.1 y193.2.2.2.2.1 y193.2.2.2.2.2.1 true true) else (spec_shValue_l0 k a1 K0 n (IntKind.i64.wrap (v15 + 1)) y193.1 y193.2.1 y193.2.2.1 y193.2.2.2.1 y193.2.2.2.2.1 y193.2.2.2.2.2.1 false true)) else (if y193.2.2.2.2.2.2.2 = true then (spec_shValue_l0 k a1 K0 n (IntKind.i64.wrap (v15 + 1)) y193.1 y193.2.1 y193.2.2.1 y193.2.2.2.1 y193.2.2.2.2.1 y193.2.2.2.2.2.1 true false) else (spec_shValue_l0 k a1 K0 n (IntKind.i64.wrap (v15 + 1)) y193.1 y193.2.1 y193.2.2.1 y193.2.2.2.1 y193.2.2.2.2.1 y193.2.2.2.2.2.1 false false)))) else ((spec_shWalk_step k v16 v17 v18 v19 v20 v21 false true false).bind fun y198 => (if y198.2.2.2.2.2.2.1 = true then (if y198.2.2.2.2.2.2.2 = true then (spec_shValue_l0 k a1 K0 n (IntKind.i64.wrap (v15 + 1)) y198.1 y198.2.1 y198.2.2.1 y198.2.2.2.1 y198.2.2.2.2.1 y198.2.2.2.2.2.1 true true) else (spec_shValue_l0 k a1 K0 n (IntKind.i64.wrap (v15 + 1)) y198.1 y198.2.1 y198.2.2.1 y198.2.2.2.1 y198.2.2.2.2.1 y198.2.2.2.2.2.1 false true)) else (if y198.2.2.2.2.2.2.2 = true then (spec_shValue_l0 k a1 K0 n (IntKind.i64.wrap (v15 + 1)) y198.1 y198.2.1 y198.2.2.1 y198.2.2.2.1 y198.2.2.2.2.1 y198.2.2.2.2.2.1 true false) else (spec_shValue_l0 k a1 K0 n (IntKind.i64.wrap (v15 + 1)) y198.1 y198.2.1 y198.2.2.1 y198.2.2.2.1 y198.2.2.2.2.1 y198.2.2.2.2.2.1 false false)))))) else (K0 v16 v17 v18 v19 v20 v21 false true))) (cond v24 (if v15 < (a1.size : Int) then (byteD a1 v15 fun b174 => (if (b174.toNat : Int) = (43 : Int) then ((spec_shWalk_step k v16 v17 v18 v19 v20 v21 true false true).bind fun y178 => (if y178.2.2.2.2.2.2.1 = true then (if y178.2.2.2.2.2.2.2 = true then (spec_shValue_l0 k a1 K0 n (IntKind.i64.wrap (v15 + 1)) y178.1 y178.2.1 y178.2.2.1 y178.2.2.2.1 y178.2.2.2.2.1 y178.2.2.2.2.2.1 true true) else (spec_shValue_l0 k a1 K0 n (IntKind.i64.wrap (v15 + 1)) y178.1 y178.2.1 y178.2.2.1 y178.2.2.2.1 y178.2.2.2.2.1 y178.2.2.2.2.2.1 false true)) else (if y178.2.2.2.2.2.2.2 = true then (spec_shValue_l0 k a1 K0 n (IntKind.i64.wrap (v15 + 1)) y178.1 y178.2.1 y178.2.2.1 y178.2.2.2.1 y178.2.2.2.2.1 y178.2.2.2.2.2.1 true false) else (spec_shValue_l0 k a1 K0 n (IntKind.i64.wrap (v15 + 1)) y178.1 y178.2.1 y178.2.2.1 y178.2.2.2.1 y178.2.2.2.2.1 y178.2.2.2.2.2.1 false false)))) else ((spec_shWalk_step k v16 v17 v18 v19 v20 v21 true false false).bind fun y183 => (if y183.2.2.2.2.2.2.1 = true then (if y183.2.2.2.2.2.2.2 = true then (spec_shValue_l0 k a1 K0 n (IntKind.i64.wrap (v15 + 1)) y183.1 y183.2.1 y183.2.2.1 y183.2.2.2.1 y183.2.2.2.2.1 y183.2.2.2.2.2.1 true true) else (spec_shValue_l0 k a1 K0 n (IntKind.i64.wrap (v15 + 1)) y183.1 y183.2.1 y183.2.2.1 y183.2.2.2.1 y183.2.2.2.2.1 y183.2.2.2.2.2.1 false true)) else (if y183.2.2.2.2.2.2.2 = true then (spec_shValue_l0 k a1 K0 n (IntKind.i64.wrap (v15 + 1)) y183.1 y183.2.1 y183.2.2.1 y183.2.2.2.1 y183.2.2.2.2.1 y183.2.2.2.2.2.1 true false) else (spec_shValue_l0 k a1 K0 n (IntKind.i64.wrap (v15 + 1)) y183.1 y183.2.1 y183.2.2.1 y183.2.2.2.1 y183.2.2.2.2.1 y183.2.2.2.2.2.1 false false)))))) else (K0 v16 v17 v18 v19 v20 v21 true false)) (if v15 < (a1.size : Int) then (byteD a1 v15 fun b159 => (if (b159.toNat : Int) = (43 : Int) then ((spec_shWalk_step k v16 v17 v18 v19 v20 v21 false false true).bind fun y163 => (if y163.2.2.2.2.2.2.1 = true then (if y163.2.2.2.2.2.2.2 = true then (spec_shValue_l0 k a1 K0 n (IntKind.i64.wrap (v15 + 1)) y163.1 y163.2.1 y163.2.2.1 y163.2.2.2.1 y163.2.2.2.2.1 y163.2.2.2.2.2.1 true true) else (spec_shValue_l0 k a1 K0 n (IntKind.i64.wrap (v15 + 1)) y163.1 y163.2.1 y163.2.2.1 y163.2.2.2.1 y163.2.2.2.2.1 y163.2.2.2.2.2.1 false true)) else (if y163.2.2.2.2.2.2.2 = true then (spec_shValue_l0 k a1 K0 n (IntKind.i64.wrap (v15 + 1)) y163.1 y163.2.1 y163.2.2.1 y163.2.2.2.1 y163.2.2.2.2.1 y163.2.2.2.2.2.1 true false) else (spec_shValue_l0 k a1 K0 n (IntKind.i64.wrap (v15 + 1)) y163.1 y163.2.1 y163.2.2.1 y163.2.2.2.1 y163.2.2.2.2.1 y163.2.2.2.2.2.1 false false)))) else ((spec_shWalk_step k v16 v17 v18 v19 v20 v21 false false false).bind fun y168 => (if y168.2.2.2.2.2.2.1 = true then (if y168.2.2.2.2.2.2.2 = true then (spec_shValue_l0 k a1 K0 n (IntKind.i64.wrap (v15 + 1)) y168.1 y168.2.1 y168.2.2.1 y168.2.2.2.1 y168.2.2.2.2.1 y168.2.2.2.2.2.1 true true) else (spec_shValue_l0 k a1 K0 n (IntKind.i64.wrap (v15 + 1)) y168.1 y168.2.1 y168.2.2.1 y168.2.2.2.1 y168.2.2.2.2.1 y168.2.2.2.2.2.1 false true)) else (if y168.2.2.2.2.2.2.2 = true then (spec_shValue_l0 k a1 K0 n (IntKind.i64.wrap (v15 + 1)) y168.1 y168.2.1 y168.2.2.1 y168.2.2.2.1 y168.2.2.2.2.1 y168.2.2.2.2.2.1 true false) else (spec_shValue_l0 k a1 K0 n (IntKind.i64.wrap (v15 + 1)) y168.1 y168.2.1 y168.2.2.1 y168.2.2.2.1 y168.2.2.2.2.1 y168.2.2.2.2.2.1 false false)))))) else (K0 v16 v17 v18 v19 v20 v21 false false))))
set_option maxRecDepth 100000 in
theorem spec_shValue_l0_ct {k : Nat} {a1 : ByteArray} {K0 : Int → Int → Int → Int → Int → Int → Bool → Bool → Option (Int × Int)} {r : Int × Int} : ∀ (n : Nat) (v15 : Int) (v16 : Int) (v17 : Int) (v18 : Int) (v19 : Int) (v20 : Int) (v21 : Int) (v22 : Bool) (v24 : Bool), spec_shValue_l0 k a1 K0 n v15 v16 v17 v18 v19 v20 v21 v22 v24 = some r → LoopOk prog 0 (lp f217 0) (mk 20 [(0, .d (D.str a1)), (2, .ptr 128 0), (3, .ptr 192 0), (4, .d (D.int .i64 v15))] [(128, .box 118 [.d (D.int .i64 0), .d (D.int .i64 0)]), (192, .box 206 [.d (D.int .i64 v16), .d (D.int .i64 v17), .d (D.int .i64 v18), .d (D.int .i64 v19), .d (D.int .i64 v20), .d (D.int .i64 v21), .d (D.bool v24), .d (D.bool v22)])]) (LoopEnd prog f217 0 20 (.agg [.d (D.int .i64 r.1), .d (D.int .i64 r.2)]) (⟨[], []⟩) (fun i ts os => (i = 0 ∧ ∃ v45 : Int, ∃ v46 : Int, ∃ v47 : Int, ∃ v48 : Int, ∃ v49 : Int, ∃ v50 : Int, ∃ v51 : Bool, ∃ v52 : Bool, K0 v45 v46 v47 v48 v49 v50 v51 v52 = some r ∧ ts = [(2, .ptr 128 0), (3, .ptr 192 0)] ∧ os = [(128, .box 118 [.d (D.int .i64 0), .d (D.int .i64 0)]), (192, .box 206 [.d (D.int .i64 v45), .d (D.int .i64 v46), .d (D.int .i64 v47), .d (D.int .i64 v48), .d (D.int .i64 v49), .d (D.int .i64 v50), .d (D.bool v51), .d (D.bool v52)])])))
  | 0, _, _, _, _, _, _, _, _, _, h => by
      rw [spec_shValue_l0] at h; cases h
  | n + 1, v15, v16, v17, v18, v19, v20, v21, v22, v24, h => by
      rw [spec_shValue_l0] at h
      cases v22
      · replace h := condF h
        cases v24
        · replace h := condF h
          refine LoopOk.step ?_
          conv => whnf
          refine splD (fun g158 => ?_) (fun g158 => ?_)
          · replace h := iteP h g158
            conv => whnf
            refine splF ?_
            conv => whnf
            refine splF ?_
            conv => whnf
            obtain ⟨g160, b159, e161, h⟩ := byteD_ex h
            refine Req.of g160 ?_
            refine Byte.of _ e161 ?_
            conv => whnf
            refine splD (fun g162 => ?_) (fun g162 => ?_)
            · replace h := iteP h g162
              conv => whnf
              refine Pick.no ?_
              conv => whnf
              obtain ⟨y163, e164, h⟩ := bind_ex h
              refine CallOk.of (spec_shWalk_step_ct e164) ?_
              conv => whnf
              refine spl (fun g165 => ?_) (fun g165 => ?_)
              · replace h := iteT h g165
                conv => whnf
                refine spl (fun g166 => ?_) (fun g166 => ?_)
                · replace h := iteT h g166
                  conv => whnf
                  refine CutK.go ?_
                  conv => whnf
                  exact LoopOk.back (spec_shValue_l0_ct  n _ _ _ _ _ _ _ _ _ h) [some 128, some 192] [] ⟨⟨rfl, rfl⟩, ⟨rfl, ⟨rfl, rfl, rfl, trivial⟩, ⟨rfl, rfl, rfl, rfl, rfl, rfl, rfl, rfl, rfl, trivial⟩, trivial⟩, rfl, ⟨rfl, rfl⟩, ⟨rfl, rfl⟩, rfl, trivial⟩
                · replace h := iteF h g166
                  conv => whnf
                  refine CutK.go ?_
                  conv => whnf
                  exact LoopOk.back (spec_shValue_l0_ct  n _ _ _ _ _ _ _ _ _ h) [some 128, some 192] [] ⟨⟨rfl, rfl⟩, ⟨rfl, ⟨rfl, rfl, rfl, trivial⟩, ⟨rfl, rfl, rfl, rfl, rfl, rfl, rfl, rfl, rfl, trivial⟩, trivial⟩, rfl, ⟨rfl, rfl⟩, ⟨rfl, rfl⟩, rfl, trivial⟩
              · replace h := iteF h g165
                conv => whnf
                refine spl (fun g167 => ?_) (fun g167 => ?_)
                · replace h := iteT h g167
                  conv => whnf
                  refine CutK.go ?_
                  conv => whnf
                  exact LoopOk.back (spec_shValue_l0_ct  n _ _ _ _ _ _ _ _ _ h) [some 128, some 192] [] ⟨⟨rfl, rfl⟩, ⟨rfl, ⟨rfl, rfl, rfl, trivial⟩, ⟨rfl, rfl, rfl, rfl, rfl, rfl, rfl, rfl, rfl, trivial⟩, trivial⟩, rfl, ⟨rfl, rfl⟩, ⟨rfl, rfl⟩, rfl, trivial⟩
                · replace h := iteF h g167
                  conv => whnf
                  refine CutK.go ?_
                  conv => whnf
                  exact LoopOk.back (spec_shValue_l0_ct  n _ _ _ _ _ _ _ _ _ h) [some 128, some 192] [] ⟨⟨rfl, rfl⟩, ⟨rfl, ⟨rfl, rfl, rfl, trivial⟩, ⟨rfl, rfl, rfl, rfl, rfl, rfl, rfl, rfl, rfl, trivial⟩, trivial⟩, rfl, ⟨rfl, rfl⟩, ⟨rfl, rfl⟩, rfl, trivial⟩
            · replace h := iteN h g162
              conv => whnf
              refine Pick.no ?_
              conv => whnf
              obtain ⟨y168, e169, h⟩ := bind_ex h
              refine CallOk.of (spec_shWalk_step_ct e169) ?_
              conv => whnf
              refine spl (fun g170 => ?_) (fun g170 => ?_)
              · replace h := iteT h g170
                conv => whnf
                refine spl (fun g171 => ?_) (fun g171 => ?_)
                · replace h := iteT h g171
                  conv => whnf
                  refine CutK.go ?_
                  conv => whnf
                  exact LoopOk.back (spec_shValue_l0_ct  n _ _ _ _ _ _ _ _ _ h) [some 128, some 192] [] ⟨⟨rfl, rfl⟩, ⟨rfl, ⟨rfl, rfl, rfl, trivial⟩, ⟨rfl, rfl, rfl, rfl, rfl, rfl, rfl, rfl, rfl, trivial⟩, trivial⟩, rfl, ⟨rfl, rfl⟩, ⟨rfl, rfl⟩, rfl, trivial⟩
                · replace h := iteF h g171
                  conv => whnf
                  refine CutK.go ?_
                  conv => whnf
                  exact LoopOk.back (spec_shValue_l0_ct  n _ _ _ _ _ _ _ _ _ h) [some 128, some 192] [] ⟨⟨rfl, rfl⟩, ⟨rfl, ⟨rfl, rfl, rfl, trivial⟩, ⟨rfl, rfl, rfl, rfl, rfl, rfl, rfl, rfl, rfl, trivial⟩, trivial⟩, rfl, ⟨rfl, rfl⟩, ⟨rfl, rfl⟩, rfl, trivial⟩
              · replace h := iteF h g170
                conv => whnf
                refine spl (fun g172 => ?_) (fun g172 => ?_)
                · replace h := iteT h g172
                  conv => whnf
                  refine CutK.go ?_
                  conv => whnf
                  exact LoopOk.back (spec_shValue_l0_ct  n _ _ _ _ _ _ _ _ _ h) [some 128, some 192] [] ⟨⟨rfl, rfl⟩, ⟨rfl, ⟨rfl, rfl, rfl, trivial⟩, ⟨rfl, rfl, rfl, rfl, rfl, rfl, rfl, rfl, rfl, trivial⟩, trivial⟩, rfl, ⟨rfl, rfl⟩, ⟨rfl, rfl⟩, rfl, trivial⟩
                · replace h := iteF h g172
                  conv => whnf
                  refine CutK.go ?_
                  conv => whnf
                  exact LoopOk.back (spec_shValue_l0_ct  n _ _ _ _ _ _ _ _ _ h) [some 128, some 192] [] ⟨⟨rfl, rfl⟩, ⟨rfl, ⟨rfl, rfl, rfl, trivial⟩, ⟨rfl, rfl, rfl, rfl, rfl, rfl, rfl, rfl, rfl, trivial⟩, trivial⟩, rfl, ⟨rfl, rfl⟩, ⟨rfl, rfl⟩, rfl, trivial⟩
          · replace h := iteN h g158
            conv => whnf
            exact ⟨_, _, [some 128, some 192], [], ⟨rfl, _, _, _, _, _, _, _, _, h, rfl, rfl⟩, ⟨⟨rfl, rfl⟩, ⟨rfl, ⟨rfl, rfl, rfl, trivial⟩, ⟨rfl, rfl, rfl, rfl, rfl, rfl, rfl, rfl, rfl, trivial⟩, trivial⟩, ⟨rfl, rfl⟩, ⟨rfl, rfl⟩, trivial⟩⟩
        · replace h := condT h
          refine LoopOk.step ?_
          conv => whnf
          refine splD (fun g173 => ?_) (fun g173 => ?_)
          · replace h := iteP h g173
            conv => whnf
            refine splT ?_
            conv => whnf
            refine splF ?_
            conv => whnf
            obtain ⟨g175, b174, e176, h⟩ := byteD_ex h
            refine Req.of g175 ?_
            refine Byte.of _ e176 ?_
            conv => whnf
            refine splD (fun g177 => ?_) (fun g177 => ?_)
            · replace h := iteP h g177
              conv => whnf
              refine Pick.no ?_
              conv => whnf
              obtain ⟨y178, e179, h⟩ := bind_ex h
              refine CallOk.of (spec_shWalk_step_ct e179) ?_
              conv => whnf
              refine spl (fun g180 => ?_) (fun g180 => ?_)
              · replace h := iteT h g180
                conv => whnf
                refine spl (fun g181 => ?_) (fun g181 => ?_)
                · replace h := iteT h g181
                  conv => whnf
                  refine CutK.go ?_
                  conv => whnf
                  exact LoopOk.back (spec_shValue_l0_ct  n _ _ _ _ _ _ _ _ _ h) [some 128, some 192] [] ⟨⟨rfl, rfl⟩, ⟨rfl, ⟨rfl, rfl, rfl, trivial⟩, ⟨rfl, rfl, rfl, rfl, rfl, rfl, rfl, rfl, rfl, trivial⟩, trivial⟩, rfl, ⟨rfl, rfl⟩, ⟨rfl, rfl⟩, rfl, trivial⟩
                · replace h := iteF h g181
                  conv => whnf
                  refine CutK.go ?_
                  conv => whnf
                  exact LoopOk.back (spec_shValue_l0_ct  n _ _ _ _ _ _ _ _ _ h) [some 128, some 192] [] ⟨⟨rfl, rfl⟩, ⟨rfl, ⟨rfl, rfl, rfl, trivial⟩, ⟨rfl, rfl, rfl, rfl, rfl, rfl, rfl, rfl, rfl, trivial⟩, trivial⟩, rfl, ⟨rfl, rfl⟩, ⟨rfl, rfl⟩, rfl, trivial⟩
              · replace h := iteF h g180
                conv => whnf
                refine spl (fun g182 => ?_) (fun g182 => ?_)
                · replace h := iteT h g182
                  conv => whnf
                  refine CutK.go ?_
                  conv => whnf
                  exact LoopOk.back (spec_shValue_l0_ct  n _ _ _ _ _ _ _ _ _ h) [some 128, some 192] [] ⟨⟨rfl, rfl⟩, ⟨rfl, ⟨rfl, rfl, rfl, trivial⟩, ⟨rfl, rfl, rfl, rfl, rfl, rfl, rfl, rfl, rfl, trivial⟩, trivial⟩, rfl, ⟨rfl, rfl⟩, ⟨rfl, rfl⟩, rfl, trivial⟩
                · replace h := iteF h g182
                  conv => whnf
                  refine CutK.go ?_
                  conv => whnf
                  exact LoopOk.back (spec_shValue_l0_ct  n _ _ _ _ _ _ _ _ _ h) [some 128, some 192] [] ⟨⟨rfl, rfl⟩, ⟨rfl, ⟨rfl, rfl, rfl, trivial⟩, ⟨rfl, rfl, rfl, rfl, rfl, rfl, rfl, rfl, rfl, trivial⟩, trivial⟩, rfl, ⟨rfl, rfl⟩, ⟨rfl, rfl⟩, rfl, trivial⟩
            · replace h := iteN h g177
              conv => whnf
              refine Pick.no ?_
              conv => whnf
              obtain ⟨y183, e184, h⟩ := bind_ex h
              refine CallOk.of (spec_shWalk_step_ct e184) ?_
              conv => whnf
              refine spl (fun g185 => ?_) (fun g185 => ?_)
              · replace h := iteT h g185
                conv => whnf
                refine spl (fun g186 => ?_) (fun g186 => ?_)
                · replace h := iteT h g186
                  conv => whnf
                  refine CutK.go ?_
                  conv => whnf
                  exact LoopOk.back (spec_shValue_l0_ct  n _ _ _ _ _ _ _ _ _ h) [some 128, some 192] [] ⟨⟨rfl, rfl⟩, ⟨rfl, ⟨rfl, rfl, rfl, trivial⟩, ⟨rfl, rfl, rfl, rfl, rfl, rfl, rfl, rfl, rfl, trivial⟩, trivial⟩, rfl, ⟨rfl, rfl⟩, ⟨rfl, rfl⟩, rfl, trivial⟩
                · replace h := iteF h g186
                  conv => whnf
                  refine CutK.go ?_
                  conv => whnf
                  exact LoopOk.back (spec_shValue_l0_ct  n _ _ _ _ _ _ _ _ _ h) [some 128, some 192] [] ⟨⟨rfl, rfl⟩, ⟨rfl, ⟨rfl, rfl, rfl, trivial⟩, ⟨rfl, rfl, rfl, rfl, rfl, rfl, rfl, rfl, rfl, trivial⟩, trivial⟩, rfl, ⟨rfl, rfl⟩, ⟨rfl, rfl⟩, rfl, trivial⟩
              · replace h := iteF h g185
                conv => whnf
                refine spl (fun g187 => ?_) (fun g187 => ?_)
                · replace h := iteT h g187
                  conv => whnf
                  refine CutK.go ?_
                  conv => whnf
                  exact LoopOk.back (spec_shValue_l0_ct  n _ _ _ _ _ _ _ _ _ h) [some 128, some 192] [] ⟨⟨rfl, rfl⟩, ⟨rfl, ⟨rfl, rfl, rfl, trivial⟩, ⟨rfl, rfl, rfl, rfl, rfl, rfl, rfl, rfl, rfl, trivial⟩, trivial⟩, rfl, ⟨rfl, rfl⟩, ⟨rfl, rfl⟩, rfl, trivial⟩
                · replace h := iteF h g187
                  conv => whnf
                  refine CutK.go ?_
                  conv => whnf
                  exact LoopOk.back (spec_shValue_l0_ct  n _ _ _ _ _ _ _ _ _ h) [some 128, some 192] [] ⟨⟨rfl, rfl⟩, ⟨rfl, ⟨rfl, rfl, rfl, trivial⟩, ⟨rfl, rfl, rfl, rfl, rfl, rfl, rfl, rfl, rfl, trivial⟩, trivial⟩, rfl, ⟨rfl, rfl⟩, ⟨rfl, rfl⟩, rfl, trivial⟩
          · replace h := iteN h g173
            conv => whnf
            exact ⟨_, _, [some 128, some 192], [], ⟨rfl, _, _, _, _, _, _, _, _, h, rfl, rfl⟩, ⟨⟨rfl, rfl⟩, ⟨rfl, ⟨rfl, rfl, rfl, trivial⟩, ⟨rfl, rfl, rfl, rfl, rfl, rfl, rfl, rfl, rfl, trivial⟩, trivial⟩, ⟨rfl, rfl⟩, ⟨rfl, rfl⟩, trivial⟩⟩
      · replace h := condT h
        cases v24
        · replace h := condF h
          refine LoopOk.step ?_
          conv => whnf
          refine splD (fun g188 => ?_) (fun g188 => ?_)
          · replace h := iteP h g188
            conv => whnf
            refine splF ?_
            conv => whnf
            refine splT ?_
            conv => whnf
            obtain ⟨g190, b189, e191, h⟩ := byteD_ex h
            refine Req.of g190 ?_
            refine Byte.of _ e191 ?_
            conv => whnf
            refine splD (fun g192 => ?_) (fun g192 => ?_)
            · replace h := iteP h g192
              conv => whnf
              refine Pick.no ?_
              conv => whnf
              obtain ⟨y193, e194, h⟩ := bind_ex h
              refine CallOk.of (spec_shWalk_step_ct e194) ?_
              conv => whnf
              refine spl (fun g195 => ?_) (fun g195 => ?_)
              · replace h := iteT h g195
                conv => whnf
                refine spl (fun g196 => ?_) (fun g196 => ?_)
                · replace h := iteT h g196
                  conv => whnf
                  refine CutK.go ?_
                  conv => whnf
                  exact LoopOk.back (spec_shValue_l0_ct  n _ _ _ _ _ _ _ _ _ h) [some 128, some 192] [] ⟨⟨rfl, rfl⟩, ⟨rfl, ⟨rfl, rfl, rfl, trivial⟩, ⟨rfl, rfl, rfl, rfl, rfl, rfl, rfl, rfl, rfl, trivial⟩, trivial⟩, rfl, ⟨rfl, rfl⟩, ⟨rfl, rfl⟩, rfl, trivial⟩
                · replace h := iteF h g196
                  conv => whnf
                  refine CutK.go ?_
                  conv => whnf
                  exact LoopOk.back (spec_shValue_l0_ct  n _ _ _ _ _ _ _ _ _ h) [some 128, some 192] [] ⟨⟨rfl, rfl⟩, ⟨rfl, ⟨rfl, rfl, rfl, trivial⟩, ⟨rfl, rfl, rfl, rfl, rfl, rfl, rfl, rfl, rfl, trivial⟩, trivial⟩, rfl, ⟨rfl, rfl⟩, ⟨rfl, rfl⟩, rfl, trivial⟩
              · replace h := iteF h g195
                conv => whnf
                refine spl (fun g197 => ?_) (fun g197 => ?_)
                · replace h := iteT h g197
                  conv => whnf
                  refine CutK.go ?_
                  conv => whnf
                  exact LoopOk.back (spec_shValue_l0_ct  n _ _ _ _ _ _ _ _ _ h) [some 128, some 192] [] ⟨⟨rfl, rfl⟩, ⟨rfl, ⟨rfl, rfl, rfl, trivial⟩, ⟨rfl, rfl, rfl, rfl, rfl, rfl, rfl, rfl, rfl, trivial⟩, trivial⟩, rfl, ⟨rfl, rfl⟩, ⟨rfl, rfl⟩, rfl, trivial⟩
                · replace h := iteF h g197
                  conv => whnf
                  refine CutK.go ?_
                  conv => whnf
                  exact LoopOk.back (spec_shValue_l0_ct  n _ _ _ _ _ _ _ _ _ h) [some 128, some 192] [] ⟨⟨rfl, rfl⟩, ⟨rfl, ⟨rfl, rfl, rfl, trivial⟩, ⟨rfl, rfl, rfl, rfl, rfl, rfl, rfl, rfl, rfl, trivial⟩, trivial⟩, rfl, ⟨rfl, rfl⟩, ⟨rfl, rfl⟩, rfl, trivial⟩
            · replace h := iteN h g192
              conv => whnf
              refine Pick.no ?_
              conv => whnf
              obtain ⟨y198, e199, h⟩ := bind_ex h
              refine CallOk.of (spec_shWalk_step_ct e199) ?_
              conv => whnf
              refine spl (fun g200 => ?_) (fun g200 => ?_)
              · replace h := iteT h g200
                conv => whnf
                refine spl (fun g201 => ?_) (fun g201 => ?_)
                · replace h := iteT h g201
                  conv => whnf
                  refine CutK.go ?_
                  conv => whnf
                  exact LoopOk.back (spec_shValue_l0_ct  n _ _ _ _ _ _ _ _ _ h) [some 128, some 192] [] ⟨⟨rfl, rfl⟩, ⟨rfl, ⟨rfl, rfl, rfl, trivial⟩, ⟨rfl, rfl, rfl, rfl, rfl, rfl, rfl, rfl, rfl, trivial⟩, trivial⟩, rfl, ⟨rfl, rfl⟩, ⟨rfl, rfl⟩, rfl, trivial⟩
                · replace h := iteF h g201
                  conv => whnf
                  refine CutK.go ?_
                  conv => whnf
                  exact LoopOk.back (spec_shValue_l0_ct  n _ _ _ _ _ _ _ _ _ h) [some 128, some 192] [] ⟨⟨rfl, rfl⟩, ⟨rfl, ⟨rfl, rfl, rfl, trivial⟩, ⟨rfl, rfl, rfl, rfl, rfl, rfl, rfl, rfl, rfl, trivial⟩, trivial⟩, rfl, ⟨rfl, rfl⟩, ⟨rfl, rfl⟩, rfl, trivial⟩
              · replace h := iteF h g200
                conv => whnf
                refine spl (fun g202 => ?_) (fun g202 => ?_)
                · replace h := iteT h g202
                  conv => whnf
                  refine CutK.go ?_
                  conv => whnf
                  exact LoopOk.back (spec_shValue_l0_ct  n _ _ _ _ _ _ _ _ _ h) [some 128, some 192] [] ⟨⟨rfl, rfl⟩, ⟨rfl, ⟨rfl, rfl, rfl, trivial⟩, ⟨rfl, rfl, rfl, rfl, rfl, rfl, rfl, rfl, rfl, trivial⟩, trivial⟩, rfl, ⟨rfl, rfl⟩, ⟨rfl, rfl⟩, rfl, trivial⟩
                · replace h := iteF h g202
                  conv => whnf
                  refine CutK.go ?_
                  conv => whnf
                  exact LoopOk.back (spec_shValue_l0_ct  n _ _ _ _ _ _ _ _ _ h) [some 128, some 192] [] ⟨⟨rfl, rfl⟩, ⟨rfl, ⟨rfl, rfl, rfl, trivial⟩, ⟨rfl, rfl, rfl, rfl, rfl, rfl, rfl, rfl, rfl, trivial⟩, trivial⟩, rfl, ⟨rfl, rfl⟩, ⟨rfl, rfl⟩, rfl, trivial⟩
          · replace h := iteN h g188
            conv => whnf
            exact ⟨_, _, [some 128, some 192], [], ⟨rfl, _, _, _, _, _, _, _, _, h, rfl, rfl⟩, ⟨⟨rfl, rfl⟩, ⟨rfl, ⟨rfl, rfl, rfl, trivial⟩, ⟨rfl, rfl, rfl, rfl, rfl, rfl, rfl, rfl, rfl, trivial⟩, trivial⟩, ⟨rfl, rfl⟩, ⟨rfl, rfl⟩, trivial⟩⟩
        · replace h := condT h
          refine LoopOk.step ?_
          conv => whnf
          refine splD (fun g203 => ?_) (fun g203 => ?_)
          · replace h := iteP h g203
            conv => whnf
            refine splT ?_
            conv => whnf
            refine splT ?_
            conv => whnf
            obtain ⟨g205, b204, e206, h⟩ := byteD_ex h
            refine Req.of g205 ?_
            refine Byte.of _ e206 ?_
            conv => whnf
            refine splD (fun g207 => ?_) (fun g207 => ?_)
            · replace h := iteP h g207
              conv => whnf
              refine Pick.no ?_
              conv => whnf
              obtain ⟨y208, e209, h⟩ := bind_ex h
              refine CallOk.of (spec_shWalk_step_ct e209) ?_
              conv => whnf
              refine spl (fun g210 => ?_) (fun g210 => ?_)
              · replace h := iteT h g210
                conv => whnf
                refine spl (fun g211 => ?_) (fun g211 => ?_)
                · replace h := iteT h g211
                  conv => whnf
                  refine CutK.go ?_
                  conv => whnf
                  exact LoopOk.back (spec_shValue_l0_ct  n _ _ _ _ _ _ _ _ _ h) [some 128, some 192] [] ⟨⟨rfl, rfl⟩, ⟨rfl, ⟨rfl, rfl, rfl, trivial⟩, ⟨rfl, rfl, rfl, rfl, rfl, rfl, rfl, rfl, rfl, trivial⟩, trivial⟩, rfl, ⟨rfl, rfl⟩, ⟨rfl, rfl⟩, rfl, trivial⟩
                · replace h := iteF h g211
                  conv => whnf
                  refine CutK.go ?_
                  conv => whnf
                  exact LoopOk.back (spec_shValue_l0_ct  n _ _ _ _ _ _ _ _ _ h) [some 128, some 192] [] ⟨⟨rfl, rfl⟩, ⟨rfl, ⟨rfl, rfl, rfl, trivial⟩, ⟨rfl, rfl, rfl, rfl, rfl, rfl, rfl, rfl, rfl, trivial⟩, trivial⟩, rfl, ⟨rfl, rfl⟩, ⟨rfl, rfl⟩, rfl, trivial⟩
              · replace h := iteF h g210
                conv => whnf
                refine spl (fun g212 => ?_) (fun g212 => ?_)
                · replace h := iteT h g212
                  conv => whnf
                  refine CutK.go ?_
                  conv => whnf
                  exact LoopOk.back (spec_shValue_l0_ct  n _ _ _ _ _ _ _ _ _ h) [some 128, some 192] [] ⟨⟨rfl, rfl⟩, ⟨rfl, ⟨rfl, rfl, rfl, trivial⟩, ⟨rfl, rfl, rfl, rfl, rfl, rfl, rfl, rfl, rfl, trivial⟩, trivial⟩, rfl, ⟨rfl, rfl⟩, ⟨rfl, rfl⟩, rfl, trivial⟩
                · replace h := iteF h g212
                  conv => whnf
                  refine CutK.go ?_
                  conv => whnf
                  exact LoopOk.back (spec_shValue_l0_ct  n _ _ _ _ _ _ _ _ _ h) [some 128, some 192] [] ⟨⟨rfl, rfl⟩, ⟨rfl, ⟨rfl, rfl, rfl, trivial⟩, ⟨rfl, rfl, rfl, rfl, rfl, rfl, rfl, rfl, rfl, trivial⟩, trivial⟩, rfl, ⟨rfl, rfl⟩, ⟨rfl, rfl⟩, rfl, trivial⟩
            · replace h := iteN h g207
              conv => whnf
              refine Pick.no ?_
              conv => whnf
              obtain ⟨y213, e214, h⟩ := bind_ex h
              refine CallOk.of (spec_shWalk_step_ct e214) ?_
              conv => whnf
              refine spl (fun g215 => ?_) (fun g215 => ?_)
              · replace h := iteT h g215
                conv => whnf
                refine spl (fun g216 => ?_) (fun g216 => ?_)
                · replace h := iteT h g216
                  conv => whnf
                  refine CutK.go ?_
                  conv => whnf
                  exact LoopOk.back (spec_shValue_l0_ct  n _ _ _ _ _ _ _ _ _ h) [some 128, some 192] [] ⟨⟨rfl, rfl⟩, ⟨rfl, ⟨rfl, rfl, rfl, trivial⟩, ⟨rfl, rfl, rfl, rfl, rfl, rfl, rfl, rfl, rfl, trivial⟩, trivial⟩, rfl, ⟨rfl, rfl⟩, ⟨rfl, rfl⟩, rfl, trivial⟩
                · replace h := iteF h g216
                  conv => whnf
                  refine CutK.go ?_
                  conv => whnf
                  exact LoopOk.back (spec_shValue_l0_ct  n _ _ _ _ _ _ _ _ _ h) [some 128, some 192] [] ⟨⟨rfl, rfl⟩, ⟨rfl, ⟨rfl, rfl, rfl, trivial⟩, ⟨rfl, rfl, rfl, rfl, rfl, rfl, rfl, rfl, rfl, trivial⟩, trivial⟩, rfl, ⟨rfl, rfl⟩, ⟨rfl, rfl⟩, rfl, trivial⟩
              · replace h := iteF h g215
                conv => whnf
                refine spl (fun g217 => ?_) (fun g217 => ?_)
                · replace h := iteT h g217
                  conv => whnf
                  refine CutK.go ?_
                  conv => whnf
                  exact LoopOk.back (spec_shValue_l0_ct  n _ _ _ _ _ _ _ _ _ h) [some 128, some 192] [] ⟨⟨rfl, rfl⟩, ⟨rfl, ⟨rfl, rfl, rfl, trivial⟩, ⟨rfl, rfl, rfl, rfl, rfl, rfl, rfl, rfl, rfl, trivial⟩, trivial⟩, rfl, ⟨rfl, rfl⟩, ⟨rfl, rfl⟩, rfl, trivial⟩
                · replace h := iteF h g217
                  conv => whnf
                  refine CutK.go ?_
                  conv => whnf
                  exact LoopOk.back (spec_shValue_l0_ct  n _ _ _ _ _ _ _ _ _ h) [some 128, some 192] [] ⟨⟨rfl, rfl⟩, ⟨rfl, ⟨rfl, rfl, rfl, trivial⟩, ⟨rfl, rfl, rfl, rfl, rfl, rfl, rfl, rfl, rfl, trivial⟩, trivial⟩, rfl, ⟨rfl, rfl⟩, ⟨rfl, rfl⟩, rfl, trivial⟩
          · replace h := iteN h g203
            conv => whnf
            exact ⟨_, _, [some 128, some 192], [], ⟨rfl, _, _, _, _, _, _, _, _, h, rfl, rfl⟩, ⟨⟨rfl, rfl⟩, ⟨rfl, ⟨rfl, rfl, rfl, trivial⟩, ⟨rfl, rfl, rfl, rfl, rfl, rfl, rfl, rfl, rfl, trivial⟩, trivial⟩, ⟨rfl, rfl⟩, ⟨rfl, rfl⟩, trivial⟩⟩
def spec_shValue_l0_2 (k : Nat) (a1 : ByteArray) (K0 : Int → Int → Int → Int → Int → Int → Bool → Bool → Option (Int × Int)) : Nat → Int → Int → Int → Int → Int → Int → Int → Bool → Bool → Option (Int × Int)
  | 0, _, _, _, _, _, _, _, _, _ => none
  | n + 1, v227, v228, v229, v230, v231, v232, v233, v234, v236 => (cond v234 (cond v236 (if v227 < (a1.size : Int) then (byteD a1 v227 fun b416 => (if (b416.toNat : Int) = (43 : Int) then ((spec_shWalk_step k v228 v229 v230 v231 v232 v233 true true true).bind fun y420 => (if y420.2.2.2.2.2.2.1 = true then (if y420.2.2.2.2.2.2.2 = true then (spec_shValue_l0_2 k a1 K0 n (IntKind.i64.wrap (v227 + 1)) y420.1 y420.2.1 y420.2.2.1 y420.2.2.2.1 y420.2.2.2.2.1 y420.2.2.2.2.2.1 true true) else (spec_shValue_l0_2 k a1 K0 n (IntKind.i64.wrap (v227 + 1)) y420.1 y420.2.1 y420.2.2.1 y420.2.2.2.1 y420.2.2.2.2.1 y420.2.2.2.2.2.1 false true)) else (if y420.2.2.2.2.2.2.2 = true then (spec_shValue_l0_2 k a1 K0 n (IntKind.i64.wrap (v227 + 1)) y420.1 y420.2.1 y420.2.2.1 y420.2.2.2.1 y420.2.2.2.2.1 y420.2.2.2.2.2.1 true false) else (spec_shValue_l0_2 k a1 K0 n (IntKind.i64.wrap (v227 + 1)) y420.1 y420.2.1 y420.2.2.1 y420.2.2.2.1 y420.2.2.2.2.1 y420.2.2.2.2.2.1 false false)))) else ((spec_shWalk_step k v228 v229 v230 v231 v232 v233 true true false).bind fun y425 => (if y425.2.2.2.2.2.2.1 = true then (if y425.2.2.2.2.2.2.2 = true then (spec_shValue_l0_2 k a1 K0 n (IntKind.i64.wrap (v227 + 1)) y425.1 y425.2.1 y425.2.2.1 y425.2.2.2.1 y425.2.2.2.2.1 y425.2.2.2.2.2.1 true true) else (spec_shValue_l0_2 k a1 K0 n (IntKind.i64.wrap (v227 + 1)) y425.1 y425.2.1 y425.2.2.1 y425.2.2.2.1 y425.2.2.2.2.1 y425.2.2.2.2.2.1 false true)) else (if y425.2.2.2.2.2.2.2 = true then (spec_shValue_l0_2 k a1 K0 n (IntKind.i64.wrap (v227 + 1)) y425.1 y425.2.1 y425.2.2.1 y425.2.2.2.1 y425.2.2.2.2.1 y425.2.2.2.2.2.1 true false) else (spec_shValue_l0_2 k a1 K0 n (IntKind.i64.wrap (v227 + 1)) y425.1 y425.2.1 y425.2.2.1 y425.2.2.2.1 y425.2.2.2.2.1 y425.2.2.2.2.2.1 false false)))))) else (K0 v228 v229 v230 v231 v232 v233 true true)) (if v227 < (a1.size : Int) then (byteD a1 v227 fun b401 => (if (b401.toNat : Int) = (43 : Int) then ((spec_shWalk_step k v228 v229 v230 v231 v232 v233 false true true).bind fun y405 => (if y405.2.2.2.2.2.2.1 = true then (if y405.2.2.2.2.2.2.2 = true then (spec_shValue_l0_2 k a1 K0 n (IntKind.i64.wrap (v227 + 1)) y405.1 y405.2.1 y405.2.2.1 y405.2.2.2.1 y405.2.2.2.2.1 y405.2.2.2.2.2.1 true true) else (spec_shValue_l0_2 k a1 K0 n (IntKind.i64.wrap (v227 + 1)) y405.1 y405.2.1 y405.2.2.1 y405.2.2.2.1 y405.2.2.2.2.1 y405.2.2.2.2.2.1 false true)) else (if y405.2.2.2.2.2.2.2 = true then (spec_shValue_l0_2 k a1 K0 n (IntKind.i64.wrap (v227 + 1)) y405.1 y405.2.1 y405.2.2.1 y405.2.2.2.1 y405.2.2.2.2.1 y405.2.2.2.2.2.1 true false) else (spec_shValue_l0_2 k a1 K0 n (IntKind.i64.wrap (v227 + 1)) y405.1 y405.2.1 y405.2.2.1 y405.2.2.2.1 y405.2.2.2.2.1 y405.2.2.2.2.2.1 false false)))) else ((spec_shWalk_step k v228 v229 v230 v231 v232 v233 false true false).bind fun y410 => (if y410.2.2.2.2.2.2.1 = true then (if y410.2.2.2.2.2.2.2 = true then (spec_shValue_l0_2 k a1 K0 n (IntKind.i64.wrap (v227 + 1)) y410.1 y410.2.1 y410.2.2.1 y410.2.2.2.1 y410.2.2.2.2.1 y410.2.2.2.2.2.1 true true) else (spec_shValue_l0_2 k a1 K0 n (IntKind.i64.wrap (v227 + 1)) y410.1 y410.2.1 y410.2.2.1 y410.2.2.2.1 y410.2.2.2.2.1 y410.2.2.2.2.2.1 false true)) else (if y410.2.2.2.2.2.2.2 = true then (spec_shValue_l0_2 k a1 K0 n (IntKind.i64.wrap (v227 + 1)) y410.1 y410.2.1 y410.2.2.1 y410.2.2.2.1 y410.2.2.2.2.1 y410.2.2.2.2.2.1 true false) else (spec_shValue_l0_2 k a1 K0 n (IntKind.i64.wrap (v227 + 1)) y410.1 y410.2.1 y410.2.2.1 y410.2.2.2.1 y410.2.2.2.2.1 y410.2.2.2.2.2.1 false false)))))) else (K0 v228 v229 v230 v231 v232 v233 false true))) (cond v236 (if v227 < (a1.size : Int) then (byteD a1 v227 fun b386 => (if (b386.toNat : Int) = (43 : Int) then ((spec_shWalk_step k v228 v229 v230 v231 v232 v233 true false true).bind fun y390 => (if y390.2.2.2.2.2.2.1 = true then (if y390.2.2.2.2.2.2.2 = true then (spec_shValue_l0_2 k a1 K0 n (IntKind.i64.wrap (v227 + 1)) y390.1 y390.2.1 y390.2.2.1 y390.2.2.2.1 y390.2.2.2.2.1 y390.2.2.2.2.2.1 true true) else (spec_shValue_l0_2 k a1 K0 n (IntKind.i64.wrap (v227 + 1)) y390.1 y390.2.1 y390.2.2.1 y390.2.2.2.1 y390.2.2.2.2.1 y390.2.2.2.2.2.1 false true)) else (if y390.2.2.2.2.2.2.2 = true then (spec_shValue_l0_2 k a1 K0 n (IntKind.i64.wrap (v227 + 1)) y390.1 y390.2.1 y390.2.2.1 y390.2.2.2.1 y390.2.2.2.2.1 y390.2.2.2.2.2.1 true false) else (spec_shValue_l0_2 k a1 K0 n (IntKind.i64.wrap (v227 + 1)) y390.1 y390.2.1 y390.2.2.1 y390.2.2.2.1 y390.2.2.2.2.1 y390.2.2.2.2.2.1 false false)))) else ((spec_shWalk_step k v228 v229 v230 v231 v232 v233 true false false).bind fun y395 => (if y395.2.2.2.2.2.2.1 = true then (if y395.2.2.2.2.2.2.2 = true then (spec_shValue_l0_2 k a1 K0 n (IntKind.i64.wrap (v227 + 1)) y395.1 y395.2.1 y395.2.2.1 y395.2.2.2.1 y395.2.2.2.2.1 y395.2.2.2.2.2.1 true true) else (spec_shValue_l0_2 k a1 K0 n (IntKind.i64.wrap (v227 + 1)) y395.1 y395.2.1 y395.2.2.1 y395.2.2.2.1 y395.2.2.2.2.1 y395.2.2.2.2.2.1 false true)) else (if y395.2.2.2.2.2.2.2 = true then (spec_shValue_l0_2 k a1 K0 n (IntKind.i64.wrap (v227 + 1)) y395.1 y395.2.1 y395.2.2.1 y395.2.2.2.1 y395.2.2.2.2.1 y395.2.2.2.2.2.1 true false) else (spec_shValue_l0_2 k a1 K0 n (IntKind.i64.wrap (v227 + 1)) y395.1 y395.2.1 y395.2.2.1 y395.2.2.2.1 y395.2.2.2.2.1 y395.2.2.2.2.2.1 false false)))))) else (K0 v228 v229 v230 v231 v232 v233 true false)) (if v227 < (a1.size : Int) then (byteD a1 v227 fun b371 => (if (b371.toNat : Int) = (43 : Int) then ((spec_shWalk_step k v228 v229 v230 v231 v232 v233 false false true).bind fun y375 => (if y375.2.2.2.2.2.2.1 = true then (if y375.2.2.2.2.2.2.2 = true then (spec_shValue_l0_2 k a1 K0 n (IntKind.i64.wrap (v227 + 1)) y375.1 y375.2.1 y375.2.2.1 y375.2.2.2.1 y375.2.2.2.2.1 y375.2.2.2.2.2.1 true true) else (spec_shValue_l0_2 k a1 K0 n (IntKind.i64.wrap (v227 + 1)) y375.1 y375.2.1 y375.2.2.1 y375.2.2.2.1 y375.2.2.2.2.1 y375.2.2.2.2.2.1 false true)) else (if y375.2.2.2.2.2.2.2 = true then (spec_shValue_l0_2 k a1 K0 n (IntKind.i64.wrap (v227 + 1)) y375.1 y375.2.1 y375.2.2.1 y375.2.2.2.1 y375.2.2.2.2.1 y375.2.2.2.2.2.1 true false) else (spec_shValue_l0_2 k a1 K0 n (IntKind.i64.wrap (v227 + 1)) y375.1 y375.2.1 y375.2.2.1 y375.2.2.2.1 y375.2.2.2.2.1 y375.2.2.2.2.2.1 false false)))) else ((spec_shWalk_step k v228 v229 v230 v231 v232 v233 false false false).bind fun y380 => (if y380.2.2.2.2.2.2.1 = true then (if y380.2.2.2.2.2.2.2 = true then (spec_shValue_l0_2 k a1 K0 n (IntKind.i64.wrap (v227 + 1)) y380.1 y380.2.1 y380.2.2.1 y380.2.2.2.1 y380.2.2.2.2.1 y380.2.2.2.2.2.1 true true) else (spec_shValue_l0_2 k a1 K0 n (IntKind.i64.wrap (v227 + 1)) y380.1 y380.2.1 y380.2.2.1 y380.2.2.2.1 y380.2.2.2.2.1 y380.2.2.2.2.2.1 false true)) else (if y380.2.2.2.2.2.2.2 = true then (spec_shValue_l0_2 k a1 K0 n (IntKind.i64.wrap (v227 + 1)) y380.1 y380.2.1 y380.2.2.1 y380.2.2.2.1 y380.2.2.2.2.1 y380.2.2.2.2.2.1 true false) else (spec_shValue_l0_2 k a1 K0 n (IntKind.i64.wrap (v227 + 1)) y380.1 y380.2.1 y380.2.2.1 y380.2.2.2.1 y380.2.2.2.2.1 y380.2.2.2.2.2.1 false false)))))) else (K0 v228 v229 v230 v231 v232 v233 false false))))
set_option maxRecDepth 100000 in
theorem spec_shValue_l0_2_ct {k : Nat} {a1 : ByteArray} {K0 : Int → Int → Int → Int → Int → Int → Bool → Bool → Option (Int × Int)} {r : Int × Int} : ∀ (n : Nat) (v227 : Int) (v228 : Int) (v229 : Int) (v230 : Int) (v231 : Int) (v232 : Int) (v233 : Int) (v234 : Bool) (v236 : Bool), spec_shValue_l0_2 k a1 K0 n v227 v228 v229 v230 v231 v232 v233 v234 v236 = some r → LoopOk prog 0 (lp f217 0) (mk 20 [(0, .d (D.str a1)), (2, .ptr 128 0), (3, .ptr 192 0), (4, .d (D.int .i64 v227))] [(128, .box 118 [.d (D.int .i64 0), .d (D.int .i64 0)]), (192, .box 206 [.d (D.int .i64 v228), .d (D.int .i64 v229), .d (D.int .i64 v230), .d (D.int .i64 v231), .d (D.int .i64 v232), .d (D.int .i64 v233), .d (D.bool v236), .d (D.bool v234)])]) (LoopEnd prog f217 0 20 (.agg [.d (D.int .i64 r.1), .d (D.int .i64 r.2)]) (⟨[], []⟩) (fun i ts os => (i = 0 ∧ ∃ v257 : Int, ∃ v258 : Int, ∃ v259 : Int, ∃ v260 : Int, ∃ v261 : Int, ∃ v262 : Int, ∃ v263 : Bool, ∃ v294 : Bool, K0 v257 v258 v259 v260 v261 v262 v263 v294 = some r ∧ ts = [(2, .ptr 128 0), (3, .ptr 192 0)] ∧ os = [(128, .box 118 [.d (D.int .i64 0), .d (D.int .i64 0)]), (192, .box 206 [.d (D.int .i64 v257), .d (D.int .i64 v258), .d (D.int .i64 v259), .d (D.int .i64 v260), .d (D.int .i64 v261), .d (D.int .i64 v262), .d (D.bool v263), .d (D.bool v294)])])))
  | 0, _, _, _, _, _, _, _, _, _, h => by
      rw [spec_shValue_l0_2] at h; cases h
  | n + 1, v227, v228, v229, v230, v231, v232, v233, v234, v236, h => by
      rw [spec_shValue_l0_2] at h
      cases v234
      · replace h := condF h
        cases v236
        · replace h := condF h
          refine LoopOk.step ?_
          conv => whnf
          refine splD (fun g370 => ?_) (fun g370 => ?_)
          · replace h := iteP h g370
            conv => whnf
            refine splF ?_
            conv => whnf
            refine splF ?_
            conv => whnf
            obtain ⟨g372, b371, e373, h⟩ := byteD_ex h
            refine Req.of g372 ?_
            refine Byte.of _ e373 ?_
            conv => whnf
            refine splD (fun g374 => ?_) (fun g374 => ?_)
            · replace h := iteP h g374
              conv => whnf
              refine Pick.no ?_
              conv => whnf
              obtain ⟨y375, e376, h⟩ := bind_ex h
              refine CallOk.of (spec_shWalk_step_ct e376) ?_
              conv => whnf
              refine spl (fun g377 => ?_) (fun g377 => ?_)
              · replace h := iteT h g377
                conv => whnf
                refine spl (fun g378 => ?_) (fun g378 => ?_)
                · replace h := iteT h g378
                  conv => whnf
                  refine CutK.go ?_
                  conv => whnf
                  exact LoopOk.back (spec_shValue_l0_2_ct  n _ _ _ _ _ _ _ _ _ h) [some 128, some 192] [] ⟨⟨rfl, rfl⟩, ⟨rfl, ⟨rfl, rfl, rfl, trivial⟩, ⟨rfl, rfl, rfl, rfl, rfl, rfl, rfl, rfl, rfl, trivial⟩, trivial⟩, rfl, ⟨rfl, rfl⟩, ⟨rfl, rfl⟩, rfl, trivial⟩
                · replace h := iteF h g378
                  conv => whnf
                  refine CutK.go ?_
                  conv => whnf
                  exact LoopOk.back (spec_shValue_l0_2_ct  n _ _ _ _ _ _ _ _ _ h) [some 128, some 192] [] ⟨⟨rfl, rfl⟩, ⟨rfl, ⟨rfl, rfl, rfl, trivial⟩, ⟨rfl, rfl, rfl, rfl, rfl, rfl, rfl, rfl, rfl, trivial⟩, trivial⟩, rfl, ⟨rfl, rfl⟩, ⟨rfl, rfl⟩, rfl, trivial⟩
              · replace h := iteF h g377
                conv => whnf
                refine spl (fun g379 => ?_) (fun g379 => ?_)
                · replace h := iteT h g379
                  conv => whnf
                  refine CutK.go ?_
                  conv => whnf
                  exact LoopOk.back (spec_shValue_l0_2_ct  n _ _ _ _ _ _ _ _ _ h) [some 128, some 192] [] ⟨⟨rfl, rfl⟩, ⟨rfl, ⟨rfl, rfl, rfl, trivial⟩, ⟨rfl, rfl, rfl, rfl, rfl, rfl, rfl, rfl, rfl, trivial⟩, trivial⟩, rfl, ⟨rfl, rfl⟩, ⟨rfl, rfl⟩, rfl, trivial⟩
                · replace h := iteF h g379
                  conv => whnf
                  refine CutK.go ?_
                  conv => whnf
                  exact LoopOk.back (spec_shValue_l0_2_ct  n _ _ _ _ _ _ _ _ _ h) [some 128, some 192] [] ⟨⟨rfl, rfl⟩, ⟨rfl, ⟨rfl, rfl, rfl, trivial⟩, ⟨rfl, rfl, rfl, rfl, rfl, rfl, rfl, rfl, rfl, trivial⟩, trivial⟩, rfl, ⟨rfl, rfl⟩, ⟨rfl, rfl⟩, rfl, trivial⟩
            · replace h := iteN h g374
              conv => whnf
              refine Pick.no ?_
              conv => whnf
              obtain ⟨y380, e381, h⟩ := bind_ex h
              refine CallOk.of (spec_shWalk_step_ct e381) ?_
              conv => whnf
              refine spl (fun g382 => ?_) (fun g382 => ?_)
              · replace h := iteT h g382
                conv => whnf
                refine spl (fun g383 => ?_) (fun g383 => ?_)
                · replace h := iteT h g383
                  conv => whnf
                  refine CutK.go ?_
                  conv => whnf
                  exact LoopOk.back (spec_shValue_l0_2_ct  n _ _ _ _ _ _ _ _ _ h) [some 128, some 192] [] ⟨⟨rfl, rfl⟩, ⟨rfl, ⟨rfl, rfl, rfl, trivial⟩, ⟨rfl, rfl, rfl, rfl, rfl, rfl, rfl, rfl, rfl, trivial⟩, trivial⟩, rfl, ⟨rfl, rfl⟩, ⟨rfl, rfl⟩, rfl, trivial⟩
                · replace h := iteF h g383
                  conv => whnf
                  refine CutK.go ?_
                  conv => whnf
                  exact LoopOk.back (spec_shValue_l0_2_ct  n _ _ _ _ _ _ _ _ _ h) [some 128, some 192] [] ⟨⟨rfl, rfl⟩, ⟨rfl, ⟨rfl, rfl, rfl, trivial⟩, ⟨rfl, rfl, rfl, rfl, rfl, rfl, rfl, rfl, rfl, trivial⟩, trivial⟩, rfl, ⟨rfl, rfl⟩, ⟨rfl, rfl⟩, rfl, trivial⟩
              · replace h := iteF h g382
                conv => whnf
                refine spl (fun g384 => ?_) (fun g384 => ?_)
                · replace h := iteT h g384
                  conv => whnf
                  refine CutK.go ?_
                  conv => whnf
                  exact LoopOk.back (spec_shValue_l0_2_ct  n _ _ _ _ _ _ _ _ _ h) [some 128, some 192] [] ⟨⟨rfl, rfl⟩, ⟨rfl, ⟨rfl, rfl, rfl, trivial⟩, ⟨rfl, rfl, rfl, rfl, rfl, rfl, rfl, rfl, rfl, trivial⟩, trivial⟩, rfl, ⟨rfl, rfl⟩, ⟨rfl, rfl⟩, rfl, trivial⟩
                · replace h := iteF h g384
                  conv => whnf
                  refine CutK.go ?_
                  conv => whnf
                  exact LoopOk.back (spec_shValue_l0_2_ct  n _ _ _ _ _ _ _ _ _ h) [some 128, some 192] [] ⟨⟨rfl, rfl⟩, ⟨rfl, ⟨rfl, rfl, rfl, trivial⟩, ⟨rfl, rfl, rfl, rfl, rfl, rfl, rfl, rfl, rfl, trivial⟩, trivial⟩, rfl, ⟨rfl, rfl⟩, ⟨rfl, rfl⟩, rfl, trivial⟩
          · replace h := iteN h g370
            conv => whnf
            exact ⟨_, _, [some 128, some 192], [], ⟨rfl, _, _, _, _, _, _, _, _, h, rfl, rfl⟩, ⟨⟨rfl, rfl⟩, ⟨rfl, ⟨rfl, rfl, rfl, trivial⟩, ⟨rfl, rfl, rfl, rfl, rfl, rfl, rfl, rfl, rfl, trivial⟩, trivial⟩, ⟨rfl, rfl⟩, ⟨rfl, rfl⟩, trivial⟩⟩
        · replace h := condT h
          refine LoopOk.step ?_
          conv => whnf
          refine splD (fun g385 => ?_) (fun g385 => ?_)
          · replace h := iteP h g385
            conv => whnf
            refine splT ?_
            conv => whnf
            refine splF ?_
            conv => whnf
            obtain ⟨g387, b386, e388, h⟩ := byteD_ex h
            refine Req.of g387 ?_
            refine Byte.of _ e388 ?_
            conv => whnf
            refine splD (fun g389 => ?_) (fun g389 => ?_)
            · replace h := iteP h g389
              conv => whnf
              refine Pick.no ?_
              conv => whnf
              obtain ⟨y390, e391, h⟩ := bind_ex h
              refine CallOk.of (spec_shWalk_step_ct e391) ?_
              conv => whnf
              refine spl (fun g392 => ?_) (fun g392 => ?_)
              · replace h := iteT h g392
                conv => whnf
                refine spl (fun g393 => ?_) (fun g393 => ?_)
                · replace h := iteT h g393
                  conv => whnf
                  refine CutK.go ?_
                  conv => whnf
                  exact LoopOk.back (spec_shValue_l0_2_ct  n _ _ _ _ _ _ _ _ _ h) [some 128, some 192] [] ⟨⟨rfl, rfl⟩, ⟨rfl, ⟨rfl, rfl, rfl, trivial⟩, ⟨rfl, rfl, rfl, rfl, rfl, rfl, rfl, rfl, rfl, trivial⟩, trivial⟩, rfl, ⟨rfl, rfl⟩, ⟨rfl, rfl⟩, rfl, trivial⟩
                · replace h := iteF h g393
                  conv => whnf
                  refine CutK.go ?_
                  conv => whnf
                  exact LoopOk.back (spec_shValue_l0_2_ct  n _ _ _ _ _ _ _ _ _ h) [some 128, some 192] [] ⟨⟨rfl, rfl⟩, ⟨rfl, ⟨rfl, rfl, rfl, trivial⟩, ⟨rfl, rfl, rfl, rfl, rfl, rfl, rfl, rfl, rfl, trivial⟩, trivial⟩, rfl, ⟨rfl, rfl⟩, ⟨rfl, rfl⟩, rfl, trivial⟩
              · replace h := iteF h g392
                conv => whnf
                refine spl (fun g394 => ?_) (fun g394 => ?_)
                · replace h := iteT h g394
                  conv => whnf
                  refine CutK.go ?_
                  conv => whnf
                  exact LoopOk.back (spec_shValue_l0_2_ct  n _ _ _ _ _ _ _ _ _ h) [some 128, some 192] [] ⟨⟨rfl, rfl⟩, ⟨rfl, ⟨rfl, rfl, rfl, trivial⟩, ⟨rfl, rfl, rfl, rfl, rfl, rfl, rfl, rfl, rfl, trivial⟩, trivial⟩, rfl, ⟨rfl, rfl⟩, ⟨rfl, rfl⟩, rfl, trivial⟩
                · replace h := iteF h g394
                  conv => whnf
                  refine CutK.go ?_
                  conv => whnf
                  exact LoopOk.back (spec_shValue_l0_2_ct  n _ _ _ _ _ _ _ _ _ h) [some 128, some 192] [] ⟨⟨rfl, rfl⟩, ⟨rfl, ⟨rfl, rfl, rfl, trivial⟩, ⟨rfl, rfl, rfl, rfl, rfl, rfl, rfl, rfl, rfl, trivial⟩, trivial⟩, rfl, ⟨rfl, rfl⟩, ⟨rfl, rfl⟩, rfl, trivial⟩
            · replace h := iteN h g389
              conv => whnf
              refine Pick.no ?_
              conv => whnf
              obtain ⟨y395, e396, h⟩ := bind_ex h
              refine CallOk.of (spec_shWalk_step_ct e396) ?_
              conv => whnf
              refine spl (fun g397 => ?_) (fun g397 => ?_)
              · replace h := iteT h g397
                conv => whnf
                refine spl (fun g398 => ?_) (fun g398 => ?_)
                · replace h := iteT h g398
                  conv => whnf
                  refine CutK.go ?_
                  conv => whnf
                  exact LoopOk.back (spec_shValue_l0_2_ct  n _ _ _ _ _ _ _ _ _ h) [some 128, some 192] [] ⟨⟨rfl, rfl⟩, ⟨rfl, ⟨rfl, rfl, rfl, trivial⟩, ⟨rfl, rfl, rfl, rfl, rfl, rfl, rfl, rfl, rfl, trivial⟩, trivial⟩, rfl, ⟨rfl, rfl⟩, ⟨rfl, rfl⟩, rfl, trivial⟩
                · replace h := iteF h g398
                  conv => whnf
                  refine CutK.go ?_
                  conv => whnf
                  exact LoopOk.back (spec_shValue_l0_2_ct  n _ _ _ _ _ _ _ _ _ h) [some 128, some 192] [] ⟨⟨rfl, rfl⟩, ⟨rfl, ⟨rfl, rfl, rfl, trivial⟩, ⟨rfl, rfl, rfl, rfl, rfl, rfl, rfl, rfl, rfl, trivial⟩, trivial⟩, rfl, ⟨rfl, rfl⟩, ⟨rfl, rfl⟩, rfl, trivial⟩
              · replace h := iteF h g397
                conv => whnf
                refine spl (fun g399 => ?_) (fun g399 => ?_)
                · replace h := iteT h g399
                  conv => whnf
                  refine CutK.go ?_
                  conv => whnf
                  exact LoopOk.back (spec_shValue_l0_2_ct  n _ _ _ _ _ _ _ _ _ h) [some 128, some 192] [] ⟨⟨rfl, rfl⟩, ⟨rfl, ⟨rfl, rfl, rfl, trivial⟩, ⟨rfl, rfl, rfl, rfl, rfl, rfl, rfl, rfl, rfl, trivial⟩, trivial⟩, rfl, ⟨rfl, rfl⟩, ⟨rfl, rfl⟩, rfl, trivial⟩
                · replace h := iteF h g399
                  conv => whnf
                  refine CutK.go ?_
                  conv => whnf
                  exact LoopOk.back (spec_shValue_l0_2_ct  n _ _ _ _ _ _ _ _ _ h) [some 128, some 192] [] ⟨⟨rfl, rfl⟩, ⟨rfl, ⟨rfl, rfl, rfl, trivial⟩, ⟨rfl, rfl, rfl, rfl, rfl, rfl, rfl, rfl, rfl, trivial⟩, trivial⟩, rfl, ⟨rfl, rfl⟩, ⟨rfl, rfl⟩, rfl, trivial⟩
          · replace h := iteN h g385
            conv => whnf
            exact ⟨_, _, [some 128, some 192], [], ⟨rfl, _, _, _, _, _, _, _, _, h, rfl, rfl⟩, ⟨⟨rfl, rfl⟩, ⟨rfl, ⟨rfl, rfl, rfl, trivial⟩, ⟨rfl, rfl, rfl, rfl, rfl, rfl, rfl, rfl, rfl, trivial⟩, trivial⟩, ⟨rfl, rfl⟩, ⟨rfl, rfl⟩, trivial⟩⟩
      · replace h := condT h
        cases v236
        · replace h := condF h
          refine LoopOk.step ?_
          conv => whnf
          refine splD (fun g400 => ?_) (fun g400 => ?_)
          · replace h := iteP h g400
            conv => whnf
            refine splF ?_
            conv => whnf
            refine splT ?_
            conv => whnf
            obtain ⟨g402, b401, e403, h⟩ := byteD_ex h
            refine Req.of g402 ?_
            refine Byte.of _ e403 ?_
            conv => whnf
            refine splD (fun g404 => ?_) (fun g404 => ?_)
            · replace h := iteP h g404
              conv => whnf
              refine Pick.no ?_
              conv => whnf
              obtain ⟨y405, e406, h⟩ := bind_ex h
              refine CallOk.of (spec_shWalk_step_ct e406) ?_
              conv => whnf
              refine spl (fun g407 => ?_) (fun g407 => ?_)
              · replace h := iteT h g407
                conv => whnf
                refine spl (fun g408 => ?_) (fun g408 => ?_)
                · replace h := iteT h g408
                  conv => whnf
                  refine CutK.go ?_
                  conv => whnf
                  exact LoopOk.back (spec_shValue_l0_2_ct  n _ _ _ _ _ _ _ _ _ h) [some 128, some 192] [] ⟨⟨rfl, rfl⟩, ⟨rfl, ⟨rfl, rfl, rfl, trivial⟩, ⟨rfl, rfl, rfl, rfl, rfl, rfl, rfl, rfl, rfl, trivial⟩, trivial⟩, rfl, ⟨rfl, rfl⟩, ⟨rfl, rfl⟩, rfl, trivial⟩
                · replace h := iteF h g408
                  conv => whnf
                  refine CutK.go ?_
                  conv => whnf
                  exact LoopOk.back (spec_shValue_l0_2_ct  n _ _ _ _ _ _ _ _ _ h) [some 128, some 192] [] ⟨⟨rfl, rfl⟩, ⟨rfl, ⟨rfl, rfl, rfl, trivial⟩, ⟨rfl, rfl, rfl, rfl, rfl, rfl, rfl, rfl, rfl, trivial⟩, trivial⟩, rfl, ⟨rfl, rfl⟩, ⟨rfl, rfl⟩, rfl, trivial⟩
              · replace h := iteF h g407
                conv => whnf
                refine spl (fun g409 => ?_) (fun g409 => ?_)
                · replace h := iteT h g409
                  conv => whnf
                  refine CutK.go ?_
                  conv => whnf
                  exact LoopOk.back (spec_shValue_l0_2_ct  n _ _ _ _ _ _ _ _ _ h) [some 128, some 192] [] ⟨⟨rfl, rfl⟩, ⟨rfl, ⟨rfl, rfl, rfl, trivial⟩, ⟨rfl, rfl, rfl, rfl, rfl, rfl, rfl, rfl, rfl, trivial⟩, trivial⟩, rfl, ⟨rfl, rfl⟩, ⟨rfl, rfl⟩, rfl, trivial⟩
                · replace h := iteF h g409
                  conv => whnf
                  refine CutK.go ?_
                  conv => whnf
                  exact LoopOk.back (spec_shValue_l0_2_ct  n _ _ _ _ _ _ _ _ _ h) [some 128, some 192] [] ⟨⟨rfl, rfl⟩, ⟨rfl, ⟨rfl, rfl, rfl, trivial⟩, ⟨rfl, rfl, rfl, rfl, rfl, rfl, rfl, rfl, rfl, trivial⟩, trivial⟩, rfl, ⟨rfl, rfl⟩, ⟨rfl, rfl⟩, rfl, trivial⟩
            · replace h := iteN h g404
              conv => whnf
              refine Pick.no ?_
              conv => whnf
              obtain ⟨y410, e411, h⟩ := bind_ex h
              refine CallOk.of (spec_shWalk_step_ct e411) ?_
              conv => whnf
              refine spl (fun g412 => ?_) (fun g412 => ?_)
              · replace h := iteT h g412
                conv => whnf
                refine spl (fun g413 => ?_) (fun g413 => ?_)
                · replace h := iteT h g413
                  conv => whnf
                  refine CutK.go ?_
                  conv => whnf
                  exact LoopOk.back (spec_shValue_l0_2_ct  n _ _ _ _ _ _ _ _ _ h) [some 128, some 192] [] ⟨⟨rfl, rfl⟩, ⟨rfl, ⟨rfl, rfl, rfl, trivial⟩, ⟨rfl, rfl, rfl, rfl, rfl, rfl, rfl, rfl, rfl, trivial⟩, trivial⟩, rfl, ⟨rfl, rfl⟩, ⟨rfl, rfl⟩, rfl, trivial⟩
                · replace h := iteF h g413
                  conv => whnf
                  refine CutK.go ?_
                  conv => whnf
                  exact LoopOk.back (spec_shValue_l0_2_ct  n _ _ _ _ _ _ _ _ _ h) [some 128, some 192] [] ⟨⟨rfl, rfl⟩, ⟨rfl, ⟨rfl, rfl, rfl, trivial⟩, ⟨rfl, rfl, rfl, rfl, rfl, rfl, rfl, rfl, rfl, trivial⟩, trivial⟩, rfl, ⟨rfl, rfl⟩, ⟨rfl, rfl⟩, rfl, trivial⟩
              · replace h := iteF h g412
                conv => whnf
                refine spl (fun g414 => ?_) (fun g414 => ?_)
                · replace h := iteT h g414
                  conv => whnf
                  refine CutK.go ?_
                  conv => whnf
                  exact LoopOk.back (spec_shValue_l0_2_ct  n _ _ _ _ _ _ _ _ _ h) [some 128, some 192] [] ⟨⟨rfl, rfl⟩, ⟨rfl, ⟨rfl, rfl, rfl, trivial⟩, ⟨rfl, rfl, rfl, rfl, rfl, rfl, rfl, rfl, rfl, trivial⟩, trivial⟩, rfl, ⟨rfl, rfl⟩, ⟨rfl, rfl⟩, rfl, trivial⟩
                · replace h := iteF h g414
                  conv => whnf
                  refine CutK.go ?_
                  conv => whnf
                  exact LoopOk.back (spec_shValue_l0_2_ct  n _ _ _ _ _ _ _ _ _ h) [some 128, some 192] [] ⟨⟨rfl, rfl⟩, ⟨rfl, ⟨rfl, rfl, rfl, trivial⟩, ⟨rfl, rfl, rfl, rfl, rfl, rfl, rfl, rfl, rfl, trivial⟩, trivial⟩, rfl, ⟨rfl, rfl⟩, ⟨rfl, rfl⟩, rfl, trivial⟩
          · replace h := iteN h g400
            conv => whnf
            exact ⟨_, _, [some 128, some 192], [], ⟨rfl, _, _, _, _, _, _, _, _, h, rfl, rfl⟩, ⟨⟨rfl, rfl⟩, ⟨rfl, ⟨rfl, rfl, rfl, trivial⟩, ⟨rfl, rfl, rfl, rfl, rfl, rfl, rfl, rfl, rfl, trivial⟩, trivial⟩, ⟨rfl, rfl⟩, ⟨rfl, rfl⟩, trivial⟩⟩
        · replace h := condT h
          refine LoopOk.step ?_
          conv => whnf
          refine splD (fun g415 => ?_) (fun g415 => ?_)
          · replace h := iteP h g415
            conv => whnf
            refine splT ?_
            conv => whnf
            refine splT ?_
            conv => whnf
            obtain ⟨g417, b416, e418, h⟩ := byteD_ex h
            refine Req.of g417 ?_
            refine Byte.of _ e418 ?_
            conv => whnf
            refine splD (fun g419 => ?_) (fun g419 => ?_)
            · replace h := iteP h g419
              conv => whnf
              refine Pick.no ?_
              conv => whnf
              obtain ⟨y420, e421, h⟩ := bind_ex h
              refine CallOk.of (spec_shWalk_step_ct e421) ?_
              conv => whnf
              refine spl (fun g422 => ?_) (fun g422 => ?_)
              · replace h := iteT h g422
                conv => whnf
                refine spl (fun g423 => ?_) (fun g423 => ?_)
                · replace h := iteT h g423
                  conv => whnf
                  refine CutK.go ?_
                  conv => whnf
                  exact LoopOk.back (spec_shValue_l0_2_ct  n _ _ _ _ _ _ _ _ _ h) [some 128, some 192] [] ⟨⟨rfl, rfl⟩, ⟨rfl, ⟨rfl, rfl, rfl, trivial⟩, ⟨rfl, rfl, rfl, rfl, rfl, rfl, rfl, rfl, rfl, trivial⟩, trivial⟩, rfl, ⟨rfl, rfl⟩, ⟨rfl, rfl⟩, rfl, trivial⟩
                · replace h := iteF h g423
                  conv => whnf
                  refine CutK.go ?_
                  conv => whnf
                  exact LoopOk.back (spec_shValue_l0_2_ct  n _ _ _ _ _ _ _ _ _ h) [some 128, some 192] [] ⟨⟨rfl, rfl⟩, ⟨rfl, ⟨rfl, rfl, rfl, trivial⟩, ⟨rfl, rfl, rfl, rfl, rfl, rfl, rfl, rfl, rfl, trivial⟩, trivial⟩, rfl, ⟨rfl, rfl⟩, ⟨rfl, rfl⟩, rfl, trivial⟩
              · replace h := iteF h g422
                conv => whnf
                refine spl (fun g424 => ?_) (fun g424 => ?_)
                · replace h := iteT h g424
                  conv => whnf
                  refine CutK.go ?_
                  conv => whnf
                  exact LoopOk.back (spec_shValue_l0_2_ct  n _ _ _ _ _ _ _ _ _ h) [some 128, some 192] [] ⟨⟨rfl, rfl⟩, ⟨rfl, ⟨rfl, rfl, rfl, trivial⟩, ⟨rfl, rfl, rfl, rfl, rfl, rfl, rfl, rfl, rfl, trivial⟩, trivial⟩, rfl, ⟨rfl, rfl⟩, ⟨rfl, rfl⟩, rfl, trivial⟩
                · replace h := iteF h g424
                  conv => whnf
                  refine CutK.go ?_
                  conv => whnf
                  exact LoopOk.back (spec_shValue_l0_2_ct  n _ _ _ _ _ _ _ _ _ h) [some 128, some 192] [] ⟨⟨rfl, rfl⟩, ⟨rfl, ⟨rfl, rfl, rfl, trivial⟩, ⟨rfl, rfl, rfl, rfl, rfl, rfl, rfl, rfl, rfl, trivial⟩, trivial⟩, rfl, ⟨rfl, rfl⟩, ⟨rfl, rfl⟩, rfl, trivial⟩
            · replace h := iteN h g419
              conv => whnf
              refine Pick.no ?_
              conv => whnf
              obtain ⟨y425, e426, h⟩ := bind_ex h
              refine CallOk.of (spec_shWalk_step_ct e426) ?_
              conv => whnf
              refine spl (fun g427 => ?_) (fun g427 => ?_)
              · replace h := iteT h g427
                conv => whnf
                refine spl (fun g428 => ?_) (fun g428 => ?_)
                · replace h := iteT h g428
                  conv => whnf
                  refine CutK.go ?_
                  conv => whnf
                  exact LoopOk.back (spec_shValue_l0_2_ct  n _ _ _ _ _ _ _ _ _ h) [some 128, some 192] [] ⟨⟨rfl, rfl⟩, ⟨rfl, ⟨rfl, rfl, rfl, trivial⟩, ⟨rfl, rfl, rfl, rfl, rfl, rfl, rfl, rfl, rfl, trivial⟩, trivial⟩, rfl, ⟨rfl, rfl⟩, ⟨rfl, rfl⟩, rfl, trivial⟩
                · replace h := iteF h g428
                  conv => whnf
                  refine CutK.go ?_
                  conv => whnf
                  exact LoopOk.back (spec_shValue_l0_2_ct  n _ _ _ _ _ _ _ _ _ h) [some 128, some 192] [] ⟨⟨rfl, rfl⟩, ⟨rfl, ⟨rfl, rfl, rfl, trivial⟩, ⟨rfl, rfl, rfl, rfl, rfl, rfl, rfl, rfl, rfl, trivial⟩, trivial⟩, rfl, ⟨rfl, rfl⟩, ⟨rfl, rfl⟩, rfl, trivial⟩
              · replace h := iteF h g427
                conv => whnf
                refine spl (fun g429 => ?_) (fun g429 => ?_)
                · replace h := iteT h g429
                  conv => whnf
                  refine CutK.go ?_
                  conv => whnf
                  exact LoopOk.back (spec_shValue_l0_2_ct  n _ _ _ _ _ _ _ _ _ h) [some 128, some 192] [] ⟨⟨rfl, rfl⟩, ⟨rfl, ⟨rfl, rfl, rfl, trivial⟩, ⟨rfl, rfl, rfl, rfl, rfl, rfl, rfl, rfl, rfl, trivial⟩, trivial⟩, rfl, ⟨rfl, rfl⟩, ⟨rfl, rfl⟩, rfl, trivial⟩
                · replace h := iteF h g429
                  conv => whnf
                  refine CutK.go ?_
                  conv => whnf
                  exact LoopOk.back (spec_shValue_l0_2_ct  n _ _ _ _ _ _ _ _ _ h) [some 128, some 192] [] ⟨⟨rfl, rfl⟩, ⟨rfl, ⟨rfl, rfl, rfl, trivial⟩, ⟨rfl, rfl, rfl, rfl, rfl, rfl, rfl, rfl, rfl, trivial⟩, trivial⟩, rfl, ⟨rfl, rfl⟩, ⟨rfl, rfl⟩, rfl, trivial⟩
          · replace h := iteN h g415
            conv => whnf
            exact ⟨_, _, [some 128, some 192], [], ⟨rfl, _, _, _, _, _, _, _, _, h, rfl, rfl⟩, ⟨⟨rfl, rfl⟩, ⟨rfl, ⟨rfl, rfl, rfl, trivial⟩, ⟨rfl, rfl, rfl, rfl, rfl, rfl, rfl, rfl, rfl, trivial⟩, trivial⟩, ⟨rfl, rfl⟩, ⟨rfl, rfl⟩, trivial⟩⟩
def spec_shValue_l0_3 (k : Nat) (a1 : ByteArray) (K0 : Int → Int → Int → Int → Int → Int → Bool → Bool → Option (Int × Int)) : Nat → Int → Int → Int → Int → Int → Int → Int → Bool → Bool → Option (Int × Int)
  | 0, _, _, _, _, _, _, _, _, _ => none
  | n + 1, v440, v441, v442, v443, v444, v445, v446, v447, v448 => (cond v447 (cond v448 (if v440 < (a1.size : Int) then (byteD a1 v440 fun b629 => (if (b629.toNat : Int) = (43 : Int) then ((spec_shWalk_step k v441 v442 v443 v444 v445 v446 true true true).bind fun y633 => (if y633.2.2.2.2.2.2.1 = true then (if y633.2.2.2.2.2.2.2 = true then (spec_shValue_l0_3 k a1 K0 n (IntKind.i64.wrap (v440 + 1)) y633.1 y633.2.1 y633.2.2.1 y633.2.2.2.1 y633.2.2.2.2.1 y633.2.2.2.2.2.1 true true) else (spec_shValue_l0_3 k a1 K0 n (IntKind.i64.wrap (v440 + 1)) y633.1 y633.2.1 y633.2.2.1 y633.2.2.2.1 y633.2.2.2.2.1 y633.2.2.2.2.2.1 true false)) else (if y633.2.2.2.2.2.2.2 = true then (spec_shValue_l0_3 k a1 K0 n (IntKind.i64.wrap (v440 + 1)) y633.1 y633.2.1 y633.2.2.1 y633.2.2.2.1 y633.2.2.2.2.1 y633.2.2.2.2.2.1 false true) else (spec_shValue_l0_3 k a1 K0 n (IntKind.i64.wrap (v440 + 1)) y633.1 y633.2.1 y633.2.2.1 y633.2.2.2.1 y633.2.2.2.2.1 y633.2.2.2.2.2.1 false false)))) else ((spec_shWalk_step k v441 v442 v443 v444 v445 v446 true true false).bind fun y638 => (if y638.2.2.2.2.2.2.1 = true then (if y638.2.2.2.2.2.2.2 = true then (spec_shValue_l0_3 k a1 K0 n (IntKind.i64.wrap (v440 + 1)) y638.1 y638.2.1 y638.2.2.1 y638.2.2.2.1 y638.2.2.2.2.1 y638.2.2.2.2.2.1 true true) else (spec_shValue_l0_3 k a1 K0 n (IntKind.i64.wrap (v440 + 1)) y638.1 y638.2.1 y638.2.2.1 y638.2.2.2.1 y638.2.2.2.2.1 y638.2.2.2.2.2.1 true false)) else (if y638.2.2.2.2.2.2.2 = true then (spec_shValue_l0_3 k a1 K0 n (IntKind.i64.wrap (v440 + 1)) y638.1 y638.2.1 y638.2.2.1 y638.2.2.2.1 y638.2.2.2.2.1 y638.2.2.2.2.2.1 false true) else (spec_shValue_l0_3 k a1 K0 n (IntKind.i64.wrap (v440 + 1)) y638.1 y638.2.1 y638.2.2.1 y638.2.2.2.1 y638.2.2.2.2.1 y638.2.2.2.2.2.1 false false)))))) else (K0 v441 v442 v443 v444 v445 v446 true true)) (if v440 < (a1.size : Int) then (byteD a1 v440 fun b614 => (if (b614.toNat : Int) = (43 : Int) then ((spec_shWalk_step k v441 v442 v443 v444 v445 v446 true false true).bind fun y618 => (if y618.2.2.2.2.2.2.1 = true then (if y618.2.2.2.2.2.2.2 = true then (spec_shValue_l0_3 k a1 K0 n (IntKind.i64.wrap (v440 + 1)) y618.1 y618.2.1 y618.2.2.1 y618.2.2.2.1 y618.2.2.2.2.1 y618.2.2.2.2.2.1 true true) else (spec_shValue_l0_3 k a1 K0 n (IntKind.i64.wrap (v440 + 1)) y618.1 y618.2.1 y618.2.2.1 y618.2.2.2.1 y618.2.2.2.2.1 y618.2.2.2.2.2.1 true false)) else (if y618.2.2.2.2.2.2.2 = true then (spec_shValue_l0_3 k a1 K0 n (IntKind.i64.wrap (v440 + 1)) y618.1 y618.2.1 y618.2.2.1 y618.2.2.2.1 y618.2.2.2.2.1 y618.2.2.2.2.2.1 false true) else (spec_shValue_l0_3 k a1 K0 n (IntKind.i64.wrap (v440 + 1)) y618.1 y618.2.1 y618.2.2.1 y618.2.2.2.1 y618.2.2.2.2.1 y618.2.2.2.2.2.1 false false)))) else ((spec_shWalk_step k v441 v442 v443 v444 v445 v446 true false false).bind fun y623 => (if y623.2.2.2.2.2.2.1 = true then (if y623.2.2.2.2.2.2.2 = true then (spec_shValue_l0_3 k a1 K0 n (IntKind.i64.wrap (v440 + 1)) y623.1 y623.2.1 y623.2.2.1 y623.2.2.2.1 y623.2.2.2.2.1 y623.2.2.2.2.2.1 true true) else (spec_shValue_l0_3 k a1 K0 n (IntKind.i64.wrap (v440 + 1)) y623.1 y623.2.1 y623.2.2.1 y623.2.2.2.1 y623.2.2.2.2.1 y623.2.2.2.2.2.1 true false)) else (if y623.2.2.2.2.2.2.2 = true then (spec_shValue_l0_3 k a1 K0 n (IntKind.i64.wrap (v440 + 1)) y623.1 y623.2.1 y623.2.2.1 y623.2.2.2.1 y623.2.2.2.2.1 y623.2.2.2.2.2.1 false true) else (spec_shValue_l0_3 k a1 K0 n (IntKind.i64.wrap (v440 + 1)) y623.1 y623.2.1 y623.2.2.1 y623.2.2.2.1 y623.2.2.2.2.1 y623.2.2.2.2.2.1 false false)))))) else (K0 v441 v442 v443 v444 v445 v446 false true))) (cond v448 (if v440 < (a1.size : Int) then (byteD a1 v440 fun b599 => (if (b599.toNat : Int) = (43 : Int) then ((spec_shWalk_step k v441 v442 v443 v444 v445 v446 false true true).bind fun y603 => (if y603.2.2.2.2.2.2.1 = true then (if y603.2.2.2.2.2.2.2 = true then (spec_shValue_l0_3 k a1 K0 n (IntKind.i64.wrap (v440 + 1)) y603.1 y603.2.1 y603.2.2.1 y603.2.2.2.1 y603.2.2.2.2.1 y603.2.2.2.2.2.1 true true) else (spec_shValue_l0_3 k a1 K0 n (IntKind.i64.wrap (v440 + 1)) y603.1 y603.2.1 y603.2.2.1 y603.2.2.2.1 y603.2.2.2.2.1 y603.2.2.2.2.2.1 true false)) else (if y603.2.2.2.2.2.2.2 = true then (spec_shValue_l0_3 k a1 K0 n (IntKind.i64.wrap (v440 + 1)) y603.1 y603.2.1 y603.2.2.1 y603.2.2.2.1 y603.2.2.2.2.1 y603.2.2.2.2.2.1 false true) else (spec_shValue_l0_3 k a1 K0 n (IntKind.i64.wrap (v440 + 1)) y603.1 y603.2.1 y603.2.2.1 y603.2.2.2.1 y603.2.2.2.2.1 y603.2.2.2.2.2.1 false false)))) else ((spec_shWalk_step k v441 v442 v443 v444 v445 v446 false true false).bind fun y608 => (if y608.2.2.2.2.2.2.1 = true then (if y608.2.2.2.2.2.2.2 = true then (spec_shValue_l0_3 k a1 K0 n (IntKind.i64.wrap (v440 + 1)) y608.1 y608.2.1 y608.2.2.1 y608.2.2.2.1 y608.2.2.2.2.1 y608.2.2.2.2.2.1 true true) else (spec_shValue_l0_3 k a1 K0 n (IntKind.i64.wrap (v440 + 1)) y608.1 y608.2.1 y608.2.2.1 y608.2.2.2.1 y608.2.2.2.2.1 y608.2.2.2.2.2.1 true false)) else (if y608.2.2.2.2.2.2.2 = true then (spec_shValue_l0_3 k a1 K0 n (IntKind.i64.wrap (v440 + 1)) y608.1 y608.2.1 y608.2.2.1 y608.2.2.2.1 y608.2.2.2.2.1 y608.2.2.2.2.2.1 false true) else (spec_shValue_l0_3 k a1 K0 n (IntKind.i64.wrap (v440 + 1)) y608.1 y608.2.1 y608.2.2.1 y608.2.2.2.1 y608.2.2.2.2.1 y608.2.2.2.2.2.1 false false)))))) else (K0 v441 v442 v443 v444 v445 v446 true false)) (if v440 < (a1.size : Int) then (byteD a1 v440 fun b584 => (if (b584.toNat : Int) = (43 : Int) then ((spec_shWalk_step k v441 v442 v443 v444 v445 v446 false false true).bind fun y588 => (if y588.2.2.2.2.2.2.1 = true then (if y588.2.2.2.2.2.2.2 = true then (spec_shValue_l0_3 k a1 K0 n (IntKind.i64.wrap (v440 + 1)) y588.1 y588.2.1 y588.2.2.1 y588.2.2.2.1 y588.2.2.2.2.1 y588.2.2.2.2.2.1 true true) else (spec_shValue_l0_3 k a1 K0 n (IntKind.i64.wrap (v440 + 1)) y588.1 y588.2.1 y588.2.2.1 y588.2.2.2.1 y588.2.2.2.2.1 y588.2.2.2.2.2.1 true false)) else (if y588.2.2.2.2.2.2.2 = true then (spec_shValue_l0_3 k a1 K0 n (IntKind.i64.wrap (v440 + 1)) y588.1 y588.2.1 y588.2.2.1 y588.2.2.2.1 y588.2.2.2.2.1 y588.2.2.2.2.2.1 false true) else (spec_shValue_l0_3 k a1 K0 n (IntKind.i64.wrap (v440 + 1)) y588.1 y588.2.1 y588.2.2.1 y588.2.2.2.1 y588.2.2.2.2.1 y588.2.2.2.2.2.1 false false)))) else ((spec_shWalk_step k v441 v442 v443 v444 v445 v446 false false false).bind fun y593 => (if y593.2.2.2.2.2.2.1 = true then (if y593.2.2.2.2.2.2.2 = true then (spec_shValue_l0_3 k a1 K0 n (IntKind.i64.wrap (v440 + 1)) y593.1 y593.2.1 y593.2.2.1 y593.2.2.2.1 y593.2.2.2.2.1 y593.2.2.2.2.2.1 true true) else (spec_shValue_l0_3 k a1 K0 n (IntKind.i64.wrap (v440 + 1)) y593.1 y593.2.1 y593.2.2.1 y593.2.2.2.1 y593.2.2.2.2.1 y593.2.2.2.2.2.1 true false)) else (if y593.2.2.2.2.2.2.2 = true then (spec_shValue_l0_3 k a1 K0 n (IntKind.i64.wrap (v440 + 1)) y593.1 y593.2.1 y593.2.2.1 y593.2.2.2.1 y593.2.2.2.2.1 y593.2.2.2.2.2.1 false true) else (spec_shValue_l0_3 k a1 K0 n (IntKind.i64.wrap (v440 + 1)) y593.1 y593.2.1 y593.2.2.1 y593.2.2.2.1 y593.2.2.2.2.1 y593.2.2.2.2.2.1 false false)))))) else (K0 v441 v442 v443 v444 v445 v446 false false))))
set_option maxRecDepth 100000 in
theorem spec_shValue_l0_3_ct {k : Nat} {a1 : ByteArray} {K0 : Int → Int → Int → Int → Int → Int → Bool → Bool → Option (Int × Int)} {r : Int × Int} : ∀ (n : Nat) (v440 : Int) (v441 : Int) (v442 : Int) (v443 : Int) (v444 : Int) (v445 : Int) (v446 : Int) (v447 : Bool) (v448 : Bool), spec_shValue_l0_3 k a1 K0 n v440 v441 v442 v443 v444 v445 v446 v447 v448 = some r → LoopOk prog 0 (lp f217 0) (mk 20 [(0, .d (D.str a1)), (2, .ptr 128 0), (3, .ptr 192 0), (4, .d (D.int .i64 v440))] [(128, .box 118 [.d (D.int .i64 0), .d (D.int .i64 0)]), (192, .box 206 [.d (D.int .i64 v441), .d (D.int .i64 v442), .d (D.int .i64 v443), .d (D.int .i64 v444), .d (D.int .i64 v445), .d (D.int .i64 v446), .d (D.bool v447), .d (D.bool v448)])]) (LoopEnd prog f217 0 20 (.agg [.d (D.int .i64 r.1), .d (D.int .i64 r.2)]) (⟨[], []⟩) (fun i ts os => (i = 0 ∧ ∃ v470 : Int, ∃ v471 : Int, ∃ v472 : Int, ∃ v473 : Int, ∃ v474 : Int, ∃ v475 : Int, ∃ v476 : Bool, ∃ v507 : Bool, K0 v470 v471 v472 v473 v474 v475 v476 v507 = some r ∧ ts = [(2, .ptr 128 0), (3, .ptr 192 0)] ∧ os = [(128, .box 118 [.d (D.int .i64 0), .d (D.int .i64 0)]), (192, .box 206 [.d (D.int .i64 v470), .d (D.int .i64 v471), .d (D.int .i64 v472), .d (D.int .i64 v473), .d (D.int .i64 v474), .d (D.int .i64 v475), .d (D.bool v507), .d (D.bool v476)])])))
  | 0, _, _, _, _, _, _, _, _, _, h => by
      rw [spec_shValue_l0_3] at h; cases h
  | n + 1, v440, v441, v442, v443, v444, v445, v446, v447, v448, h => by
      rw [spec_shValue_l0_3] at h
      cases v447
      · replace h := condF h
        cases v448
        · replace h := condF h
          refine LoopOk.step ?_
          conv => whnf
          refine splD (fun g583 => ?_) (fun g583 => ?_)
          · replace h := iteP h g583
            conv => whnf
            refine splF ?_
            conv => whnf
            refine splF ?_
            conv => whnf
            obtain ⟨g585, b584, e586, h⟩ := byteD_ex h
            refine Req.of g585 ?_
            refine Byte.of _ e586 ?_
            conv => whnf
            refine splD (fun g587 => ?_) (fun g587 => ?_)
            · replace h := iteP h g587
              conv => whnf
              refine Pick.no ?_
              conv => whnf
              obtain ⟨y588, e589, h⟩ := bind_ex h
              refine CallOk.of (spec_shWalk_step_ct e589) ?_
              conv => whnf
              refine spl (fun g590 => ?_) (fun g590 => ?_)
              · replace h := iteT h g590
                conv => whnf
                refine spl (fun g591 => ?_) (fun g591 => ?_)
                · replace h := iteT h g591
                  conv => whnf
                  refine CutK.go ?_
                  conv => whnf
                  exact LoopOk.back (spec_shValue_l0_3_ct  n _ _ _ _ _ _ _ _ _ h) [some 128, some 192] [] ⟨⟨rfl, rfl⟩, ⟨rfl, ⟨rfl, rfl, rfl, trivial⟩, ⟨rfl, rfl, rfl, rfl, rfl, rfl, rfl, rfl, rfl, trivial⟩, trivial⟩, rfl, ⟨rfl, rfl⟩, ⟨rfl, rfl⟩, rfl, trivial⟩
                · replace h := iteF h g591
                  conv => whnf
                  refine CutK.go ?_
                  conv => whnf
                  exact LoopOk.back (spec_shValue_l0_3_ct  n _ _ _ _ _ _ _ _ _ h) [some 128, some 192] [] ⟨⟨rfl, rfl⟩, ⟨rfl, ⟨rfl, rfl, rfl, trivial⟩, ⟨rfl, rfl, rfl, rfl, rfl, rfl, rfl, rfl, rfl, trivial⟩, trivial⟩, rfl, ⟨rfl, rfl⟩, ⟨rfl, rfl⟩, rfl, trivial⟩
              · replace h := iteF h g590
                conv => whnf
                refine spl (fun g592 => ?_) (fun g592 => ?_)
                · replace h := iteT h g592
                  conv => whnf
                  refine CutK.go ?_
                  conv => whnf
                  exact LoopOk.back (spec_shValue_l0_3_ct  n _ _ _ _ _ _ _ _ _ h) [some 128, some 192] [] ⟨⟨rfl, rfl⟩, ⟨rfl, ⟨rfl, rfl, rfl, trivial⟩, ⟨rfl, rfl, rfl, rfl, rfl, rfl, rfl, rfl, rfl, trivial⟩, trivial⟩, rfl, ⟨rfl, rfl⟩, ⟨rfl, rfl⟩, rfl, trivial⟩
                · replace h := iteF h g592
                  conv => whnf
                  refine CutK.go ?_
                  conv => whnf
                  exact LoopOk.back (spec_shValue_l0_3_ct  n _ _ _ _ _ _ _ _ _ h) [some 128, some 192] [] ⟨⟨rfl, rfl⟩, ⟨rfl, ⟨rfl, rfl, rfl, trivial⟩, ⟨rfl, rfl, rfl, rfl, rfl, rfl, rfl, rfl, rfl, trivial⟩, trivial⟩, rfl, ⟨rfl, rfl⟩, ⟨rfl, rfl⟩, rfl, trivial⟩
            · replace h := iteN h g587
              conv => whnf
              refine Pick.no ?_
              conv => whnf
              obtain ⟨y593, e594, h⟩ := bind_ex h
              refine CallOk.of (spec_shWalk_step_ct e594) ?_
              conv => whnf
              refine spl (fun g595 => ?_) (fun g595 => ?_)
              · replace h := iteT h g595
                conv => whnf
                refine spl (fun g596 => ?_) (fun g596 => ?_)
                · replace h := iteT h g596
                  conv => whnf
                  refine CutK.go ?_
                  conv => whnf
                  exact LoopOk.back (spec_shValue_l0_3_ct  n _ _ _ _ _ _ _ _ _ h) [some 128, some 192] [] ⟨⟨rfl, rfl⟩, ⟨rfl, ⟨rfl, rfl, rfl, trivial⟩, ⟨rfl, rfl, rfl, rfl, rfl, rfl, rfl, rfl, rfl, trivial⟩, trivial⟩, rfl, ⟨rfl, rfl⟩, ⟨rfl, rfl⟩, rfl, trivial⟩
                · replace h := iteF h g596
                  conv => whnf
                  refine CutK.go ?_
                  conv => whnf
                  exact LoopOk.back (spec_shValue_l0_3_ct  n _ _ _ _ _ _ _ _ _ h) [some 128, some 192] [] ⟨⟨rfl, rfl⟩, ⟨rfl, ⟨rfl, rfl, rfl, trivial⟩, ⟨rfl, rfl, rfl, rfl, rfl, rfl, rfl, rfl, rfl, trivial⟩, trivial⟩, rfl, ⟨rfl, rfl⟩, ⟨rfl, rfl⟩, rfl, trivial⟩
              · replace h := iteF h g595
                conv => whnf
                refine spl (fun g597 => ?_) (fun g597 => ?_)
                · replace h := iteT h g597
                  conv => whnf
                  refine CutK.go ?_
                  conv => whnf
                  exact LoopOk.back (spec_shValue_l0_3_ct  n _ _ _ _ _ _ _ _ _ h) [some 128, some 192] [] ⟨⟨rfl, rfl⟩, ⟨rfl, ⟨rfl, rfl, rfl, trivial⟩, ⟨rfl, rfl, rfl, rfl, rfl, rfl, rfl, rfl, rfl, trivial⟩, trivial⟩, rfl, ⟨rfl, rfl⟩, ⟨rfl, rfl⟩, rfl, trivial⟩
                · replace h := iteF h g597
                  conv => whnf
                  refine CutK.go ?_
                  conv => whnf
                  exact LoopOk.back (spec_shValue_l0_3_ct  n _ _ _ _ _ _ _ _ _ h) [some 128, some 192] [] ⟨⟨rfl, rfl⟩, ⟨rfl, ⟨rfl, rfl, rfl, trivial⟩, ⟨rfl, rfl, rfl, rfl, rfl, rfl, rfl, rfl, rfl, trivial⟩, trivial⟩, rfl, ⟨rfl, rfl⟩, ⟨rfl, rfl⟩, rfl, trivial⟩
          · replace h := iteN h g583
            conv => whnf
            exact ⟨_, _, [some 128, some 192], [], ⟨rfl, _, _, _, _, _, _, _, _, h, rfl, rfl⟩, ⟨⟨rfl, rfl⟩, ⟨rfl, ⟨rfl, rfl, rfl, trivial⟩, ⟨rfl, rfl, rfl, rfl, rfl, rfl, rfl, rfl, rfl, trivial⟩, trivial⟩, ⟨rfl, rfl⟩, ⟨rfl, rfl⟩, trivial⟩⟩
        · replace h := condT h
          refine LoopOk.step ?_
          conv => whnf
          refine splD (fun g598 => ?_) (fun g598 => ?_)
          · replace h := iteP h g598
            conv => whnf
            refine splF ?_
            conv => whnf
            refine splT ?_
            conv => whnf
            obtain ⟨g600, b599, e601, h⟩ := byteD_ex h
            refine Req.of g600 ?_
            refine Byte.of _ e601 ?_
            conv => whnf
            refine splD (fun g602 => ?_) (fun g602 => ?_)
            · replace h := iteP h g602
              conv => whnf
              refine Pick.no ?_
              conv => whnf
              obtain ⟨y603, e604, h⟩ := bind_ex h
              refine CallOk.of (spec_shWalk_step_ct e604) ?_
              conv => whnf
              refine spl (fun g605 => ?_) (fun g605 => ?_)
              · replace h := iteT h g605
                conv => whnf
                refine spl (fun g606 => ?_) (fun g606 => ?_)
                · replace h := iteT h g606
                  conv => whnf
                  refine CutK.go ?_
                  conv => whnf
                  exact LoopOk.back (spec_shValue_l0_3_ct  n _ _ _ _ _ _ _ _ _ h) [some 128, some 192] [] ⟨⟨rfl, rfl⟩, ⟨rfl, ⟨rfl, rfl, rfl, trivial⟩, ⟨rfl, rfl, rfl, rfl, rfl, rfl, rfl, rfl, rfl, trivial⟩, trivial⟩, rfl, ⟨rfl, rfl⟩, ⟨rfl, rfl⟩, rfl, trivial⟩
                · replace h := iteF h g606
                  conv => whnf
                  refine CutK.go ?_
                  conv => whnf
                  exact LoopOk.back (spec_shValue_l0_3_ct  n _ _ _ _ _ _ _ _ _ h) [some 128, some 192] [] ⟨⟨rfl, rfl⟩, ⟨rfl, ⟨rfl, rfl, rfl, trivial⟩, ⟨rfl, rfl, rfl, rfl, rfl, rfl, rfl, rfl, rfl, trivial⟩, trivial⟩, rfl, ⟨rfl, rfl⟩, ⟨rfl, rfl⟩, rfl, trivial⟩
              · replace h := iteF h g605
                conv => whnf
                refine spl (fun g607 => ?_) (fun g607 => ?_)
                · replace h := iteT h g607
                  conv => whnf
                  refine CutK.go ?_
                  conv => whnf
                  exact LoopOk.back (spec_shValue_l0_3_ct  n _ _ _ _ _ _ _ _ _ h) [some 128, some 192] [] ⟨⟨rfl, rfl⟩, ⟨rfl, ⟨rfl, rfl, rfl, trivial⟩, ⟨rfl, rfl, rfl, rfl, rfl, rfl, rfl, rfl, rfl, trivial⟩, trivial⟩, rfl, ⟨rfl, rfl⟩, ⟨rfl, rfl⟩, rfl, trivial⟩
                · replace h := iteF h g607
                  conv => whnf
                  refine CutK.go ?_
                  conv => whnf
                  exact LoopOk.back (spec_shValue_l0_3_ct  n _ _ _ _ _ _ _ _ _ h) [some 128, some 192] [] ⟨⟨rfl, rfl⟩, ⟨rfl, ⟨rfl, rfl, rfl, trivial⟩, ⟨rfl, rfl, rfl, rfl, rfl, rfl, rfl, rfl, rfl, trivial⟩, trivial⟩, rfl, ⟨rfl, rfl⟩, ⟨rfl, rfl⟩, rfl, trivial⟩
            · replace h := iteN h g602
              conv => whnf
              refine Pick.no ?_
              conv => whnf
              obtain ⟨y608, e609, h⟩ := bind_ex h
              refine CallOk.of (spec_shWalk_step_ct e609) ?_
              conv => whnf
              refine spl (fun g610 => ?_) (fun g610 => ?_)
              · replace h := iteT h g610
                conv => whnf
                refine spl (fun g611 => ?_) (fun g611 => ?_)
                · replace h := iteT h g611
                  conv => whnf
                  refine CutK.go ?_
                  conv => whnf
                  exact LoopOk.back (spec_shValue_l0_3_ct  n _ _ _ _ _ _ _ _ _ h) [some 128, some 192] [] ⟨⟨rfl, rfl⟩, ⟨rfl, ⟨rfl, rfl, rfl, trivial⟩, ⟨rfl, rfl, rfl, rfl, rfl, rfl, rfl, rfl, rfl, trivial⟩, trivial⟩, rfl, ⟨rfl, rfl⟩, ⟨rfl, rfl⟩, rfl, trivial⟩
                · replace h := iteF h g611
                  conv => whnf
                  refine CutK.go ?_
                  conv => whnf
                  exact LoopOk.back (spec_shValue_l0_3_ct  n _ _ _ _ _ _ _ _ _ h) [some 128, some 192] [] ⟨⟨rfl, rfl⟩, ⟨rfl, ⟨rfl, rfl, rfl, trivial⟩, ⟨rfl, rfl, rfl, rfl, rfl, rfl, rfl, rfl, rfl, trivial⟩, trivial⟩, rfl, ⟨rfl, rfl⟩, ⟨rfl, rfl⟩, rfl, trivial⟩
              · replace h := iteF h g610
                conv => whnf
                refine spl (fun g612 => ?_) (fun g612 => ?_)
                · replace h := iteT h g612
                  conv => whnf
                  refine CutK.go ?_
                  conv => whnf
                  exact LoopOk.back (spec_shValue_l0_3_ct  n _ _ _ _ _ _ _ _ _ h) [some 128, some 192] [] ⟨⟨rfl, rfl⟩, ⟨rfl, ⟨rfl, rfl, rfl, trivial⟩, ⟨rfl, rfl, rfl, rfl, rfl, rfl, rfl, rfl, rfl, trivial⟩, trivial⟩, rfl, ⟨rfl, rfl⟩, ⟨rfl, rfl⟩, rfl, trivial⟩
                · replace h := iteF h g612
                  conv => whnf
                  refine CutK.go ?_
                  conv => whnf
                  exact LoopOk.back (spec_shValue_l0_3_ct  n _ _ _ _ _ _ _ _ _ h) [some 128, some 192] [] ⟨⟨rfl, rfl⟩, ⟨rfl, ⟨rfl, rfl, rfl, trivial⟩, ⟨rfl, rfl, rfl, rfl, rfl, rfl, rfl, rfl, rfl, trivial⟩, trivial⟩, rfl, ⟨rfl, rfl⟩, ⟨rfl, rfl⟩, rfl, trivial⟩
          · replace h := iteN h g598
            conv => whnf
            exact ⟨_, _, [some 128, some 192], [], ⟨rfl, _, _, _, _, _, _, _, _, h, rfl, rfl⟩, ⟨⟨rfl, rfl⟩, ⟨rfl, ⟨rfl, rfl, rfl, trivial⟩, ⟨rfl, rfl, rfl, rfl, rfl, rfl, rfl, rfl, rfl, trivial⟩, trivial⟩, ⟨rfl, rfl⟩, ⟨rfl, rfl⟩, trivial⟩⟩
      · replace h := condT h
        cases v448
        · replace h := condF h
          refine LoopOk.step ?_
          conv => whnf
          refine splD (fun g613 => ?_) (fun g613 => ?_)
          · replace h := iteP h g613
            conv => whnf
            refine splT ?_
            conv => whnf
            refine splF ?_
            conv => whnf
            obtain ⟨g615, b614, e616, h⟩ := byteD_ex h
            refine Req.of g615 ?_
            refine Byte.of _ e616 ?_
            conv => whnf
            refine splD (fun g617 => ?_) (fun g617 => ?_)
            · replace h := iteP h g617
              conv => whnf
              refine Pick.no ?_
              conv => whnf
              obtain ⟨y618, e619, h⟩ := bind_ex h
              refine CallOk.of (spec_shWalk_step_ct e619) ?_
              conv => whnf
              refine spl (fun g620 => ?_) (fun g620 => ?_)
              · replace h := iteT h g620
                conv => whnf
                refine spl (fun g621 => ?_) (fun g621 => ?_)
                · replace h := iteT h g621
                  conv => whnf
                  refine CutK.go ?_
                  conv => whnf
                  exact LoopOk.back (spec_shValue_l0_3_ct  n _ _ _ _ _ _ _ _ _ h) [some 128, some 192] [] ⟨⟨rfl, rfl⟩, ⟨rfl, ⟨rfl, rfl, rfl, trivial⟩, ⟨rfl, rfl, rfl, rfl, rfl, rfl, rfl, rfl, rfl, trivial⟩, trivial⟩, rfl, ⟨rfl, rfl⟩, ⟨rfl, rfl⟩, rfl, trivial⟩
                · replace h := iteF h g621
                  conv => whnf
                  refine CutK.go ?_
                  conv => whnf
                  exact LoopOk.back (spec_shValue_l0_3_ct  n _ _ _ _ _ _ _ _ _ h) [some 128, some 192] [] ⟨⟨rfl, rfl⟩, ⟨rfl, ⟨rfl, rfl, rfl, trivial⟩, ⟨rfl, rfl, rfl, rfl, rfl, rfl, rfl, rfl, rfl, trivial⟩, trivial⟩, rfl, ⟨rfl, rfl⟩, ⟨rfl, rfl⟩, rfl, trivial⟩
              · replace h := iteF h g620
                conv => whnf
                refine spl (fun g622 => ?_) (fun g622 => ?_)
                · replace h := iteT h g622
                  conv => whnf
                  refine CutK.go ?_
                  conv => whnf
                  exact LoopOk.back (spec_shValue_l0_3_ct  n _ _ _ _ _ _ _ _ _ h) [some 128, some 192] [] ⟨⟨rfl, rfl⟩, ⟨rfl, ⟨rfl, rfl, rfl, trivial⟩, ⟨rfl, rfl, rfl, rfl, rfl, rfl, rfl, rfl, rfl, trivial⟩, trivial⟩, rfl, ⟨rfl, rfl⟩, ⟨rfl, rfl⟩, rfl, trivial⟩
                · replace h := iteF h g622
                  conv => whnf
                  refine CutK.go ?_
                  conv => whnf
                  exact LoopOk.back (spec_shValue_l0_3_ct  n _ _ _ _ _ _ _ _ _ h) [some 128, some 192] [] ⟨⟨rfl, rfl⟩, ⟨rfl, ⟨rfl, rfl, rfl, trivial⟩, ⟨rfl, rfl, rfl, rfl, rfl, rfl, rfl, rfl, rfl, trivial⟩, trivial⟩, rfl, ⟨rfl, rfl⟩, ⟨rfl, rfl⟩, rfl, trivial⟩
            · replace h := iteN h g617
              conv => whnf
              refine Pick.no ?_
              conv => whnf
              obtain ⟨y623, e624, h⟩ := bind_ex h
              refine CallOk.of (spec_shWalk_step_ct e624) ?_
              conv => whnf
              refine spl (fun g625 => ?_) (fun g625 => ?_)
              · replace h := iteT h g625
                conv => whnf
                refine spl (fun g626 => ?_) (fun g626 => ?_)
                · replace h := iteT h g626
                  conv => whnf
                  refine CutK.go ?_
                  conv => whnf
                  exact LoopOk.back (spec_shValue_l0_3_ct  n _ _ _ _ _ _ _ _ _ h) [some 128, some 192] [] ⟨⟨rfl, rfl⟩, ⟨rfl, ⟨rfl, rfl, rfl, trivial⟩, ⟨rfl, rfl, rfl, rfl, rfl, rfl, rfl, rfl, rfl, trivial⟩, trivial⟩, rfl, ⟨rfl, rfl⟩, ⟨rfl, rfl⟩, rfl, trivial⟩
                · replace h := iteF h g626
                  conv => whnf
                  refine CutK.go ?_
                  conv => whnf
                  exact LoopOk.back (spec_shValue_l0_3_ct  n _ _ _ _ _ _ _ _ _ h) [some 128, some 192] [] ⟨⟨rfl, rfl⟩, ⟨rfl, ⟨rfl, rfl, rfl, trivial⟩, ⟨rfl, rfl, rfl, rfl, rfl, rfl, rfl, rfl, rfl, trivial⟩, trivial⟩, rfl, ⟨rfl, rfl⟩, ⟨rfl, rfl⟩, rfl, trivial⟩
              · replace h := iteF h g625
                conv => whnf
                refine spl (fun g627 => ?_) (fun g627 => ?_)
                · replace h := iteT h g627
                  conv => whnf
                  refine CutK.go ?_
                  conv => whnf
                  exact LoopOk.back (spec_shValue_l0_3_ct  n _ _ _ _ _ _ _ _ _ h) [some 128, some 192] [] ⟨⟨rfl, rfl⟩, ⟨rfl, ⟨rfl, rfl, rfl, trivial⟩, ⟨rfl, rfl, rfl, rfl, rfl, rfl, rfl, rfl, rfl, trivial⟩, trivial⟩, rfl, ⟨rfl, rfl⟩, ⟨rfl, rfl⟩, rfl, trivial⟩
                · replace h := iteF h g627
                  conv => whnf
                  refine CutK.go ?_
                  conv => whnf
                  exact LoopOk.back (spec_shValue_l0_3_ct  n _ _ _ _ _ _ _ _ _ h) [some 128, some 192] [] ⟨⟨rfl, rfl⟩, ⟨rfl, ⟨rfl, rfl, rfl, trivial⟩, ⟨rfl, rfl, rfl, rfl, rfl, rfl, rfl, rfl, rfl, trivial⟩, trivial⟩, rfl, ⟨rfl, rfl⟩, ⟨rfl, rfl⟩, rfl, trivial⟩
          · replace h := iteN h g613
            conv => whnf
            exact ⟨_, _, [some 128, some 192], [], ⟨rfl, _, _, _, _, _, _, _, _, h, rfl, rfl⟩, ⟨⟨rfl, rfl⟩, ⟨rfl, ⟨rfl, rfl, rfl, trivial⟩, ⟨rfl, rfl, rfl, rfl, rfl, rfl, rfl, rfl, rfl, trivial⟩, trivial⟩, ⟨rfl, rfl⟩, ⟨rfl, rfl⟩, trivial⟩⟩
        · replace h := condT h
          refine LoopOk.step ?_
          conv => whnf
          refine splD (fun g628 => ?_) (fun g628 => ?_)
          · replace h := iteP h g628
            conv => whnf
            refine splT ?_
            conv => whnf
            refine splT ?_
            conv => whnf
            obtain ⟨g630, b629, e631, h⟩ := byteD_ex h
            refine Req.of g630 ?_
            refine Byte.of _ e631 ?_
            conv => whnf
            refine splD (fun g632 => ?_) (fun g632 => ?_)
            · replace h := iteP h g632
              conv => whnf
              refine Pick.no ?_
              conv => whnf
              obtain ⟨y633, e634, h⟩ := bind_ex h
              refine CallOk.of (spec_shWalk_step_ct e634) ?_
              conv => whnf
              refine spl (fun g635 => ?_) (fun g635 => ?_)
              · replace h := iteT h g635
                conv => whnf
                refine spl (fun g636 => ?_) (fun g636 => ?_)
                · replace h := iteT h g636
                  conv => whnf
                  refine CutK.go ?_
                  conv => whnf
                  exact LoopOk.back (spec_shValue_l0_3_ct  n _ _ _ _ _ _ _ _ _ h) [some 128, some 192] [] ⟨⟨rfl, rfl⟩, ⟨rfl, ⟨rfl, rfl, rfl, trivial⟩, ⟨rfl, rfl, rfl, rfl, rfl, rfl, rfl, rfl, rfl, trivial⟩, trivial⟩, rfl, ⟨rfl, rfl⟩, ⟨rfl, rfl⟩, rfl, trivial⟩
                · replace h := iteF h g636
                  conv => whnf
                  refine CutK.go ?_
                  conv => whnf
                  exact LoopOk.back (spec_shValue_l0_3_ct  n _ _ _ _ _ _ _ _ _ h) [some 128, some 192] [] ⟨⟨rfl, rfl⟩, ⟨rfl, ⟨rfl, rfl, rfl, trivial⟩, ⟨rfl, rfl, rfl, rfl, rfl, rfl, rfl, rfl, rfl, trivial⟩, trivial⟩, rfl, ⟨rfl, rfl⟩, ⟨rfl, rfl⟩, rfl, trivial⟩
              · replace h := iteF h g635
                conv => whnf
                refine spl (fun g637 => ?_) (fun g637 => ?_)
                · replace h := iteT h g637
                  conv => whnf
                  refine CutK.go ?_
                  conv => whnf
                  exact LoopOk.back (spec_shValue_l0_3_ct  n _ _ _ _ _ _ _ _ _ h) [some 128, some 192] [] ⟨⟨rfl, rfl⟩, ⟨rfl, ⟨rfl, rfl, rfl, trivial⟩, ⟨rfl, rfl, rfl, rfl, rfl, rfl, rfl, rfl, rfl, trivial⟩, trivial⟩, rfl, ⟨rfl, rfl⟩, ⟨rfl, rfl⟩, rfl, trivial⟩
                · replace h := iteF h g637
                  conv => whnf
                  refine CutK.go ?_
                  conv => whnf
                  exact LoopOk.back (spec_shValue_l0_3_ct  n _ _ _ _ _ _ _ _ _ h) [some 128, some 192] [] ⟨⟨rfl, rfl⟩, ⟨rfl, ⟨rfl, rfl, rfl, trivial⟩, ⟨rfl, rfl, rfl, rfl, rfl, rfl, rfl, rfl, rfl, trivial⟩, trivial⟩, rfl, ⟨rfl, rfl⟩, ⟨rfl, rfl⟩, rfl, trivial⟩
            · replace h := iteN h g632
              conv => whnf
              refine Pick.no ?_
              conv => whnf
              obtain ⟨y638, e639, h⟩ := bind_ex h
              refine CallOk.of (spec_shWalk_step_ct e639) ?_
              conv => whnf
              refine spl (fun g640 => ?_) (fun g640 => ?_)
              · replace h := iteT h g640
                conv => whnf
                refine spl (fun g641 => ?_) (fun g641 => ?_)
                · replace h := iteT h g641
                  conv => whnf
                  refine CutK.go ?_
                  conv => whnf
                  exact LoopOk.back (spec_shValue_l0_3_ct  n _ _ _ _ _ _ _ _ _ h) [some 128, some 192] [] ⟨⟨rfl, rfl⟩, ⟨rfl, ⟨rfl, rfl, rfl, trivial⟩, ⟨rfl, rfl, rfl, rfl, rfl, rfl, rfl, rfl, rfl, trivial⟩, trivial⟩, rfl, ⟨rfl, rfl⟩, ⟨rfl, rfl⟩, rfl, trivial⟩
                · replace h := iteF h g641
                  conv => whnf
                  refine CutK.go ?_
                  conv => whnf
                  exact LoopOk.back (spec_shValue_l0_3_ct  n _ _ _ _ _ _ _ _ _ h) [some 128, some 192] [] ⟨⟨rfl, rfl⟩, ⟨rfl, ⟨rfl, rfl, rfl, trivial⟩, ⟨rfl, rfl, rfl, rfl, rfl, rfl, rfl, rfl, rfl, trivial⟩, trivial⟩, rfl, ⟨rfl, rfl⟩, ⟨rfl, rfl⟩, rfl, trivial⟩
              · replace h := iteF h g640
                conv => whnf
                refine spl (fun g642 => ?_) (fun g642 => ?_)
                · replace h := iteT h g642
                  conv => whnf
                  refine CutK.go ?_
                  conv => whnf
                  exact LoopOk.back (spec_shValue_l0_3_ct  n _ _ _ _ _ _ _ _ _ h) [some 128, some 192] [] ⟨⟨rfl, rfl⟩, ⟨rfl, ⟨rfl, rfl, rfl, trivial⟩, ⟨rfl, rfl, rfl, rfl, rfl, rfl, rfl, rfl, rfl, trivial⟩, trivial⟩, rfl, ⟨rfl, rfl⟩, ⟨rfl, rfl⟩, rfl, trivial⟩
                · replace h := iteF h g642
                  conv => whnf
                  refine CutK.go ?_
                  conv => whnf
                  exact LoopOk.back (spec_shValue_l0_3_ct  n _ _ _ _ _ _ _ _ _ h) [some 128, some 192] [] ⟨⟨rfl, rfl⟩, ⟨rfl, ⟨rfl, rfl, rfl, trivial⟩, ⟨rfl, rfl, rfl, rfl, rfl, rfl, rfl, rfl, rfl, trivial⟩, trivial⟩, rfl, ⟨rfl, rfl⟩, ⟨rfl, rfl⟩, rfl, trivial⟩
          · replace h := iteN h g628
            conv => whnf
            exact ⟨_, _, [some 128, some 192], [], ⟨rfl, _, _, _, _, _, _, _, _, h, rfl, rfl⟩, ⟨⟨rfl, rfl⟩, ⟨rfl, ⟨rfl, rfl, rfl, trivial⟩, ⟨rfl, rfl, rfl, rfl, rfl, rfl, rfl, rfl, rfl, trivial⟩, trivial⟩, ⟨rfl, rfl⟩, ⟨rfl, rfl⟩, trivial⟩⟩
def spec_shValue_l0_4 (k : Nat) (a1 : ByteArray) (K0 : Int → Int → Int → Int → Int → Int → Bool → Bool → Option (Int × Int)) : Nat → Int → Int → Int → Int → Int → Int → Int → Bool → Bool → Option (Int × Int)
  | 0, _, _, _, _, _, _, _, _, _ => none
  | n + 1, v652, v653, v654, v655, v656, v657, v658, v659, v660 => (cond v659 (cond v660 (if v652 < (a1.size : Int) then (byteD a1 v652 fun b841 => (if (b841.toNat : Int) = (43 : Int) then ((spec_shWalk_step k v653 v654 v655 v656 v657 v658 true true true).bind fun y845 => (if y845.2.2.2.2.2.2.1 = true then (if y845.2.2.2.2.2.2.2 = true then (spec_shValue_l0_4 k a1 K0 n (IntKind.i64.wrap (v652 + 1)) y845.1 y845.2.1 y845.2.2.1 y845.2.2.2.1 y845.2.2.2.2.1 y845.2.2.2.2.2.1 true true) else (spec_shValue_l0_4 k a1 K0 n (IntKind.i64.wrap (v652 + 1)) y845.1 y845.2.1 y845.2.2.1 y845.2.2.2.1 y845.2.2.2.2.1 y845.2.2.2.2.2.1 true false)) else (if y845.2.2.2.2.2.2.2 = true then (spec_shValue_l0_4 k a1 K0 n (IntKind.i64.wrap (v652 + 1)) y845.1 y845.2.1 y845.2.2.1 y845.2.2.2.1 y845.2.2.2.2.1 y845.2.2.2.2.2.1 false true) else (spec_shValue_l0_4 k a1 K0 n (IntKind.i64.wrap (v652 + 1)) y845.1 y845.2.1 y845.2.2.1 y845.2.2.2.1 y845.2.2.2.2.1 y845.2.2.2.2.2.1 false false)))) else ((spec_shWalk_step k v653 v654 v655 v656 v657 v658 true true false).bind fun y850 => (if y850.2.2.2.2.2.2.1 = true then (if y850.2.2.2.2.2.2.2 = true then (spec_shValue_l0_4 k a1 K0 n (IntKind.i64.wrap (v652 + 1)) y850.1 y850.2.1 y850.2.2.1 y850.2.2.2.1 y850.2.2.2.2.1 y850.2.2.2.2.2.1 true true) else (spec_shValue_l0_4 k a1 K0 n (IntKind.i64.wrap (v652 + 1)) y850.1 y850.2.1 y850.2.2.1 y850.2.2.2.1 y850.2.2.2.2.1 y850.2.2.2.2.2.1 true false)) else (if y850.2.2.2.2.2.2.2 = true then (spec_shValue_l0_4 k a1 K0 n (IntKind.i64.wrap (v652 + 1)) y850.1 y850.2.1 y850.2.2.1 y850.2.2.2.1 y850.2.2.2.2.1 y850.2.2.2.2.2.1 false true) else (spec_shValue_l0_4 k a1 K0 n (IntKind.i64.wrap (v652 + 1)) y850.1 y850.2.1 y850.2.2.1 y850.2.2.2.1 y850.2.2.2.2.1 y850.2.2.2.2.2.1 false false)))))) else (K0 v653 v654 v655 v656 v657 v658 true true)) (if v652 < (a1.size : Int) then (byteD a1 v652 fun b826 => (if (b826.toNat : Int) = (43 : Int) then ((spec_shWalk_step k v653 v654 v655 v656 v657 v658 true false true).bind fun y830 => (if y830.2.2.2.2.2.2.1 = true then (if y830.2.2.2.2.2.2.2 = true then (spec_shValue_l0_4 k a1 K0 n (IntKind.i64.wrap (v652 + 1)) y830.1 y830.2.1 y830.2.2.1 y830.2.2.2.1 y830.2.2.2.2.1 y830.2.2.2.2.2.1 true true) else (spec_shValue_l0_4 k a1 K0 n (IntKind.i64.wrap (v652 + 1)) y830.1 y830.2.1 y830.2.2.1 y830.2.2.2.1 y830.2.2.2.2.1 y830.2.2.2.2.2.1 true false)) else (if y830.2.2.2.2.2.2.2 = true then (spec_shValue_l0_4 k a1 K0 n (IntKind.i64.wrap (v652 + 1)) y830.1 y830.2.1 y830.2.2.1 y830.2.2.2.1 y830.2.2.2.2.1 y830.2.2.2.2.2.1 false true) else (spec_shValue_l0_4 k a1 K0 n (IntKind.i64.wrap (v652 + 1)) y830.1 y830.2.1 y830.2.2.1 y830.2.2.2.1 y830.2.2.2.2.1 y830.2.2.2.2.2.1 false false)))) else ((spec_shWalk_step k v653 v654 v655 v656 v657 v658 true false false).bind fun y835 => (if y835.2.2.2.2.2.2.1 = true then (if y835.2.2.2.2.2.2.2 = true then (spec_shValue_l0_4 k a1 K0 n (IntKind.i64.wrap (v652 + 1)) y835.1 y835.2.1 y835.2.2.1 y835.2.2.2.1 y835.2.2.2.2.1 y835.2.2.2.2.2.1 true true) else (spec_shValue_l0_4 k a1 K0 n (IntKind.i64.wrap (v652 + 1)) y835.1 y835.2.1 y835.2.2.1 y835.2.2.2.1 y835.2.2.2.2.1 y835.2.2.2.2.2.1 true false)) else (if y835.2.2.2.2.2.2.2 = true then (spec_shValue_l0_4 k a1 K0 n (IntKind.i64.wrap (v652 + 1)) y835.1 y835.2.1 y835.2.2.1 y835.2.2.2.1 y835.2.2.2.2.1 y835.2.2.2.2.2.1 false true) else (spec_shValue_l0_4 k a1 K0 n (IntKind.i64.wrap (v652 + 1)) y835.1 y835.2.1 y835.2.2.1 y835.2.2.2.1 y835.2.2.2.2.1 y835.2.2.2.2.2.1 false false)))))) else (K0 v653 v654 v655 v656 v657 v658 false true))) (cond v660 (if v652 < (a1.size : Int) then (byteD a1 v652 fun b811 => (if (b811.toNat : Int) = (43 : Int) then ((spec_shWalk_step k v653 v654 v655 v656 v657 v658 false true true).bind fun y815 => (if y815.2.2.2.2.2.2.1 = true then (if y815.2.2.2.2.2.2.2 = true then (spec_shValue_l0_4 k a1 K0 n (IntKind.i64.wrap (v652 + 1)) y815.1 y815.2.1 y815.2.2.1 y815.2.2.2.1 y815.2.2.2.2.1 y815.2.2.2.2.2.1 true true) else (spec_shValue_l0_4 k a1 K0 n (IntKind.i64.wrap (v652 + 1)) y815.1 y815.2.1 y815.2.2.1 y815.2.2.2.1 y815.2.2.2.2.1 y815.2.2.2.2.2.1 true false)) else (if y815.2.2.2.2.2.2.2 = true then (spec_shValue_l0_4 k a1 K0 n (IntKind.i64.wrap (v652 + 1)) y815.1 y815.2.1 y815.2.2.1 y815.2.2.2.1 y815.2.2.2.2.1 y815.2.2.2.2.2.1 false true) else (spec_shValue_l0_4 k a1 K0 n (IntKind.i64.wrap (v652 + 1)) y815.1 y815.2.1 y815.2.2.1 y815.2.2.2.1 y815.2.2.2.2.1 y815.2.2.2.2.2.1 false false)))) else ((spec_shWalk_step k v653 v654 v655 v656 v657 v658 false true false).bind fun y820 => (if y820.2.2.2.2.2.2.1 = true then (if y820.2.2.2.2.2.2.2 = true then (spec_shValue_l0_4 k a1 K0 n (IntKind.i64.wrap (v652 + 1)) y820.1 y820.2.1 y820.2.2.1 y820.2.2.2.1 y820.2.2.2.2.1 y820.2.2.2.2.2.1 true true) else (spec_shValue_l0_4 k a1 K0 n (IntKind.i64.wrap (v652 + 1)) y820.1 y820.2.1 y820.2.2.1 y820.2.2.2.1 y820.2.2.2.2.1 y820.2.2.2.2.2.1 true false)) else (if y820.2.2.2.2.2.2.2 = true then (spec_shValue_l0_4 k a1 K0 n (IntKind.i64.wrap (v652 + 1)) y820.1 y820.2.1 y820.2.2.1 y820.2.2.2.1 y820.2.2.2.2.1 y820.2.2.2.2.2.1 false true) else (spec_shValue_l0_4 k a1 K0 n (IntKind.i64.wrap (v652 + 1)) y820.1 y820.2.1 y820.2.2.1 y820.2.2.2.1 y820.2.2.2.2.1 y820.2.2.2.2.2.1 false false)))))) else (K0 v653 v654 v655 v656 v657 v658 true false)) (if v652 < (a1.size : Int) then (byteD a1 v652 fun b796 => (if (b796.toNat : Int) = (43 : Int) then ((spec_shWalk_step k v653 v654 v655 v656 v657 v658 false false true).bind fun y800 => (if y800.2.2.2.2.2.2.1 = true then (if y800.2.2.2.2.2.2.2 = true then (spec_shValue_l0_4 k a1 K0 n (IntKind.i64.wrap (v652 + 1)) y800.1 y800.2.1 y800.2.2.1 y800.2.2.2.1 y800.2.2.2.2.1 y800.2.2.2.2.2.1 true true) else (spec_shValue_l0_4 k a1 K0 n (IntKind.i64.wrap (v652 + 1)) y800.1 y800.2.1 y800.2.2.1 y800.2.2.2.1 y800.2.2.2.2.1 y800.2.2.2.2.2.1 true false)) else (if y800.2.2.2.2.2.2.2 = true then (spec_shValue_l0_4 k a1 K0 n (IntKind.i64.wrap (v652 + 1)) y800.1 y800.2.1 y800.2.2.1 y800.2.2.2.1 y800.2.2.2.2.1 y800.2.2.2.2.2.1 false true) else (spec_shValue_l0_4 k a1 K0 n (IntKind.i64.wrap (v652 + 1)) y800.1 y800.2.1 y800.2.2.1 y800.2.2.2.1 y800.2.2.2.2.1 y800.2.2.2.2.2.1 false false)))) else ((spec_shWalk_step k v653 v654 v655 v656 v657 v658 false false false).bind fun y805 => (if y805.2.2.2.2.2.2.1 = true then (if y805.2.2.2.2.2.2.2 = true then (spec_shValue_l0_4 k a1 K0 n (IntKind.i64.wrap (v652 + 1)) y805.1 y805.2.1 y805.2.2.1 y805.2.2.2.1 y805.2.2.2.2.1 y805.2.2.2.2.2.1 true true) else (spec_shValue_l0_4 k a1 K0 n (IntKind.i64.wrap (v652 + 1)) y805.1 y805.2.1 y805.2.2.1 y805.2.2.2.1 y805.2.2.2.2.1 y805.2.2.2.2.2.1 true false)) else (if y805.2.2.2.2.2.2.2 = true then (spec_shValue_l0_4 k a1 K0 n (IntKind.i64.wrap (v652 + 1)) y805.1 y805.2.1 y805.2.2.1 y805.2.2.2.1 y805.2.2.2.2.1 y805.2.2.2.2.2.1 false true) else (spec_shValue_l0_4 k a1 K0 n (IntKind.i64.wrap (v652 + 1)) y805.1 y805.2.1 y805.2.2.1 y805.2.2.2.1 y805.2.2.2.2.1 y805.2.2.2.2.2.1 false false)))))) else (K0 v653 v654 v655 v656 v657 v658 false false))))
set_option maxRecDepth 100000 in
theorem spec_shValue_l0_4_ct {k : Nat} {a1 : ByteArray} {K0 : Int → Int → Int → Int → Int → Int → Bool → Bool → Option (Int × Int)} {r : Int × Int} : ∀ (n : Nat) (v652 : Int) (v653 : Int) (v654 : Int) (v655 : Int) (v656 : Int) (v657 : Int) (v658 : Int) (v659 : Bool) (v660 : Bool), spec_shValue_l0_4 k a1 K0 n v652 v653 v654 v655 v656 v657 v658 v659 v660 = some r → LoopOk prog 0 (lp f217 0) (mk 20 [(0, .d (D.str a1)), (2, .ptr 128 0), (3, .ptr 192 0), (4, .d (D.int .i64 v652))] [(128, .box 118 [.d (D.int .i64 0), .d (D.int .i64 0)]), (192, .box 206 [.d (D.int .i64 v653), .d (D.int .i64 v654), .d (D.int .i64 v655), .d (D.int .i64 v656), .d (D.int .i64 v657), .d (D.int .i64 v658), .d (D.bool v659), .d (D.bool v660)])]) (LoopEnd prog f217 0 20 (.agg [.d (D.int .i64 r.1), .d (D.int .i64 r.2)]) (⟨[], []⟩) (fun i ts os => (i = 0 ∧ ∃ v682 : Int, ∃ v683 : Int, ∃ v684 : Int, ∃ v685 : Int, ∃ v686 : Int, ∃ v687 : Int, ∃ v703 : Bool, ∃ v719 : Bool, K0 v682 v683 v684 v685 v686 v687 v703 v719 = some r ∧ ts = [(2, .ptr 128 0), (3, .ptr 192 0)] ∧ os = [(128, .box 118 [.d (D.int .i64 0), .d (D.int .i64 0)]), (192, .box 206 [.d (D.int .i64 v682), .d (D.int .i64 v683), .d (D.int .i64 v684), .d (D.int .i64 v685), .d (D.int .i64 v686), .d (D.int .i64 v687), .d (D.bool v719), .d (D.bool v703)])])))
  | 0, _, _, _, _, _, _, _, _, _, h => by
      rw [spec_shValue_l0_4] at h; cases h
  | n + 1, v652, v653, v654, v655, v656, v657, v658, v659, v660, h => by
      rw [spec_shValue_l0_4] at h
      cases v659
      · replace h := condF h
        cases v660
        · replace h := condF h
          refine LoopOk.step ?_
          conv => whnf
          refine splD (fun g795 => ?_) (fun g795 => ?_)
          · replace h := iteP h g795
            conv => whnf
            refine splF ?_
            conv => whnf
            refine splF ?_
            conv => whnf
            obtain ⟨g797, b796, e798, h⟩ := byteD_ex h
            refine Req.of g797 ?_
            refine Byte.of _ e798 ?_
            conv => whnf
            refine splD (fun g799 => ?_) (fun g799 => ?_)
            · replace h := iteP h g799
              conv => whnf
              refine Pick.no ?_
              conv => whnf
              obtain ⟨y800, e801, h⟩ := bind_ex h
              refine CallOk.of (spec_shWalk_step_ct e801) ?_
              conv => whnf
              refine spl (fun g802 => ?_) (fun g802 => ?_)
              · replace h := iteT h g802
                conv => whnf
                refine spl (fun g803 => ?_) (fun g803 => ?_)
                · replace h := iteT h g803
                  conv => whnf
                  refine CutK.go ?_
                  conv => whnf
                  exact LoopOk.back (spec_shValue_l0_4_ct  n _ _ _ _ _ _ _ _ _ h) [some 128, some 192] [] ⟨⟨rfl, rfl⟩, ⟨rfl, ⟨rfl, rfl, rfl, trivial⟩, ⟨rfl, rfl, rfl, rfl, rfl, rfl, rfl, rfl, rfl, trivial⟩, trivial⟩, rfl, ⟨rfl, rfl⟩, ⟨rfl, rfl⟩, rfl, trivial⟩
                · replace h := iteF h g803
                  conv => whnf
                  refine CutK.go ?_
                  conv => whnf
                  exact LoopOk.back (spec_shValue_l0_4_ct  n _ _ _ _ _ _ _ _ _ h) [some 128, some 192] [] ⟨⟨rfl, rfl⟩, ⟨rfl, ⟨rfl, rfl, rfl, trivial⟩, ⟨rfl, rfl, rfl, rfl, rfl, rfl, rfl, rfl, rfl, trivial⟩, trivial⟩, rfl, ⟨rfl, rfl⟩, ⟨rfl, rfl⟩, rfl, trivial⟩
              · replace h := iteF h g802
                conv => whnf
                refine spl (fun g804 => ?_) (fun g804 => ?_)
                · replace h := iteT h g804
                  conv => whnf
                  refine CutK.go ?_
                  conv => whnf
                  exact LoopOk.back (spec_shValue_l0_4_ct  n _ _ _ _ _ _ _ _ _ h) [some 128, some 192] [] ⟨⟨rfl, rfl⟩, ⟨rfl, ⟨rfl, rfl, rfl, trivial⟩, ⟨rfl, rfl, rfl, rfl, rfl, rfl, rfl, rfl, rfl, trivial⟩, trivial⟩, rfl, ⟨rfl, rfl⟩, ⟨rfl, rfl⟩, rfl, trivial⟩
                · replace h := iteF h g804
                  conv => whnf
                  refine CutK.go ?_
                  conv => whnf
                  exact LoopOk.back (spec_shValue_l0_4_ct  n _ _ _ _ _ _ _ _ _ h) [some 128, some 192] [] ⟨⟨rfl, rfl⟩, ⟨rfl, ⟨rfl, rfl, rfl, trivial⟩, ⟨rfl, rfl, rfl, rfl, rfl, rfl, rfl, rfl, rfl, trivial⟩, trivial⟩, rfl, ⟨rfl, rfl⟩, ⟨rfl, rfl⟩, rfl, trivial⟩
            · replace h := iteN h g799
              conv => whnf
              refine Pick.no ?_
              conv => whnf
              obtain ⟨y805, e806, h⟩ := bind_ex h
              refine CallOk.of (spec_shWalk_step_ct e806) ?_
              conv => whnf
              refine spl (fun g807 => ?_) (fun g807 => ?_)
              · replace h := iteT h g807
                conv => whnf
                refine spl (fun g808 => ?_) (fun g808 => ?_)
                · replace h := iteT h g808
                  conv => whnf
                  refine CutK.go ?_
                  conv => whnf
                  exact LoopOk.back (spec_shValue_l0_4_ct  n _ _ _ _ _ _ _ _ _ h) [some 128, some 192] [] ⟨⟨rfl, rfl⟩, ⟨rfl, ⟨rfl, rfl, rfl, trivial⟩, ⟨rfl, rfl, rfl, rfl, rfl, rfl, rfl, rfl, rfl, trivial⟩, trivial⟩, rfl, ⟨rfl, rfl⟩, ⟨rfl, rfl⟩, rfl, trivial⟩
                · replace h := iteF h g808
                  conv => whnf
                  refine CutK.go ?_
                  conv => whnf
                  exact LoopOk.back (spec_shValue_l0_4_ct  n _ _ _ _ _ _ _ _ _ h) [some 128, some 192] [] ⟨⟨rfl, rfl⟩, ⟨rfl, ⟨rfl, rfl, rfl, trivial⟩, ⟨rfl, rfl, rfl, rfl, rfl, rfl, rfl, rfl, rfl, trivial⟩, trivial⟩, rfl, ⟨rfl, rfl⟩, ⟨rfl, rfl⟩, rfl, trivial⟩
              · replace h := iteF h g807
                conv => whnf
                refine spl (fun g809 => ?_) (fun g809 => ?_)
                · replace h := iteT h g809
                  conv => whnf
                  refine CutK.go ?_
                  conv => whnf
                  exact LoopOk.back (spec_shValue_l0_4_ct  n _ _ _ _ _ _ _ _ _ h) [some 128, some 192] [] ⟨⟨rfl, rfl⟩, ⟨rfl, ⟨rfl, rfl, rfl, trivial⟩, ⟨rfl, rfl, rfl, rfl, rfl, rfl, rfl, rfl, rfl, trivial⟩, trivial⟩, rfl, ⟨rfl, rfl⟩, ⟨rfl, rfl⟩, rfl, trivial⟩
                · replace h := iteF h g809
                  conv => whnf
                  refine CutK.go ?_
                  conv => whnf
                  exact LoopOk.back (spec_shValue_l0_4_ct  n _ _ _ _ _ _ _ _ _ h) [some 128, some 192] [] ⟨⟨rfl, rfl⟩, ⟨rfl, ⟨rfl, rfl, rfl, trivial⟩, ⟨rfl, rfl, rfl, rfl, rfl, rfl, rfl, rfl, rfl, trivial⟩, trivial⟩, rfl, ⟨rfl, rfl⟩, ⟨rfl, rfl⟩, rfl, trivial⟩
          · replace h := iteN h g795
            conv => whnf
            exact ⟨_, _, [some 128, some 192], [], ⟨rfl, _, _, _, _, _, _, _, _, h, rfl, rfl⟩, ⟨⟨rfl, rfl⟩, ⟨rfl, ⟨rfl, rfl, rfl, trivial⟩, ⟨rfl, rfl, rfl, rfl, rfl, rfl, rfl, rfl, rfl, trivial⟩, trivial⟩, ⟨rfl, rfl⟩, ⟨rfl, rfl⟩, trivial⟩⟩
        · replace h := condT h
          refine LoopOk.step ?_
          conv => whnf
          refine splD (fun g810 => ?_) (fun g810 => ?_)
          · replace h := iteP h g810
            conv => whnf
            refine splF ?_
            conv => whnf
            refine splT ?_
            conv => whnf
            obtain ⟨g812, b811, e813, h⟩ := byteD_ex h
            refine Req.of g812 ?_
            refine Byte.of _ e813 ?_
            conv => whnf
            refine splD (fun g814 => ?_) (fun g814 => ?_)
            · replace h := iteP h g814
              conv => whnf
              refine Pick.no ?_
              conv => whnf
              obtain ⟨y815, e816, h⟩ := bind_ex h
              refine CallOk.of (spec_shWalk_step_ct e816) ?_
              conv => whnf
              refine spl (fun g817 => ?_) (fun g817 => ?_)
              · replace h := iteT h g817
                conv => whnf
                refine spl (fun g818 => ?_) (fun g818 => ?_)
                · replace h := iteT h g818
                  conv => whnf
                  refine CutK.go ?_
                  conv => whnf
                  exact LoopOk.back (spec_shValue_l0_4_ct  n _ _ _ _ _ _ _ _ _ h) [some 128, some 192] [] ⟨⟨rfl, rfl⟩, ⟨rfl, ⟨rfl, rfl, rfl, trivial⟩, ⟨rfl, rfl, rfl, rfl, rfl, rfl, rfl, rfl, rfl, trivial⟩, trivial⟩, rfl, ⟨rfl, rfl⟩, ⟨rfl, rfl⟩, rfl, trivial⟩
                · replace h := iteF h g818
                  conv => whnf
                  refine CutK.go ?_
                  conv => whnf
                  exact LoopOk.back (spec_shValue_l0_4_ct  n _ _ _ _ _ _ _ _ _ h) [some 128, some 192] [] ⟨⟨rfl, rfl⟩, ⟨rfl, ⟨rfl, rfl, rfl, trivial⟩, ⟨rfl, rfl, rfl, rfl, rfl, rfl, rfl, rfl, rfl, trivial⟩, trivial⟩, rfl, ⟨rfl, rfl⟩, ⟨rfl, rfl⟩, rfl, trivial⟩
              · replace h := iteF h g817
                conv => whnf
                refine spl (fun g819 => ?_) (fun g819 => ?_)
                · replace h := iteT h g819
                  conv => whnf
                  refine CutK.go ?_
                  conv => whnf
                  exact LoopOk.back (spec_shValue_l0_4_ct  n _ _ _ _ _ _ _ _ _ h) [some 128, some 192] [] ⟨⟨rfl, rfl⟩, ⟨rfl, ⟨rfl, rfl, rfl, trivial⟩, ⟨rfl, rfl, rfl, rfl, rfl, rfl, rfl, rfl, rfl, trivial⟩, trivial⟩, rfl, ⟨rfl, rfl⟩, ⟨rfl, rfl⟩, rfl, trivial⟩
                · replace h := iteF h g819
                  conv => whnf
                  refine CutK.go ?_
                  conv => whnf
                  exact LoopOk.back (spec_shValue_l0_4_ct  n _ _ _ _ _ _ _ _ _ h) [some 128, some 192] [] ⟨⟨rfl, rfl⟩, ⟨rfl, ⟨rfl, rfl, rfl, trivial⟩, ⟨rfl, rfl, rfl, rfl, rfl, rfl, rfl, rfl, rfl, trivial⟩, trivial⟩, rfl, ⟨rfl, rfl⟩, ⟨rfl, rfl⟩, rfl, trivial⟩
            · replace h := iteN h g814
              conv => whnf
              refine Pick.no ?_
              conv => whnf
              obtain ⟨y820, e821, h⟩ := bind_ex h
              refine CallOk.of (spec_shWalk_step_ct e821) ?_
              conv => whnf
              refine spl (fun g822 => ?_) (fun g822 => ?_)
              · replace h := iteT h g822
                conv => whnf
                refine spl (fun g823 => ?_) (fun g823 => ?_)
                · replace h := iteT h g823
                  conv => whnf
                  refine CutK.go ?_
                  conv => whnf
                  exact LoopOk.back (spec_shValue_l0_4_ct  n _ _ _ _ _ _ _ _ _ h) [some 128, some 192] [] ⟨⟨rfl, rfl⟩, ⟨rfl, ⟨rfl, rfl, rfl, trivial⟩, ⟨rfl, rfl, rfl, rfl, rfl, rfl, rfl, rfl, rfl, trivial⟩, trivial⟩, rfl, ⟨rfl, rfl⟩, ⟨rfl, rfl⟩, rfl, trivial⟩
                · replace h := iteF h g823
                  conv => whnf
                  refine CutK.go ?_
                  conv => whnf
                  exact LoopOk.back (spec_shValue_l0_4_ct  n _ _ _ _ _ _ _ _ _ h) [some 128, some 192] [] ⟨⟨rfl, rfl⟩, ⟨rfl, ⟨rfl, rfl, rfl, trivial⟩, ⟨rfl, rfl, rfl, rfl, rfl, rfl, rfl, rfl, rfl, trivial⟩, trivial⟩, rfl, ⟨rfl, rfl⟩, ⟨rfl, rfl⟩, rfl, trivial⟩
              · replace h := iteF h g822
                conv => whnf
                refine spl (fun g824 => ?_) (fun g824 => ?_)
                · replace h := iteT h g824
                  conv => whnf
                  refine CutK.go ?_
                  conv => whnf
                  exact LoopOk.back (spec_shValue_l0_4_ct  n _ _ _ _ _ _ _ _ _ h) [some 128, some 192] [] ⟨⟨rfl, rfl⟩, ⟨rfl, ⟨rfl, rfl, rfl, trivial⟩, ⟨rfl, rfl, rfl, rfl, rfl, rfl, rfl, rfl, rfl, trivial⟩, trivial⟩, rfl, ⟨rfl, rfl⟩, ⟨rfl, rfl⟩, rfl, trivial⟩
                · replace h := iteF h g824
                  conv => whnf
                  refine CutK.go ?_
                  conv => whnf
                  exact LoopOk.back (spec_shValue_l0_4_ct  n _ _ _ _ _ _ _ _ _ h) [some 128, some 192] [] ⟨⟨rfl, rfl⟩, ⟨rfl, ⟨rfl, rfl, rfl, trivial⟩, ⟨rfl, rfl, rfl, rfl, rfl, rfl, rfl, rfl, rfl, trivial⟩, trivial⟩, rfl, ⟨rfl, rfl⟩, ⟨rfl, rfl⟩, rfl, trivial⟩
          · replace h := iteN h g810
            conv => whnf
            exact ⟨_, _, [some 128, some 192], [], ⟨rfl, _, _, _, _, _, _, _, _, h, rfl, rfl⟩, ⟨⟨rfl, rfl⟩, ⟨rfl, ⟨rfl, rfl, rfl, trivial⟩, ⟨rfl, rfl, rfl, rfl, rfl, rfl, rfl, rfl, rfl, trivial⟩, trivial⟩, ⟨rfl, rfl⟩, ⟨rfl, rfl⟩, trivial⟩⟩
      · replace h := condT h
        cases v660
        · replace h := condF h
          refine LoopOk.step ?_
          conv => whnf
          refine splD (fun g825 => ?_) (fun g825 => ?_)
          · replace h := iteP h g825
            conv => whnf
            refine splT ?_
            conv => whnf
            refine splF ?_
            conv => whnf
            obtain ⟨g827, b826, e828, h⟩ := byteD_ex h
            refine Req.of g827 ?_
            refine Byte.of _ e828 ?_
            conv => whnf
            refine splD (fun g829 => ?_) (fun g829 => ?_)
            · replace h := iteP h g829
              conv => whnf
              refine Pick.no ?_
              conv => whnf
              obtain ⟨y830, e831, h⟩ := bind_ex h
              refine CallOk.of (spec_shWalk_step_ct e831) ?_
              conv => whnf
              refine spl (fun g832 => ?_) (fun g832 => ?_)
              · replace h := iteT h g832
                conv => whnf
                refine spl (fun g833 => ?_) (fun g833 => ?_)
                · replace h := iteT h g833
                  conv => whnf
                  refine CutK.go ?_
                  conv => whnf
                  exact LoopOk.back (spec_shValue_l0_4_ct  n _ _ _ _ _ _ _ _ _ h) [some 128, some 192] [] ⟨⟨rfl, rfl⟩, ⟨rfl, ⟨rfl, rfl, rfl, trivial⟩, ⟨rfl, rfl, rfl, rfl, rfl, rfl, rfl, rfl, rfl, trivial⟩, trivial⟩, rfl, ⟨rfl, rfl⟩, ⟨rfl, rfl⟩, rfl, trivial⟩
                · replace h := iteF h g833
                  conv => whnf
                  refine CutK.go ?_
                  conv => whnf
                  exact LoopOk.back (spec_shValue_l0_4_ct  n _ _ _ _ _ _ _ _ _ h) [some 128, some 192] [] ⟨⟨rfl, rfl⟩, ⟨rfl, ⟨rfl, rfl, rfl, trivial⟩, ⟨rfl, rfl, rfl, rfl, rfl, rfl, rfl, rfl, rfl, trivial⟩, trivial⟩, rfl, ⟨rfl, rfl⟩, ⟨rfl, rfl⟩, rfl, trivial⟩
              · replace h := iteF h g832
                conv => whnf
                refine spl (fun g834 => ?_) (fun g834 => ?_)
                · replace h := iteT h g834
                  conv => whnf
                  refine CutK.go ?_
                  conv => whnf
                  exact LoopOk.back (spec_shValue_l0_4_ct  n _ _ _ _ _ _ _ _ _ h) [some 128, some 192] [] ⟨⟨rfl, rfl⟩, ⟨rfl, ⟨rfl, rfl, rfl, trivial⟩, ⟨rfl, rfl, rfl, rfl, rfl, rfl, rfl, rfl, rfl, trivial⟩, trivial⟩, rfl, ⟨rfl, rfl⟩, ⟨rfl, rfl⟩, rfl, trivial⟩
                · replace h := iteF h g834
                  conv => whnf
                  refine CutK.go ?_
                  conv => whnf
                  exact LoopOk.back (spec_shValue_l0_4_ct  n _ _ _ _ _ _ _ _ _ h) [some 128, some 192] [] ⟨⟨rfl, rfl⟩, ⟨rfl, ⟨rfl, rfl, rfl, trivial⟩, ⟨rfl, rfl, rfl, rfl, rfl, rfl, rfl, rfl, rfl, trivial⟩, trivial⟩, rfl, ⟨rfl, rfl⟩, ⟨rfl, rfl⟩, rfl, trivial⟩
            · replace h := iteN h g829
              conv => whnf
              refine Pick.no ?_
              conv => whnf
              obtain ⟨y835, e836, h⟩ := bind_ex h
              refine CallOk.of (spec_shWalk_step_ct e836) ?_
              conv => whnf
              refine spl (fun g837 => ?_) (fun g837 => ?_)
              · replace h := iteT h g837
                conv => whnf
                refine spl (fun g838 => ?_) (fun g838 => ?_)
                · replace h := iteT h g838
                  conv => whnf
                  refine CutK.go ?_
                  conv => whnf
                  exact LoopOk.back (spec_shValue_l0_4_ct  n _ _ _ _ _ _ _ _ _ h) [some 128, some 192] [] ⟨⟨rfl, rfl⟩, ⟨rfl, ⟨rfl, rfl, rfl, trivial⟩, ⟨rfl, rfl, rfl, rfl, rfl, rfl, rfl, rfl, rfl, trivial⟩, trivial⟩, rfl, ⟨rfl, rfl⟩, ⟨rfl, rfl⟩, rfl, trivial⟩
                · replace h := iteF h g838
                  conv => whnf
                  refine CutK.go ?_
                  conv => whnf
                  exact LoopOk.back (spec_shValue_l0_4_ct  n _ _ _ _ _ _ _ _ _ h) [some 128, some 192] [] ⟨⟨rfl, rfl⟩, ⟨rfl, ⟨rfl, rfl, rfl, trivial⟩, ⟨rfl, rfl, rfl, rfl, rfl, rfl, rfl, rfl, rfl, trivial⟩, trivial⟩, rfl, ⟨rfl, rfl⟩, ⟨rfl, rfl⟩, rfl, trivial⟩
              · replace h := iteF h g837
                conv => whnf
                refine spl (fun g839 => ?_) (fun g839 => ?_)
                · replace h := iteT h g839
                  conv => whnf
                  refine CutK.go ?_
                  conv => whnf
                  exact LoopOk.back (spec_shValue_l0_4_ct  n _ _ _ _ _ _ _ _ _ h) [some 128, some 192] [] ⟨⟨rfl, rfl⟩, ⟨rfl, ⟨rfl, rfl, rfl, trivial⟩, ⟨rfl, rfl, rfl, rfl, rfl, rfl, rfl, rfl, rfl, trivial⟩, trivial⟩, rfl, ⟨rfl, rfl⟩, ⟨rfl, rfl⟩, rfl, trivial⟩
                · replace h := iteF h g839
                  conv => whnf
                  refine CutK.go ?_
                  conv => whnf
                  exact LoopOk.back (spec_shValue_l0_4_ct  n _ _ _ _ _ _ _ _ _ h) [some 128, some 192] [] ⟨⟨rfl, rfl⟩, ⟨rfl, ⟨rfl, rfl, rfl, trivial⟩, ⟨rfl, rfl, rfl, rfl, rfl, rfl, rfl, rfl, rfl, trivial⟩, trivial⟩, rfl, ⟨rfl, rfl⟩, ⟨rfl, rfl⟩, rfl, trivial⟩
          · replace h := iteN h g825
            conv => whnf
            exact ⟨_, _, [some 128, some 192], [], ⟨rfl, _, _, _, _, _, _, _, _, h, rfl, rfl⟩, ⟨⟨rfl, rfl⟩, ⟨rfl, ⟨rfl, rfl, rfl, trivial⟩, ⟨rfl, rfl, rfl, rfl, rfl, rfl, rfl, rfl, rfl, trivial⟩, trivial⟩, ⟨rfl, rfl⟩, ⟨rfl, rfl⟩, trivial⟩⟩
        · replace h := condT h
          refine LoopOk.step ?_
          conv => whnf
          refine splD (fun g840 => ?_) (fun g840 => ?_)
          · replace h := iteP h g840
            conv => whnf
            refine splT ?_
            conv => whnf
            refine splT ?_
            conv => whnf
            obtain ⟨g842, b841, e843, h⟩ := byteD_ex h
            refine Req.of g842 ?_
            refine Byte.of _ e843 ?_
            conv => whnf
            refine splD (fun g844 => ?_) (fun g844 => ?_)
            · replace h := iteP h g844
              conv => whnf
              refine Pick.no ?_
              conv => whnf
              obtain ⟨y845, e846, h⟩ := bind_ex h
              refine CallOk.of (spec_shWalk_step_ct e846) ?_
              conv => whnf
              refine spl (fun g847 => ?_) (fun g847 => ?_)
              · replace h := iteT h g847
                conv => whnf
                refine spl (fun g848 => ?_) (fun g848 => ?_)
                · replace h := iteT h g848
                  conv => whnf
                  refine CutK.go ?_
                  conv => whnf
                  exact LoopOk.back (spec_shValue_l0_4_ct  n _ _ _ _ _ _ _ _ _ h) [some 128, some 192] [] ⟨⟨rfl, rfl⟩, ⟨rfl, ⟨rfl, rfl, rfl, trivial⟩, ⟨rfl, rfl, rfl, rfl, rfl, rfl, rfl, rfl, rfl, trivial⟩, trivial⟩, rfl, ⟨rfl, rfl⟩, ⟨rfl, rfl⟩, rfl, trivial⟩
                · replace h := iteF h g848
                  conv => whnf
                  refine CutK.go ?_
                  conv => whnf
                  exact LoopOk.back (spec_shValue_l0_4_ct  n _ _ _ _ _ _ _ _ _ h) [some 128, some 192] [] ⟨⟨rfl, rfl⟩, ⟨rfl, ⟨rfl, rfl, rfl, trivial⟩, ⟨rfl, rfl, rfl, rfl, rfl, rfl, rfl, rfl, rfl, trivial⟩, trivial⟩, rfl, ⟨rfl, rfl⟩, ⟨rfl, rfl⟩, rfl, trivial⟩
              · replace h := iteF h g847
                conv => whnf
                refine spl (fun g849 => ?_) (fun g849 => ?_)
                · replace h := iteT h g849
                  conv => whnf
                  refine CutK.go ?_
                  conv => whnf
                  exact LoopOk.back (spec_shValue_l0_4_ct  n _ _ _ _ _ _ _ _ _ h) [some 128, some 192] [] ⟨⟨rfl, rfl⟩, ⟨rfl, ⟨rfl, rfl, rfl, trivial⟩, ⟨rfl, rfl, rfl, rfl, rfl, rfl, rfl, rfl, rfl, trivial⟩, trivial⟩, rfl, ⟨rfl, rfl⟩, ⟨rfl, rfl⟩, rfl, trivial⟩
                · replace h := iteF h g849
                  conv => whnf
                  refine CutK.go ?_
                  conv => whnf
                  exact LoopOk.back (spec_shValue_l0_4_ct  n _ _ _ _ _ _ _ _ _ h) [some 128, some 192] [] ⟨⟨rfl, rfl⟩, ⟨rfl, ⟨rfl, rfl, rfl, trivial⟩, ⟨rfl, rfl, rfl, rfl, rfl, rfl, rfl, rfl, rfl, trivial⟩, trivial⟩, rfl, ⟨rfl, rfl⟩, ⟨rfl, rfl⟩, rfl, trivial⟩
            · replace h := iteN h g844
              conv => whnf
              refine Pick.no ?_
              conv => whnf
              obtain ⟨y850, e851, h⟩ := bind_ex h
              refine CallOk.of (spec_shWalk_step_ct e851) ?_
              conv => whnf
              refine spl (fun g852 => ?_) (fun g852 => ?_)
              · replace h := iteT h g852
                conv => whnf
                refine spl (fun g853 => ?_) (fun g853 => ?_)
                · replace h := iteT h g853
                  conv => whnf
                  refine CutK.go ?_
                  conv => whnf
                  exact LoopOk.back (spec_shValue_l0_4_ct  n _ _ _ _ _ _ _ _ _ h) [some 128, some 192] [] ⟨⟨rfl, rfl⟩, ⟨rfl, ⟨rfl, rfl, rfl, trivial⟩, ⟨rfl, rfl, rfl, rfl, rfl, rfl, rfl, rfl, rfl, trivial⟩, trivial⟩, rfl, ⟨rfl, rfl⟩, ⟨rfl, rfl⟩, rfl, trivial⟩
                · replace h := iteF h g853
                  conv => whnf
                  refine CutK.go ?_
                  conv => whnf
                  exact LoopOk.back (spec_shValue_l0_4_ct  n _ _ _ _ _ _ _ _ _ h) [some 128, some 192] [] ⟨⟨rfl, rfl⟩, ⟨rfl, ⟨rfl, rfl, rfl, trivial⟩, ⟨rfl, rfl, rfl, rfl, rfl, rfl, rfl, rfl, rfl, trivial⟩, trivial⟩, rfl, ⟨rfl, rfl⟩, ⟨rfl, rfl⟩, rfl, trivial⟩
              · replace h := iteF h g852
                conv => whnf
                refine spl (fun g854 => ?_) (fun g854 => ?_)
                · replace h := iteT h g854
                  conv => whnf
                  refine CutK.go ?_
                  conv => whnf
                  exact LoopOk.back (spec_shValue_l0_4_ct  n _ _ _ _ _ _ _ _ _ h) [some 128, some 192] [] ⟨⟨rfl, rfl⟩, ⟨rfl, ⟨rfl, rfl, rfl, trivial⟩, ⟨rfl, rfl, rfl, rfl, rfl, rfl, rfl, rfl, rfl, trivial⟩, trivial⟩, rfl, ⟨rfl, rfl⟩, ⟨rfl, rfl⟩, rfl, trivial⟩
                · replace h := iteF h g854
                  conv => whnf
                  refine CutK.go ?_
                  conv => whnf
                  exact LoopOk.back (spec_shValue_l0_4_ct  n _ _ _ _ _ _ _ _ _ h) [some 128, some 192] [] ⟨⟨rfl, rfl⟩, ⟨rfl, ⟨rfl, rfl, rfl, trivial⟩, ⟨rfl, rfl, rfl, rfl, rfl, rfl, rfl, rfl, rfl, trivial⟩, trivial⟩, rfl, ⟨rfl, rfl⟩, ⟨rfl, rfl⟩, rfl, trivial⟩
          · replace h := iteN h g840
            conv => whnf
            exact ⟨_, _, [some 128, some 192], [], ⟨rfl, _, _, _, _, _, _, _, _, h, rfl, rfl⟩, ⟨⟨rfl, rfl⟩, ⟨rfl, ⟨rfl, rfl, rfl, trivial⟩, ⟨rfl, rfl, rfl, rfl, rfl, rfl, rfl, rfl, rfl, trivial⟩, trivial⟩, ⟨rfl, rfl⟩, ⟨rfl, rfl⟩, trivial⟩⟩
def spec_shValue (k : Nat) (a1 : ByteArray) : Option (Int × Int) :=
  ((spec_shStart).bind fun y2 => (if y2.2.2.2.2.2.2.1 = true then (if y2.2.2.2.2.2.2.2 = true then (spec_shValue_l0 k a1 (fun (v45 : Int) (v46 : Int) (v47 : Int) (v48 : Int) (v49 : Int) (v50 : Int) (v51 : Bool) (v52 : Bool) => (cond v51 (cond v52 (some (v45, v46)) (some (v45, v46))) (cond v52 (some (v45, v46)) (some (v45, v46))))) k 0 y2.1 y2.2.1 y2.2.2.1 y2.2.2.2.1 y2.2.2.2.2.1 y2.2.2.2.2.2.1 true true) else (spec_shValue_l0_2 k a1 (fun (v257 : Int) (v258 : Int) (v259 : Int) (v260 : Int) (v261 : Int) (v262 : Int) (v263 : Bool) (v294 : Bool) => (cond v263 (cond v294 (some (v257, v258)) (some (v257, v258))) (cond v294 (some (v257, v258)) (some (v257, v258))))) k 0 y2.1 y2.2.1 y2.2.2.1 y2.2.2.2.1 y2.2.2.2.2.1 y2.2.2.2.2.2.1 false true)) else (if y2.2.2.2.2.2.2.2 = true then (spec_shValue_l0_3 k a1 (fun (v470 : Int) (v471 : Int) (v472 : Int) (v473 : Int) (v474 : Int) (v475 : Int) (v476 : Bool) (v507 : Bool) => (cond v476 (cond v507 (some (v470, v471)) (some (v470, v471))) (cond v507 (some (v470, v471)) (some (v470, v471))))) k 0 y2.1 y2.2.1 y2.2.2.1 y2.2.2.2.1 y2.2.2.2.2.1 y2.2.2.2.2.2.1 false true) else (spec_shValue_l0_4 k a1 (fun (v682 : Int) (v683 : Int) (v684 : Int) (v685 : Int) (v686 : Int) (v687 : Int) (v703 : Bool) (v719 : Bool) => (cond v703 (cond v719 (some (v682, v683)) (some (v682, v683))) (cond v719 (some (v682, v683)) (some (v682, v683))))) k 0 y2.1 y2.2.1 y2.2.2.1 y2.2.2.2.1 y2.2.2.2.2.1 y2.2.2.2.2.2.1 false false))))
set_option maxHeartbeats 4000000 in
set_option maxRecDepth 100000 in
theorem spec_shValue_ct {k : Nat} {a1 : ByteArray} {r : Int × Int} (h : spec_shValue k a1 = some r) : Ct prog 217 [.d (D.str a1)] (⟨[], []⟩) (.agg [.d (D.int .i64 r.1), .d (D.int .i64 r.2)]) (⟨[], []⟩) := by
  rw [spec_shValue] at h
  refine Ct.of (c := _) mixed func217 ⟨rfl, rfl, rfl⟩ ?_ rfl
  conv => whnf
  refine Pick.no ?_
  conv => whnf
  obtain ⟨y2, e3, h⟩ := bind_ex h
  refine CallOk.of (spec_shStart_ct e3) ?_
  conv => whnf
  refine spl (fun g4 => ?_) (fun g4 => ?_)
  · replace h := iteT h g4
    conv => whnf
    refine spl (fun g5 => ?_) (fun g5 => ?_)
    · replace h := iteT h g5
      conv => whnf
      refine CutK.go ?_
      conv => whnf
      refine LoopOk.into (spec_shValue_l0_ct  _ _ _ _ _ _ _ _ _ _ h) [some 128, some 192] [] ⟨⟨rfl, rfl⟩, ⟨rfl, ⟨rfl, rfl, rfl, trivial⟩, ⟨rfl, rfl, rfl, rfl, rfl, rfl, rfl, rfl, rfl, trivial⟩, trivial⟩, rfl, ⟨rfl, rfl⟩, ⟨rfl, rfl⟩, rfl, trivial⟩ ?_ (fun _ hs => hs)
      rintro i ts os ⟨rfl, v45, v46, v47, v48, v49, v50, v51, v52, h, rfl, rfl⟩
      cases v51
      · replace h := condF h
        cases v52
        · replace h := condF h
          conv => whnf
          refine CutK.go ?_
          conv => whnf
          cases h
          exact Done.of [] [] rfl rfl ⟨⟨rfl, rfl⟩, ⟨rfl, trivial⟩, ⟨rfl, rfl, trivial⟩, trivial⟩
        · replace h := condT h
          conv => whnf
          refine CutK.go ?_
          conv => whnf
          cases h
          exact Done.of [] [] rfl rfl ⟨⟨rfl, rfl⟩, ⟨rfl, trivial⟩, ⟨rfl, rfl, trivial⟩, trivial⟩
      · replace h := condT h
        cases v52
        · replace h := condF h
          conv => whnf
          refine CutK.go ?_
          conv => whnf
          cases h
          exact Done.of [] [] rfl rfl ⟨⟨rfl, rfl⟩, ⟨rfl, trivial⟩, ⟨rfl, rfl, trivial⟩, trivial⟩
        · replace h := condT h
          conv => whnf
          refine CutK.go ?_
          conv => whnf
          cases h
          exact Done.of [] [] rfl rfl ⟨⟨rfl, rfl⟩, ⟨rfl, trivial⟩, ⟨rfl, rfl, trivial⟩, trivial⟩
    · replace h := iteF h g5
      conv => whnf
      refine CutK.go ?_
      conv => whnf
      refine LoopOk.into (spec_shValue_l0_2_ct  _ _ _ _ _ _ _ _ _ _ h) [some 128, some 192] [] ⟨⟨rfl, rfl⟩, ⟨rfl, ⟨rfl, rfl, rfl, trivial⟩, ⟨rfl, rfl, rfl, rfl, rfl, rfl, rfl, rfl, rfl, trivial⟩, trivial⟩, rfl, ⟨rfl, rfl⟩, ⟨rfl, rfl⟩, rfl, trivial⟩ ?_ (fun _ hs => hs)
      rintro i ts os ⟨rfl, v257, v258, v259, v260, v261, v262, v263, v294, h, rfl, rfl⟩
      cases v263
      · replace h := condF h
        cases v294
        · replace h := condF h
          conv => whnf
          refine CutK.go ?_
          conv => whnf
          cases h
          exact Done.of [] [] rfl rfl ⟨⟨rfl, rfl⟩, ⟨rfl, trivial⟩, ⟨rfl, rfl, trivial⟩, trivial⟩
        · replace h := condT h
          conv => whnf
          refine CutK.go ?_
          conv => whnf
          cases h
          exact Done.of [] [] rfl rfl ⟨⟨rfl, rfl⟩, ⟨rfl, trivial⟩, ⟨rfl, rfl, trivial⟩, trivial⟩
      · replace h := condT h
        cases v294
        · replace h := condF h
          conv => whnf
          refine CutK.go ?_
          conv => whnf
          cases h
          exact Done.of [] [] rfl rfl ⟨⟨rfl, rfl⟩, ⟨rfl, trivial⟩, ⟨rfl, rfl, trivial⟩, trivial⟩
        · replace h := condT h
          conv => whnf
          refine CutK.go ?_
          conv => whnf
          cases h
          exact Done.of [] [] rfl rfl ⟨⟨rfl, rfl⟩, ⟨rfl, trivial⟩, ⟨rfl, rfl, trivial⟩, trivial⟩
  · replace h := iteF h g4
    conv => whnf
    refine spl (fun g430 => ?_) (fun g430 => ?_)
    · replace h := iteT h g430
      conv => whnf
      refine CutK.go ?_
      conv => whnf
      refine LoopOk.into (spec_shValue_l0_3_ct  _ _ _ _ _ _ _ _ _ _ h) [some 128, some 192] [] ⟨⟨rfl, rfl⟩, ⟨rfl, ⟨rfl, rfl, rfl, trivial⟩, ⟨rfl, rfl, rfl, rfl, rfl, rfl, rfl, rfl, rfl, trivial⟩, trivial⟩, rfl, ⟨rfl, rfl⟩, ⟨rfl, rfl⟩, rfl, trivial⟩ ?_ (fun _ hs => hs)
      rintro i ts os ⟨rfl, v470, v471, v472, v473, v474, v475, v476, v507, h, rfl, rfl⟩
      cases v476
      · replace h := condF h
        cases v507
        · replace h := condF h
          conv => whnf
          refine CutK.go ?_
          conv => whnf
          cases h
          exact Done.of [] [] rfl rfl ⟨⟨rfl, rfl⟩, ⟨rfl, trivial⟩, ⟨rfl, rfl, trivial⟩, trivial⟩
        · replace h := condT h
          conv => whnf
          refine CutK.go ?_
          conv => whnf
          cases h
          exact Done.of [] [] rfl rfl ⟨⟨rfl, rfl⟩, ⟨rfl, trivial⟩, ⟨rfl, rfl, trivial⟩, trivial⟩
      · replace h := condT h
        cases v507
        · replace h := condF h
          conv => whnf
          refine CutK.go ?_
          conv => whnf
          cases h
          exact Done.of [] [] rfl rfl ⟨⟨rfl, rfl⟩, ⟨rfl, trivial⟩, ⟨rfl, rfl, trivial⟩, trivial⟩
        · replace h := condT h
          conv => whnf
          refine CutK.go ?_
          conv => whnf
          cases h
          exact Done.of [] [] rfl rfl ⟨⟨rfl, rfl⟩, ⟨rfl, trivial⟩, ⟨rfl, rfl, trivial⟩, trivial⟩
    · replace h := iteF h g430
      conv => whnf
      refine CutK.go ?_
      conv => whnf
      refine LoopOk.into (spec_shValue_l0_4_ct  _ _ _ _ _ _ _ _ _ _ h) [some 128, some 192] [] ⟨⟨rfl, rfl⟩, ⟨rfl, ⟨rfl, rfl, rfl, trivial⟩, ⟨rfl, rfl, rfl, rfl, rfl, rfl, rfl, rfl, rfl, trivial⟩, trivial⟩, rfl, ⟨rfl, rfl⟩, ⟨rfl, rfl⟩, rfl, trivial⟩ ?_ (fun _ hs => hs)
      rintro i ts os ⟨rfl, v682, v683, v684, v685, v686, v687, v703, v719, h, rfl, rfl⟩
      cases v703
      · replace h := condF h
        cases v719
        · replace h := condF h
          conv => whnf
          refine CutK.go ?_
          conv => whnf
          cases h
          exact Done.of [] [] rfl rfl ⟨⟨rfl, rfl⟩, ⟨rfl, trivial⟩, ⟨rfl, rfl, trivial⟩, trivial⟩
        · replace h := condT h
          conv => whnf
          refine CutK.go ?_
          conv => whnf
          cases h
          exact Done.of [] [] rfl rfl ⟨⟨rfl, rfl⟩, ⟨rfl, trivial⟩, ⟨rfl, rfl, trivial⟩, trivial⟩
      · replace h := condT h
        cases v719
        · replace h := condF h
          conv => whnf
          refine CutK.go ?_
          conv => whnf
          cases h
          exact Done.of [] [] rfl rfl ⟨⟨rfl, rfl⟩, ⟨rfl, trivial⟩, ⟨rfl, rfl, trivial⟩, trivial⟩
        · replace h := condT h
          conv => whnf
          refine CutK.go ?_
          conv => whnf
          cases h
          exact Done.of [] [] rfl rfl ⟨⟨rfl, rfl⟩, ⟨rfl, trivial⟩, ⟨rfl, rfl, trivial⟩, trivial⟩

def spec_l1Cur_fraction (k : Nat) (a1 : Rw) (a2 : Int) (a3 : Int) : Option (Int × Int × Rw × Int × Int) :=
  ((spec_l1Cur_pick a1 a2 a3 8).bind fun y4 => (if y4.1 = (0 : Int) then ((spec_l1Cur_pick y4.2.1 y4.2.2.1 y4.2.2.2 41).bind fun y7 => ((spec_l1Cur_pick y7.2.1 y7.2.2.1 y7.2.2.2 30).bind fun y9 => ((spec_shMake k (IntKind.i64.wrap (y7.1 - 20)) (IntKind.i64.wrap (1 + y9.1))).bind fun y11 => some (y11.1, y11.2, y9.2.1, y9.2.2.1, y9.2.2.2)))) else (if y4.1 = (1 : Int) then ((spec_l1Cur_pick y4.2.1 y4.2.2.1 y4.2.2.2 9).bind fun y14 => ((spec_shInt (IntKind.i64.wrap (y14.1 - 4))).bind fun y16 => some (y16.1, y16.2, y14.2.1, y14.2.2.1, y14.2.2.2))) else (if y4.1 = (2 : Int) then ((spec_l1Cur_among y4.2.1 y4.2.2.1 y4.2.2.2 ([[D.int .i64 0], [D.int .i64 0], [D.int .i64 2], [D.int .i64 (-2)], [D.int .i64 1000000], [D.int .i64 (-999999)], [D.int .i64 (-9223372036854775808)], [D.int .i64 1000001]] : Rw)).bind fun y19 => ((spec_l1Cur_among y19.2.1 y19.2.2.1 y19.2.2.2 ([[D.int .i64 1], [D.int .i64 1], [D.int .i64 1], [D.int .i64 3], [D.int .i64 1000000], [D.int .i64 0], [D.int .i64 (-1)], [D.int .i64 1000001]] : Rw)).bind fun y21 => some (y19.1, y21.1, y21.2.1, y21.2.2.1, y21.2.2.2))) else (if y4.1 = (3 : Int) then ((spec_l1Cur_pick y4.2.1 y4.2.2.1 y4.2.2.2 2000).bind fun y24 => ((spec_l1Cur_pick y24.2.1 y24.2.2.1 y24.2.2.2 2000).bind fun y26 => ((spec_shMake k (IntKind.i64.wrap (y24.1 - 1000)) (IntKind.i64.wrap (1 + y26.1))).bind fun y28 => some (y28.1, y28.2, y26.2.1, y26.2.2.1, y26.2.2.2)))) else ((spec_l1Cur_among y4.2.1 y4.2.2.1 y4.2.2.2 ([[D.int .i64 2], [D.int .i64 4], [D.int .i64 8], [D.int .i64 20]] : Rw)).bind fun y30 => ((spec_l1Cur_word k y30.2.1 y30.2.2.1 y30.2.2.2 y30.1).bind fun y32 => ((spec_shValue k y32.1).bind fun y34 => some (y34.1, y34.2, y32.2.1, y32.2.2.1, y32.2.2.2)))))))))
set_option maxHeartbeats 4000000 in
set_option maxRecDepth 100000 in
theorem spec_l1Cur_fraction_ct {k : Nat} {a1 : Rw} {a2 : Int} {a3 : Int} {r : Int × Int × Rw × Int × Int} (h : spec_l1Cur_fraction k a1 a2 a3 = some r) : Ct prog 194 [.ptr 0 0] (⟨[(91, [.d (D.sl a1), .d (D.int .i64 a2), .d (D.int .u64 a3)])], []⟩) (.agg [.d (D.int .i64 r.1), .d (D.int .i64 r.2.1)]) (⟨[(91, [.d (D.sl r.2.2.1), .d (D.int .i64 r.2.2.2.1), .d (D.int .u64 r.2.2.2.2)])], []⟩) := by
  rw [spec_l1Cur_fraction] at h
  refine Ct.of (c := _) mixed func194 ⟨rfl, rfl, rfl⟩ ?_ rfl
  conv => whnf
  refine Pick.no ?_
  conv => whnf
  obtain ⟨y4, e5, h⟩ := bind_ex h
  refine CallOk.of (spec_l1Cur_pick_ct e5) ?_
  conv => whnf
  refine CutK.norm [0, 2, 4] [0, 128] ?_
  conv => whnf
  refine splD (fun g6 => ?_) (fun g6 => ?_)
  · replace h := iteP h g6
    conv => whnf
    refine Pick.no ?_
    conv => whnf
    obtain ⟨y7, e8, h⟩ := bind_ex h
    refine CallOk.of (spec_l1Cur_pick_ct e8) ?_
    conv => whnf
    refine Pick.no ?_
    conv => whnf
    obtain ⟨y9, e10, h⟩ := bind_ex h
    refine CallOk.of (spec_l1Cur_pick_ct e10) ?_
    conv => whnf
    refine Pick.no ?_
    conv => whnf
    obtain ⟨y11, e12, h⟩ := bind_ex h
    refine CallOk.of (spec_shMake_ct e12) ?_
    conv => whnf
    refine CutK.norm [2] [0, 128] ?_
    conv => whnf
    cases h
    exact Done.of [some 0] [] rfl rfl ⟨⟨rfl, rfl⟩, ⟨rfl, ⟨rfl, rfl, rfl, rfl, trivial⟩, trivial⟩, ⟨rfl, rfl, trivial⟩, trivial⟩
  · replace h := iteN h g6
    conv => whnf
    refine splD (fun g13 => ?_) (fun g13 => ?_)
    · replace h := iteP h g13
      conv => whnf
      refine Pick.no ?_
      conv => whnf
      obtain ⟨y14, e15, h⟩ := bind_ex h
      refine CallOk.of (spec_l1Cur_pick_ct e15) ?_
      conv => whnf
      refine Pick.no ?_
      conv => whnf
      obtain ⟨y16, e17, h⟩ := bind_ex h
      refine CallOk.of (spec_shInt_ct e17) ?_
      conv => whnf
      refine CutK.norm [2] [0, 128] ?_
      conv => whnf
      cases h
      exact Done.of [some 0] [] rfl rfl ⟨⟨rfl, rfl⟩, ⟨rfl, ⟨rfl, rfl, rfl, rfl, trivial⟩, trivial⟩, ⟨rfl, rfl, trivial⟩, trivial⟩
    · replace h := iteN h g13
      conv => whnf
      refine splD (fun g18 => ?_) (fun g18 => ?_)
      · replace h := iteP h g18
        conv => whnf
        refine Pick.no ?_
        conv => whnf
        refine Take.all (by first | rfl | exact List.length_append.symm | (simp; done) | omega) ?_
        conv => whnf
        obtain ⟨y19, e20, h⟩ := bind_ex h
        refine CallOk.of (spec_l1Cur_among_ct e20) ?_
        conv => whnf
        refine Pick.no ?_
        conv => whnf
        refine Take.all (by first | rfl | exact List.length_append.symm | (simp; done) | omega) ?_
        conv => whnf
        obtain ⟨y21, e22, h⟩ := bind_ex h
        refine CallOk.of (spec_l1Cur_among_ct e22) ?_
        conv => whnf
        refine CutK.norm [2] [0, 128] ?_
        conv => whnf
        cases h
        exact Done.of [some 0] [] rfl rfl ⟨⟨rfl, rfl⟩, ⟨rfl, ⟨rfl, rfl, rfl, rfl, trivial⟩, trivial⟩, ⟨rfl, rfl, trivial⟩, trivial⟩
      · replace h := iteN h g18
        conv => whnf
        refine splD (fun g23 => ?_) (fun g23 => ?_)
        · replace h := iteP h g23
          conv => whnf
          refine Pick.no ?_
          conv => whnf
          obtain ⟨y24, e25, h⟩ := bind_ex h
          refine CallOk.of (spec_l1Cur_pick_ct e25) ?_
          conv => whnf
          refine Pick.no ?_
          conv => whnf
          obtain ⟨y26, e27, h⟩ := bind_ex h
          refine CallOk.of (spec_l1Cur_pick_ct e27) ?_
          conv => whnf
          refine Pick.no ?_
          conv => whnf
          obtain ⟨y28, e29, h⟩ := bind_ex h
          refine CallOk.of (spec_shMake_ct e29) ?_
          conv => whnf
          refine CutK.norm [2] [0, 128] ?_
          conv => whnf
          cases h
          exact Done.of [some 0] [] rfl rfl ⟨⟨rfl, rfl⟩, ⟨rfl, ⟨rfl, rfl, rfl, rfl, trivial⟩, trivial⟩, ⟨rfl, rfl, trivial⟩, trivial⟩
        · replace h := iteN h g23
          conv => whnf
          refine CutK.norm [0, 2] [0, 128] ?_
          conv => whnf
          refine Pick.no ?_
          conv => whnf
          refine Take.all (by first | rfl | exact List.length_append.symm | (simp; done) | omega) ?_
          conv => whnf
          obtain ⟨y30, e31, h⟩ := bind_ex h
          refine CallOk.of (spec_l1Cur_among_ct e31) ?_
          conv => whnf
          refine Pick.no ?_
          conv => whnf
          obtain ⟨y32, e33, h⟩ := bind_ex h
          refine CallOk.of (spec_l1Cur_word_ct e33) ?_
          conv => whnf
          refine Pick.no ?_
          conv => whnf
          obtain ⟨y34, e35, h⟩ := bind_ex h
          refine CallOk.of (spec_shValue_ct e35) ?_
          conv => whnf
          refine CutK.norm [2] [0, 128] ?_
          conv => whnf
          cases h
          exact Done.of [some 0] [] rfl rfl ⟨⟨rfl, rfl⟩, ⟨rfl, ⟨rfl, rfl, rfl, rfl, trivial⟩, trivial⟩, ⟨rfl, rfl, trivial⟩, trivial⟩

def spec_l1Sign  (a1 : Int) : Option Int :=
  (if (0 : Int) < a1 then some 1 else (if a1 < (0 : Int) then some (-1) else some 0))
set_option maxHeartbeats 4000000 in
set_option maxRecDepth 100000 in
theorem spec_l1Sign_ct  {a1 : Int} {r : Int} (h : spec_l1Sign a1 = some r) : Ct prog 198 [.d (D.int .i64 a1)] (⟨[], []⟩) (.d (D.int .i64 r)) (⟨[], []⟩) := by
  rw [spec_l1Sign] at h
  refine Ct.of (c := _) mixed func198 ⟨rfl, rfl, rfl⟩ ?_ rfl
  conv => whnf
  refine splD (fun g2 => ?_) (fun g2 => ?_)
  · replace h := iteP h g2
    conv => whnf
    cases h
    exact Done.of [] [] rfl rfl ⟨⟨rfl, rfl⟩, ⟨rfl, trivial⟩, rfl, trivial⟩
  · replace h := iteN h g2
    conv => whnf
    refine splD (fun g3 => ?_) (fun g3 => ?_)
    · replace h := iteP h g3
      conv => whnf
      cases h
      exact Done.of [] [] rfl rfl ⟨⟨rfl, rfl⟩, ⟨rfl, trivial⟩, rfl, trivial⟩
    · replace h := iteN h g3
      conv => whnf
      cases h
      exact Done.of [] [] rfl rfl ⟨⟨rfl, rfl⟩, ⟨rfl, trivial⟩, rfl, trivial⟩

def spec_suSign  (a1 : Rw) : Option Int :=
  (if (a1.length : Int) = (0 : Int) then some 0 else (row_sii a1 0 fun x3 x4 x5 => ((spec_l1Sign x4).bind fun y8 => some y8)))
set_option maxHeartbeats 4000000 in
set_option maxRecDepth 100000 in
theorem spec_suSign_ct  {a1 : Rw} {r : Int} (h : spec_suSign a1 = some r) : Ct prog 200 [.d (D.sl a1)] (⟨[], []⟩) (.d (D.int .i64 r)) (⟨[], []⟩) := by
  rw [spec_suSign] at h
  refine Ct.of (c := _) mixed func200 ⟨rfl, rfl, rfl⟩ ?_ rfl
  conv => whnf
  refine splD (fun g2 => ?_) (fun g2 => ?_)
  · replace h := iteP h g2
    conv => whnf
    cases h
    exact Done.of [] [] rfl rfl ⟨⟨rfl, rfl⟩, ⟨rfl, trivial⟩, rfl, trivial⟩
  · replace h := iteN h g2
    conv => whnf
    obtain ⟨g7, x3, x4, x5, e6, h⟩ := row_sii_ex h
    refine Req.of g7 ?_
    refine Row.of _ e6 ?_
    conv => whnf
    refine Pick.no ?_
    conv => whnf
    obtain ⟨y8, e9, h⟩ := bind_ex h
    refine CallOk.of (spec_l1Sign_ct e9) ?_
    conv => whnf
    refine CutK.go ?_
    conv => whnf
    cases h
    exact Done.of [] [] rfl rfl ⟨⟨rfl, rfl⟩, ⟨rfl, trivial⟩, rfl, trivial⟩

def spec_shCmp  (a1 : Int) (a2 : Int) (a3 : Int) (a4 : Int) : Option Int :=
  ((spec_l1Sign (IntKind.i64.wrap ((IntKind.i64.wrap (a1 * a4)) - (IntKind.i64.wrap (a3 * a2))))).bind fun y5 => some y5)
set_option maxHeartbeats 4000000 in
set_option maxRecDepth 100000 in
theorem spec_shCmp_ct  {a1 : Int} {a2 : Int} {a3 : Int} {a4 : Int} {r : Int} (h : spec_shCmp a1 a2 a3 a4 = some r) : Ct prog 199 [.agg [.d (D.int .i64 a1), .d (D.int .i64 a2)], .agg [.d (D.int .i64 a3), .d (D.int .i64 a4)]] (⟨[], []⟩) (.d (D.int .i64 r)) (⟨[], []⟩) := by
  rw [spec_shCmp] at h
  refine Ct.of (c := _) mixed func199 ⟨rfl, rfl, rfl⟩ ?_ rfl
  conv => whnf
  refine Pick.no ?_
  conv => whnf
  obtain ⟨y5, e6, h⟩ := bind_ex h
  refine CallOk.of (spec_l1Sign_ct e6) ?_
  conv => whnf
  refine CutK.go ?_
  conv => whnf
  cases h
  exact Done.of [] [] rfl rfl ⟨⟨rfl, rfl⟩, ⟨rfl, trivial⟩, rfl, trivial⟩
end
end Go.Proofs.Try
