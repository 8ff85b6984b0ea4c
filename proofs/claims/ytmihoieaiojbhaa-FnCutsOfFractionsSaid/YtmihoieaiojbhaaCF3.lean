/- Printed by program (axgen): pure functions, and that the Go functions compute them. -/
import Derived.Test.YtmihoieaiojbhaaCF2
set_option linter.unusedVariables false
set_option linter.unusedSimpArgs false
namespace Go.Proofs.Try
open Go Go.AX
noncomputable section
def impl_simplest (k : Nat) (a1 : Rw) (a2 : Rw) : Option (Int × Int × Bool) :=
  ((impl_walk__simplest_1_2 k a1 a2).bind fun y3 => (if 0 ≤ (IntKind.i64.wrap ((y3.1.length : Int) - 1)) ∧ (IntKind.i64.wrap ((y3.1.length : Int) - 1)) < (y3.1.length : Int) then (row_i y3.1 (IntKind.i64.wrap ((y3.1.length : Int) - 1)) fun x6 => ((slices_ContainsFunc__simplest_2 y3.2.2.2.2.1 x6).bind fun y9 => (if y9.1 = true then some (0, 0, false) else ((slices_ContainsFunc__simplest_3 y3.2.2.2.2.2 y9.2).bind fun y12 => (if y12.1 = true then some (0, 0, false) else ((impl_fromUnits k y12.2).bind fun y15 => some (y15.1, y15.2, true))))))) else none))
set_option maxHeartbeats 4000000 in
set_option maxRecDepth 100000 in
theorem impl_simplest_ct {k : Nat} {a1 : Rw} {a2 : Rw} {r : Int × Int × Bool} (h : impl_simplest k a1 a2 = some r) : Ct prog 44 [.d (D.sl a1), .d (D.sl a2)] (⟨[], []⟩) (.tup [.agg [.d (D.int .i64 r.1), .d (D.int .i64 r.2.1)], .d (D.bool r.2.2)]) (⟨[], []⟩) := by
  rw [impl_simplest] at h
  refine Ct.of (c := _) mixed func44 ⟨rfl, rfl, rfl⟩ ?_ rfl
  conv => whnf
  refine Pick.no ?_
  conv => whnf
  obtain ⟨y3, e4, h⟩ := bind_ex h
  refine CallOk.of (impl_walk__simplest_1_2_ct e4) ?_
  conv => whnf
  refine CutK.norm [2, 3, 4, 6] [128, 192, 256, 896] ?_
  conv => whnf
  obtain ⟨g5, h⟩ := req_ex h
  refine Req.of g5 ?_
  conv => whnf
  obtain ⟨g8, x6, e7, h⟩ := row_i_ex h
  refine Row.of _ e7 ?_
  conv => whnf
  refine Pick.no ?_
  conv => whnf
  obtain ⟨y9, e10, h⟩ := bind_ex h
  refine CallOk.of (slices_ContainsFunc__simplest_2_ct e10) ?_
  conv => whnf
  refine spl (fun g11 => ?_) (fun g11 => ?_)
  · replace h := iteT h g11
    conv => whnf
    refine CutK.norm [3, 4, 10, 11] [192, 256, 640] ?_
    conv => whnf
    refine CutK.norm [4, 10, 11] [256, 640] ?_
    conv => whnf
    cases h
    exact Done.of [] [] rfl rfl ⟨⟨rfl, rfl⟩, ⟨rfl, trivial⟩, ⟨⟨rfl, rfl, trivial⟩, rfl, trivial⟩, trivial⟩
  · replace h := iteF h g11
    conv => whnf
    refine CutK.norm [3, 4, 10, 11] [192, 256, 640] ?_
    conv => whnf
    refine Pick.no ?_
    conv => whnf
    obtain ⟨y12, e13, h⟩ := bind_ex h
    refine CallOk.of (slices_ContainsFunc__simplest_3_ct e13) ?_
    conv => whnf
    refine spl (fun g14 => ?_) (fun g14 => ?_)
    · replace h := iteT h g14
      conv => whnf
      refine CutK.norm [4, 10, 11] [256, 640] ?_
      conv => whnf
      cases h
      exact Done.of [] [] rfl rfl ⟨⟨rfl, rfl⟩, ⟨rfl, trivial⟩, ⟨⟨rfl, rfl, trivial⟩, rfl, trivial⟩, trivial⟩
    · replace h := iteF h g14
      conv => whnf
      refine CutK.norm [4, 10, 11] [256, 640] ?_
      conv => whnf
      refine Pick.no ?_
      conv => whnf
      obtain ⟨y15, e16, h⟩ := bind_ex h
      refine CallOk.of (impl_fromUnits_ct e16) ?_
      conv => whnf
      refine CutK.norm [4, 5] [256] ?_
      conv => whnf
      cases h
      exact Done.of [] [] rfl rfl ⟨⟨rfl, rfl⟩, ⟨rfl, trivial⟩, ⟨⟨rfl, rfl, trivial⟩, rfl, trivial⟩, trivial⟩

def impl_SimplestOf (k : Nat) (a1 : Rw) (a2 : Rw) : Option (Int × Int × Bool) :=
  ((impl_fractionsOk k a1).bind fun y3 => (if y3 = true then ((impl_fractionsOk k a2).bind fun y6 => (if y6 = true then ((impl_simplest k a1 a2).bind fun y9 => (if y9.2.2 = true then some (y9.1, y9.2.1, true) else some (y9.1, y9.2.1, false))) else some (0, 0, false))) else some (0, 0, false)))
set_option maxHeartbeats 4000000 in
set_option maxRecDepth 100000 in
theorem impl_SimplestOf_ct {k : Nat} {a1 : Rw} {a2 : Rw} {r : Int × Int × Bool} (h : impl_SimplestOf k a1 a2 = some r) : Ct prog 9 [.d (D.sl a1), .d (D.sl a2)] (⟨[], []⟩) (.tup [.agg [.d (D.int .i64 r.1), .d (D.int .i64 r.2.1)], .d (D.bool r.2.2)]) (⟨[], []⟩) := by
  rw [impl_SimplestOf] at h
  refine Ct.of (c := _) mixed func9 ⟨rfl, rfl, rfl⟩ ?_ rfl
  conv => whnf
  refine Pick.no ?_
  conv => whnf
  obtain ⟨y3, e4, h⟩ := bind_ex h
  refine CallOk.of (impl_fractionsOk_ct e4) ?_
  conv => whnf
  refine spl (fun g5 => ?_) (fun g5 => ?_)
  · replace h := iteT h g5
    conv => whnf
    refine Pick.no ?_
    conv => whnf
    obtain ⟨y6, e7, h⟩ := bind_ex h
    refine CallOk.of (impl_fractionsOk_ct e7) ?_
    conv => whnf
    refine spl (fun g8 => ?_) (fun g8 => ?_)
    · replace h := iteT h g8
      conv => whnf
      refine CutK.go ?_
      conv => whnf
      refine CutK.go ?_
      conv => whnf
      refine Pick.no ?_
      conv => whnf
      obtain ⟨y9, e10, h⟩ := bind_ex h
      refine CallOk.of (impl_simplest_ct e10) ?_
      conv => whnf
      refine spl (fun g11 => ?_) (fun g11 => ?_)
      · replace h := iteT h g11
        conv => whnf
        refine CutK.go ?_
        conv => whnf
        cases h
        exact Done.of [] [] rfl rfl ⟨⟨rfl, rfl⟩, ⟨rfl, trivial⟩, ⟨⟨rfl, rfl, trivial⟩, rfl, trivial⟩, trivial⟩
      · replace h := iteF h g11
        conv => whnf
        refine CutK.go ?_
        conv => whnf
        cases h
        exact Done.of [] [] rfl rfl ⟨⟨rfl, rfl⟩, ⟨rfl, trivial⟩, ⟨⟨rfl, rfl, trivial⟩, rfl, trivial⟩, trivial⟩
    · replace h := iteF h g8
      conv => whnf
      refine CutK.go ?_
      conv => whnf
      cases h
      exact Done.of [] [] rfl rfl ⟨⟨rfl, rfl⟩, ⟨rfl, trivial⟩, ⟨⟨rfl, rfl, trivial⟩, rfl, trivial⟩, trivial⟩
  · replace h := iteF h g5
    conv => whnf
    refine CutK.go ?_
    conv => whnf
    cases h
    exact Done.of [] [] rfl rfl ⟨⟨rfl, rfl⟩, ⟨rfl, trivial⟩, ⟨⟨rfl, rfl, trivial⟩, rfl, trivial⟩, trivial⟩

def spec_l1Cur_one  (a1 : Rw) (a2 : Int) (a3 : Int) (a4 : Int) : Option (Bool × Rw × Int × Int) :=
  ((spec_l1Cur_pick a1 a2 a3 a4).bind fun y5 => (if y5.1 = (0 : Int) then some (true, y5.2.1, y5.2.2.1, y5.2.2.2) else some (false, y5.2.1, y5.2.2.1, y5.2.2.2)))
set_option maxHeartbeats 4000000 in
set_option maxRecDepth 100000 in
theorem spec_l1Cur_one_ct  {a1 : Rw} {a2 : Int} {a3 : Int} {a4 : Int} {r : Bool × Rw × Int × Int} (h : spec_l1Cur_one a1 a2 a3 a4 = some r) : Ct prog 38 [.ptr 0 0, .d (D.int .i64 a4)] (⟨[(81, [.d (D.sl a1), .d (D.int .i64 a2), .d (D.int .u64 a3)])], []⟩) (.d (D.bool r.1)) (⟨[(81, [.d (D.sl r.2.1), .d (D.int .i64 r.2.2.1), .d (D.int .u64 r.2.2.2)])], []⟩) := by
  rw [spec_l1Cur_one] at h
  refine Ct.of (c := _) mixed func38 ⟨rfl, rfl, rfl⟩ ?_ rfl
  conv => whnf
  refine Pick.no ?_
  conv => whnf
  obtain ⟨y5, e6, h⟩ := bind_ex h
  refine CallOk.of (spec_l1Cur_pick_ct e6) ?_
  conv => whnf
  refine splD (fun g7 => ?_) (fun g7 => ?_)
  · replace h := iteP h g7
    conv => whnf
    refine CutK.go ?_
    conv => whnf
    cases h
    exact Done.of [some 0] [] rfl rfl ⟨⟨rfl, rfl⟩, ⟨rfl, ⟨rfl, rfl, rfl, rfl, trivial⟩, trivial⟩, rfl, trivial⟩
  · replace h := iteN h g7
    conv => whnf
    refine CutK.go ?_
    conv => whnf
    cases h
    exact Done.of [some 0] [] rfl rfl ⟨⟨rfl, rfl⟩, ⟨rfl, ⟨rfl, rfl, rfl, rfl, trivial⟩, trivial⟩, rfl, trivial⟩

def spec_l1Cur_fractions_l0 (k : Nat) (K0 : Rw → Rw → Int → Int → Option (Rw × Rw × Int × Int)) : Nat → Rw → Int → Rw → Int → Int → Option (Rw × Rw × Int × Int)
  | 0, _, _, _, _, _ => none
  | n + 1, v10, v11, v12, v13, v14 => (if (0 : Int) < v11 then ((spec_l1Cur_fraction k v12 v13 v14).bind fun y28 => (if v10.length + 1 ≤ cap then (spec_l1Cur_fractions_l0 k K0 n (v10 ++ ([[D.int .i64 y28.1, D.int .i64 y28.2.1]])) (IntKind.i64.wrap (v11 - 1)) y28.2.2.1 y28.2.2.2.1 y28.2.2.2.2) else none)) else (K0 v10 v12 v13 v14))
set_option maxHeartbeats 4000000 in
set_option maxRecDepth 100000 in
theorem spec_l1Cur_fractions_l0_ct {k : Nat} {K0 : Rw → Rw → Int → Int → Option (Rw × Rw × Int × Int)} {r : Rw × Rw × Int × Int} : ∀ (n : Nat) (v10 : Rw) (v11 : Int) (v12 : Rw) (v13 : Int) (v14 : Int), spec_l1Cur_fractions_l0 k K0 n v10 v11 v12 v13 v14 = some r → LoopOk prog 1 (lp f39 0) (mk 21 [(0, .ptr 0 0), (5, .os 64000 v10.length), (6, .d (D.int .i64 v11))] [(0, .box 81 [.d (D.sl v12), .d (D.int .i64 v13), .d (D.int .u64 v14)]), (64000, .arr 28 true v10)]) (LoopEnd prog f39 1 21 (.os 8 r.1.length) (⟨[(81, [.d (D.sl r.2.1), .d (D.int .i64 r.2.2.1), .d (D.int .u64 r.2.2.2)])], [(28, true, r.1)]⟩) (fun i ts os => (i = 0 ∧ ∃ v19 : Rw, ∃ v20 : Rw, ∃ v21 : Int, ∃ v22 : Int, K0 v19 v20 v21 v22 = some r ∧ ts = [(5, .os 67001 v19.length)] ∧ os = [(0, .box 81 [.d (D.sl v20), .d (D.int .i64 v21), .d (D.int .u64 v22)]), (67001, .arr 28 true v19)])))
  | 0, _, _, _, _, _, h => by
      rw [spec_l1Cur_fractions_l0] at h; cases h
  | n + 1, v10, v11, v12, v13, v14, h => by
      rw [spec_l1Cur_fractions_l0] at h
      refine LoopOk.step ?_
      conv => whnf
      refine splD (fun g27 => ?_) (fun g27 => ?_)
      · replace h := iteP h g27
        conv => whnf
        refine Pick.no ?_
        conv => whnf
        obtain ⟨y28, e29, h⟩ := bind_ex h
        refine CallOk.of (spec_l1Cur_fraction_ct e29) ?_
        conv => whnf
        refine Take.all (rfl) ?_
        conv => whnf
        refine Take.all (by first | rfl | exact List.length_append.symm | (simp; done) | omega) ?_
        conv => whnf
        obtain ⟨g30, h⟩ := req_ex h
        refine Req.of (room (b := 16) (by decide) g30 (wide1 rfl wide0)) ?_
        conv => whnf
        refine CutK.go ?_
        conv => whnf
        exact LoopOk.back (spec_l1Cur_fractions_l0_ct  n _ _ _ _ _ h) [some 0, some 1216] [] ⟨⟨rfl, rfl⟩, ⟨rfl, ⟨rfl, rfl, rfl, rfl, trivial⟩, ⟨rfl, rfl, rows_same⟩, trivial⟩, ⟨rfl, rfl⟩, ⟨(by first | rfl | exact List.length_append.symm | (simp; done) | omega), rfl⟩, rfl, trivial⟩
      · replace h := iteN h g27
        conv => whnf
        exact ⟨_, _, [some 0, some 64000], [], ⟨rfl, _, _, _, _, h, rfl, rfl⟩, ⟨⟨rfl, rfl⟩, ⟨rfl, ⟨rfl, rfl, rfl, rfl, trivial⟩, ⟨rfl, rfl, rows_same⟩, trivial⟩, ⟨rfl, rfl⟩, trivial⟩⟩
def spec_l1Cur_fractions (k : Nat) (a1 : Rw) (a2 : Int) (a3 : Int) (a4 : Int) : Option (Rw × Rw × Int × Int) :=
  ((spec_l1Cur_pick a1 a2 a3 (IntKind.i64.wrap (a4 + 1))).bind fun y5 => (spec_l1Cur_fractions_l0 k (fun (v19 : Rw) (v20 : Rw) (v21 : Int) (v22 : Int) => some (v19, v20, v21, v22)) k ([] : Rw) y5.1 y5.2.1 y5.2.2.1 y5.2.2.2))
set_option maxHeartbeats 4000000 in
set_option maxRecDepth 100000 in
theorem spec_l1Cur_fractions_ct {k : Nat} {a1 : Rw} {a2 : Int} {a3 : Int} {a4 : Int} {r : Rw × Rw × Int × Int} (h : spec_l1Cur_fractions k a1 a2 a3 a4 = some r) : Ct prog 39 [.ptr 0 0, .d (D.int .i64 a4)] (⟨[(81, [.d (D.sl a1), .d (D.int .i64 a2), .d (D.int .u64 a3)])], []⟩) (.os 8 r.1.length) (⟨[(81, [.d (D.sl r.2.1), .d (D.int .i64 r.2.2.1), .d (D.int .u64 r.2.2.2)])], [(28, true, r.1)]⟩) := by
  rw [spec_l1Cur_fractions] at h
  refine Ct.of (c := _) mixed func39 ⟨rfl, rfl, rfl⟩ ?_ rfl
  conv => whnf
  refine Pick.no ?_
  conv => whnf
  obtain ⟨y5, e6, h⟩ := bind_ex h
  refine CallOk.of (spec_l1Cur_pick_ct e6) ?_
  conv => whnf
  refine CutK.go ?_
  conv => whnf
  refine LoopOk.into (spec_l1Cur_fractions_l0_ct  _ _ _ _ _ _ h) [some 0, none] [] ⟨⟨rfl, rfl⟩, ⟨rfl, ⟨rfl, rfl, rfl, rfl, trivial⟩, rfl, trivial⟩, ⟨rfl, rfl⟩, ⟨rfl, rfl⟩, rfl, trivial⟩ ?_ (fun _ hs => hs)
  rintro i ts os ⟨rfl, v19, v20, v21, v22, h, rfl, rfl⟩
  conv => whnf
  refine CutK.go ?_
  conv => whnf
  cases h
  exact Done.of [some 0, some 67001] [] rfl rfl ⟨⟨rfl, rfl⟩, ⟨rfl, ⟨rfl, rfl, rfl, rfl, trivial⟩, ⟨rfl, rfl, rows_same⟩, trivial⟩, ⟨rfl, rfl⟩, trivial⟩

def spec_l1Cur_good (k : Nat) (a1 : Rw) (a2 : Int) (a3 : Int) : Option (Int × Int × Rw × Int × Int) :=
  ((spec_l1Cur_fraction k a1 a2 a3).bind fun y4 => ((spec_shGood k y4.1 y4.2.1).bind fun y6 => (if y6 = true then some (y4.1, y4.2.1, y4.2.2.1, y4.2.2.2.1, y4.2.2.2.2) else some (1, 2, y4.2.2.1, y4.2.2.2.1, y4.2.2.2.2))))
set_option maxHeartbeats 4000000 in
set_option maxRecDepth 100000 in
theorem spec_l1Cur_good_ct {k : Nat} {a1 : Rw} {a2 : Int} {a3 : Int} {r : Int × Int × Rw × Int × Int} (h : spec_l1Cur_good k a1 a2 a3 = some r) : Ct prog 40 [.ptr 0 0] (⟨[(81, [.d (D.sl a1), .d (D.int .i64 a2), .d (D.int .u64 a3)])], []⟩) (.agg [.d (D.int .i64 r.1), .d (D.int .i64 r.2.1)]) (⟨[(81, [.d (D.sl r.2.2.1), .d (D.int .i64 r.2.2.2.1), .d (D.int .u64 r.2.2.2.2)])], []⟩) := by
  rw [spec_l1Cur_good] at h
  refine Ct.of (c := _) mixed func40 ⟨rfl, rfl, rfl⟩ ?_ rfl
  conv => whnf
  refine Pick.no ?_
  conv => whnf
  obtain ⟨y4, e5, h⟩ := bind_ex h
  refine CallOk.of (spec_l1Cur_fraction_ct e5) ?_
  conv => whnf
  refine CutK.go ?_
  conv => whnf
  refine Pick.no ?_
  conv => whnf
  obtain ⟨y6, e7, h⟩ := bind_ex h
  refine CallOk.of (spec_shGood_ct e7) ?_
  conv => whnf
  refine spl (fun g8 => ?_) (fun g8 => ?_)
  · replace h := iteT h g8
    conv => whnf
    refine CutK.go ?_
    conv => whnf
    refine CutK.go ?_
    conv => whnf
    cases h
    exact Done.of [some 0] [] rfl rfl ⟨⟨rfl, rfl⟩, ⟨rfl, ⟨rfl, rfl, rfl, rfl, trivial⟩, trivial⟩, ⟨rfl, rfl, trivial⟩, trivial⟩
  · replace h := iteF h g8
    conv => whnf
    refine CutK.go ?_
    conv => whnf
    cases h
    exact Done.of [some 0] [] rfl rfl ⟨⟨rfl, rfl⟩, ⟨rfl, ⟨rfl, rfl, rfl, rfl, trivial⟩, trivial⟩, ⟨rfl, rfl, trivial⟩, trivial⟩

def spec_DrawSimplestOf_p7 (o65 : Rw) (o66 : Rw) : Option (Rw × Rw) :=
  some (o65, o66)
set_option maxHeartbeats 4000000 in
set_option maxRecDepth 100000 in
theorem spec_DrawSimplestOf_p7_ct {o65 : Rw} {o66 : Rw} {r : Rw × Rw} (h : spec_DrawSimplestOf_p7 o65 o66 = some r) : X prog 0 (tlF f8 7) (mk 49 [(6, .os 1099000 o65.length), (7, .os 1099001 o66.length)] [(1099000, .arr 28 true o65), (1099001, .arr 28 true o66)]) (finK prog f8 0 (.tup [.os 8 r.1.length, .os 9 r.2.length]) (⟨[], [(28, true, r.1), (28, true, r.2)]⟩)) := by
  rw [spec_DrawSimplestOf_p7] at h
  conv => whnf
  cases h
  exact Done.of [some 1099000, some 1099001] [] rfl rfl ⟨⟨rfl, rfl⟩, ⟨rfl, ⟨rfl, rfl, rows_same⟩, ⟨rfl, rfl, rows_same⟩, trivial⟩, ⟨⟨rfl, rfl⟩, ⟨rfl, rfl⟩, trivial⟩, trivial⟩
def spec_DrawSimplestOf_p6 (k : Nat) (o54 : Rw) (o55 : Rw) (o56 : Rw) (o57 : Int) (o58 : Int) : Option (Rw × Rw) :=
  ((spec_l1Cur_one o56 o57 o58 10).bind fun y67 => (if y67.1 = true then ((spec_l1Cur_fractions k y67.2.1 y67.2.2.1 y67.2.2.2 30).bind fun y70 => (if o54.length + y70.1.length ≤ cap ∧ (∀ cs ∈ y70.1, cs.length = 2) then (spec_DrawSimplestOf_p7 (o54 ++ y70.1) o55) else none)) else (spec_DrawSimplestOf_p7 o54 o55)))
set_option maxHeartbeats 4000000 in
set_option maxRecDepth 100000 in
theorem spec_DrawSimplestOf_p6_ct {k : Nat} {o54 : Rw} {o55 : Rw} {o56 : Rw} {o57 : Int} {o58 : Int} {r : Rw × Rw} (h : spec_DrawSimplestOf_p6 k o54 o55 o56 o57 o58 = some r) : X prog 0 (tlF f8 6) (mk 49 [(4, .ptr 768 0), (6, .os 1094000 o54.length), (7, .os 1094001 o55.length)] [(768, .box 81 [.d (D.sl o56), .d (D.int .i64 o57), .d (D.int .u64 o58)]), (1094000, .arr 28 true o54), (1094001, .arr 28 true o55)]) (finK prog f8 0 (.tup [.os 8 r.1.length, .os 9 r.2.length]) (⟨[], [(28, true, r.1), (28, true, r.2)]⟩)) := by
  rw [spec_DrawSimplestOf_p6] at h
  conv => whnf
  refine Pick.no ?_
  conv => whnf
  obtain ⟨y67, e68, h⟩ := bind_ex h
  refine CallOk.of (spec_l1Cur_one_ct e68) ?_
  conv => whnf
  refine spl (fun g69 => ?_) (fun g69 => ?_)
  · replace h := iteT h g69
    conv => whnf
    refine CutK.norm [4, 6, 7, 42] [768, 1094000, 1094001] ?_
    conv => whnf
    refine Pick.no ?_
    conv => whnf
    obtain ⟨y70, e71, h⟩ := bind_ex h
    refine CallOk.of (spec_l1Cur_fractions_ct e71) ?_
    conv => whnf
    refine Take.all (rfl) ?_
    conv => whnf
    refine Take.all (rfl) ?_
    conv => whnf
    obtain ⟨g72, h⟩ := req_ex h
    refine Req.of (room (b := 16) (by decide) g72.1 g72.2) ?_
    conv => whnf
    exact CutK.piece (spec_DrawSimplestOf_p7_ct  h) [some 2944, some 1094001] [] ⟨⟨rfl, rfl⟩, ⟨rfl, ⟨rfl, rfl, rows_same⟩, ⟨rfl, rfl, rows_same⟩, trivial⟩, ⟨(by first | rfl | exact List.length_append.symm | (simp; done) | omega), rfl⟩, ⟨rfl, rfl⟩, trivial⟩
  · replace h := iteF h g69
    conv => whnf
    refine CutK.norm [4, 6, 7, 42] [768, 1094000, 1094001] ?_
    conv => whnf
    exact CutK.piece (spec_DrawSimplestOf_p7_ct  h) [some 1094000, some 1094001] [] ⟨⟨rfl, rfl⟩, ⟨rfl, ⟨rfl, rfl, rows_same⟩, ⟨rfl, rfl, rows_same⟩, trivial⟩, ⟨rfl, rfl⟩, ⟨rfl, rfl⟩, trivial⟩
def spec_DrawSimplestOf_l0 (k : Nat) (o14 : Int) (o15 : Int) (K0 : Rw → Rw → Rw → Int → Int → Option (Rw × Rw)) : Nat → Rw → Int → Rw → Int → Int → Rw → Option (Rw × Rw)
  | 0, _, _, _, _, _, _ => none
  | n + 1, v81, v82, v83, v84, v85, v86 => (if (0 : Int) < v82 then ((spec_l1Cur_good k v83 v84 v85).bind fun y109 => ((spec_shCmp y109.1 y109.2.1 o14 o15).bind fun y111 => (if y111 < (0 : Int) then (if v81.length + 1 ≤ cap then (spec_DrawSimplestOf_l0 k o14 o15 K0 n (v81 ++ ([[D.int .i64 y109.1, D.int .i64 y109.2.1]])) (IntKind.i64.wrap (v82 - 1)) y109.2.2.1 y109.2.2.2.1 y109.2.2.2.2 v86) else none) else (if v86.length + 1 ≤ cap then (spec_DrawSimplestOf_l0 k o14 o15 K0 n v81 (IntKind.i64.wrap (v82 - 1)) y109.2.2.1 y109.2.2.2.1 y109.2.2.2.2 (v86 ++ ([[D.int .i64 y109.1, D.int .i64 y109.2.1]]))) else none)))) else (K0 v81 v86 v83 v84 v85))
set_option maxHeartbeats 4000000 in
set_option maxRecDepth 100000 in
theorem spec_DrawSimplestOf_l0_ct {k : Nat} {o14 : Int} {o15 : Int} {K0 : Rw → Rw → Rw → Int → Int → Option (Rw × Rw)} {r : Rw × Rw} : ∀ (n : Nat) (v81 : Rw) (v82 : Int) (v83 : Rw) (v84 : Int) (v85 : Int) (v86 : Rw), spec_DrawSimplestOf_l0 k o14 o15 K0 n v81 v82 v83 v84 v85 v86 = some r → LoopOk prog 0 (lp f8 0) (mk 49 [(4, .ptr 768 0), (5, .ptr 320 0), (6, .os 64000 v81.length), (7, .os 64001 v86.length), (8, .d (D.int .i64 v82))] [(320, .box 28 [.d (D.int .i64 o14), .d (D.int .i64 o15)]), (768, .box 81 [.d (D.sl v83), .d (D.int .i64 v84), .d (D.int .u64 v85)]), (64000, .arr 28 true v81), (64001, .arr 28 true v86)]) (LoopEnd prog f8 0 49 (.tup [.os 8 r.1.length, .os 9 r.2.length]) (⟨[], [(28, true, r.1), (28, true, r.2)]⟩) (fun i ts os => (i = 0 ∧ ∃ v95 : Rw, ∃ v96 : Rw, ∃ v97 : Rw, ∃ v98 : Int, ∃ v99 : Int, K0 v95 v96 v97 v98 v99 = some r ∧ ts = [(4, .ptr 768 0), (6, .os 67002 v95.length), (7, .os 67003 v96.length)] ∧ os = [(768, .box 81 [.d (D.sl v97), .d (D.int .i64 v98), .d (D.int .u64 v99)]), (67002, .arr 28 true v95), (67003, .arr 28 true v96)])))
  | 0, _, _, _, _, _, _, h => by
      rw [spec_DrawSimplestOf_l0] at h; cases h
  | n + 1, v81, v82, v83, v84, v85, v86, h => by
      rw [spec_DrawSimplestOf_l0] at h
      refine LoopOk.step ?_
      conv => whnf
      refine splD (fun g108 => ?_) (fun g108 => ?_)
      · replace h := iteP h g108
        conv => whnf
        refine Pick.no ?_
        conv => whnf
        obtain ⟨y109, e110, h⟩ := bind_ex h
        refine CallOk.of (spec_l1Cur_good_ct e110) ?_
        conv => whnf
        refine CutK.norm [4, 5, 6, 7, 8, 9] [320, 576, 768, 64000, 64001] ?_
        conv => whnf
        refine Pick.no ?_
        conv => whnf
        obtain ⟨y111, e112, h⟩ := bind_ex h
        refine CallOk.of (spec_shCmp_ct e112) ?_
        conv => whnf
        refine splD (fun g113 => ?_) (fun g113 => ?_)
        · replace h := iteP h g113
          conv => whnf
          refine CutK.norm [4, 5, 6, 7, 8, 9, 32] [320, 576, 768, 64000, 64001] ?_
          conv => whnf
          refine Take.all (rfl) ?_
          conv => whnf
          refine Take.all (by first | rfl | exact List.length_append.symm | (simp; done) | omega) ?_
          conv => whnf
          obtain ⟨g114, h⟩ := req_ex h
          refine Req.of (room (b := 16) (by decide) g114 (wide1 rfl wide0)) ?_
          conv => whnf
          refine CutK.norm [4, 5, 6, 7, 8] [320, 768, 2304, 64001] ?_
          conv => whnf
          exact LoopOk.back (spec_DrawSimplestOf_l0_ct  n _ _ _ _ _ _ h) [some 320, some 768, some 2304, some 64001] [] ⟨⟨rfl, rfl⟩, ⟨rfl, ⟨rfl, rfl, rfl, trivial⟩, ⟨rfl, rfl, rfl, rfl, trivial⟩, ⟨rfl, rfl, rows_same⟩, ⟨rfl, rfl, rows_same⟩, trivial⟩, ⟨rfl, rfl⟩, ⟨rfl, rfl⟩, ⟨(by first | rfl | exact List.length_append.symm | (simp; done) | omega), rfl⟩, ⟨rfl, rfl⟩, rfl, trivial⟩
        · replace h := iteN h g113
          conv => whnf
          refine CutK.norm [4, 5, 6, 7, 8, 9, 32] [320, 576, 768, 64000, 64001] ?_
          conv => whnf
          refine Take.all (rfl) ?_
          conv => whnf
          refine Take.all (by first | rfl | exact List.length_append.symm | (simp; done) | omega) ?_
          conv => whnf
          obtain ⟨g115, h⟩ := req_ex h
          refine Req.of (room (b := 16) (by decide) g115 (wide1 rfl wide0)) ?_
          conv => whnf
          refine CutK.norm [4, 5, 6, 7, 8] [320, 768, 2560, 64000] ?_
          conv => whnf
          exact LoopOk.back (spec_DrawSimplestOf_l0_ct  n _ _ _ _ _ _ h) [some 320, some 768, some 64000, some 2560] [] ⟨⟨rfl, rfl⟩, ⟨rfl, ⟨rfl, rfl, rfl, trivial⟩, ⟨rfl, rfl, rfl, rfl, trivial⟩, ⟨rfl, rfl, rows_same⟩, ⟨rfl, rfl, rows_same⟩, trivial⟩, ⟨rfl, rfl⟩, ⟨rfl, rfl⟩, ⟨rfl, rfl⟩, ⟨(by first | rfl | exact List.length_append.symm | (simp; done) | omega), rfl⟩, rfl, trivial⟩
      · replace h := iteN h g108
        conv => whnf
        exact ⟨_, _, [some 768, some 64000, some 64001], [], ⟨rfl, _, _, _, _, _, h, rfl, rfl⟩, ⟨⟨rfl, rfl⟩, ⟨rfl, ⟨rfl, rfl, rfl, rfl, trivial⟩, ⟨rfl, rfl, rows_same⟩, ⟨rfl, rfl, rows_same⟩, trivial⟩, ⟨rfl, rfl⟩, ⟨rfl, rfl⟩, ⟨rfl, rfl⟩, trivial⟩⟩
def spec_DrawSimplestOf_p4 (k : Nat) (o14 : Int) (o15 : Int) (o16 : Rw) (o17 : Int) (o18 : Int) : Option (Rw × Rw) :=
  ((spec_l1Cur_pick o16 o17 o18 6).bind fun y73 => (spec_DrawSimplestOf_l0 k o14 o15 (fun (v95 : Rw) (v96 : Rw) (v97 : Rw) (v98 : Int) (v99 : Int) => (spec_DrawSimplestOf_p6 k v95 v96 v97 v98 v99)) k ([] : Rw) y73.1 y73.2.1 y73.2.2.1 y73.2.2.2 ([] : Rw)))
set_option maxHeartbeats 4000000 in
set_option maxRecDepth 100000 in
theorem spec_DrawSimplestOf_p4_ct {k : Nat} {o14 : Int} {o15 : Int} {o16 : Rw} {o17 : Int} {o18 : Int} {r : Rw × Rw} (h : spec_DrawSimplestOf_p4 k o14 o15 o16 o17 o18 = some r) : X prog 0 (tlF f8 4) (mk 49 [(4, .ptr 768 0), (5, .ptr 320 0)] [(320, .box 28 [.d (D.int .i64 o14), .d (D.int .i64 o15)]), (768, .box 81 [.d (D.sl o16), .d (D.int .i64 o17), .d (D.int .u64 o18)])]) (finK prog f8 0 (.tup [.os 8 r.1.length, .os 9 r.2.length]) (⟨[], [(28, true, r.1), (28, true, r.2)]⟩)) := by
  rw [spec_DrawSimplestOf_p4] at h
  conv => whnf
  refine Pick.no ?_
  conv => whnf
  obtain ⟨y73, e74, h⟩ := bind_ex h
  refine CallOk.of (spec_l1Cur_pick_ct e74) ?_
  conv => whnf
  refine CutK.norm [4, 5, 6, 7, 8] [320, 768] ?_
  conv => whnf
  refine LoopOk.into (spec_DrawSimplestOf_l0_ct  _ _ _ _ _ _ _ h) [some 320, some 768, none, none] [] ⟨⟨rfl, rfl⟩, ⟨rfl, ⟨rfl, rfl, rfl, trivial⟩, ⟨rfl, rfl, rfl, rfl, trivial⟩, rfl, rfl, trivial⟩, ⟨rfl, rfl⟩, ⟨rfl, rfl⟩, ⟨rfl, rfl⟩, ⟨rfl, rfl⟩, rfl, trivial⟩ ?_ (fun _ hs => hs)
  rintro i ts os ⟨rfl, v95, v96, v97, v98, v99, h, rfl, rfl⟩
  conv => whnf
  exact CutK.piece (spec_DrawSimplestOf_p6_ct  h) [some 768, some 67002, some 67003] [] ⟨⟨rfl, rfl⟩, ⟨rfl, ⟨rfl, rfl, rfl, rfl, trivial⟩, ⟨rfl, rfl, rows_same⟩, ⟨rfl, rfl, rows_same⟩, trivial⟩, ⟨rfl, rfl⟩, ⟨rfl, rfl⟩, ⟨rfl, rfl⟩, trivial⟩
def spec_DrawSimplestOf_p3 (k : Nat) (o9 : Rw) (o10 : Int) (o11 : Int) : Option (Rw × Rw) :=
  ((spec_l1Cur_good k o9 o10 o11).bind fun y116 => (spec_DrawSimplestOf_p4 k y116.1 y116.2.1 y116.2.2.1 y116.2.2.2.1 y116.2.2.2.2))
set_option maxHeartbeats 4000000 in
set_option maxRecDepth 100000 in
theorem spec_DrawSimplestOf_p3_ct {k : Nat} {o9 : Rw} {o10 : Int} {o11 : Int} {r : Rw × Rw} (h : spec_DrawSimplestOf_p3 k o9 o10 o11 = some r) : X prog 0 (tlF f8 3) (mk 49 [(4, .ptr 768 0)] [(768, .box 81 [.d (D.sl o9), .d (D.int .i64 o10), .d (D.int .u64 o11)])]) (finK prog f8 0 (.tup [.os 8 r.1.length, .os 9 r.2.length]) (⟨[], [(28, true, r.1), (28, true, r.2)]⟩)) := by
  rw [spec_DrawSimplestOf_p3] at h
  conv => whnf
  refine Pick.no ?_
  conv => whnf
  obtain ⟨y116, e117, h⟩ := bind_ex h
  refine CallOk.of (spec_l1Cur_good_ct e117) ?_
  conv => whnf
  exact CutK.piece (spec_DrawSimplestOf_p4_ct  h) [some 320, some 768] [] ⟨⟨rfl, rfl⟩, ⟨rfl, ⟨rfl, rfl, rfl, trivial⟩, ⟨rfl, rfl, rfl, rfl, trivial⟩, trivial⟩, ⟨rfl, rfl⟩, ⟨rfl, rfl⟩, trivial⟩
def spec_DrawSimplestOf (k : Nat) (a1 : Rw) : Option (Rw × Rw) :=
  ((spec_l1Cur_one a1 0 0 3).bind fun y118 => (if y118.1 = true then ((spec_l1Cur_fractions k y118.2.1 y118.2.2.1 y118.2.2.2 4).bind fun y121 => ((spec_l1Cur_fractions k y121.2.1 y121.2.2.1 y121.2.2.2 4).bind fun y123 => some (y121.1, y123.1))) else (spec_DrawSimplestOf_p3 k y118.2.1 y118.2.2.1 y118.2.2.2)))
set_option maxHeartbeats 4000000 in
set_option maxRecDepth 100000 in
theorem spec_DrawSimplestOf_ct {k : Nat} {a1 : Rw} {r : Rw × Rw} (h : spec_DrawSimplestOf k a1 = some r) : Ct prog 8 [.d (D.sl a1)] (⟨[], []⟩) (.tup [.os 8 r.1.length, .os 9 r.2.length]) (⟨[], [(28, true, r.1), (28, true, r.2)]⟩) := by
  rw [spec_DrawSimplestOf] at h
  refine Ct.of (c := _) mixed func8 ⟨rfl, rfl, rfl⟩ ?_ rfl
  conv => whnf
  refine Pick.no ?_
  conv => whnf
  obtain ⟨y118, e119, h⟩ := bind_ex h
  refine CallOk.of (spec_l1Cur_one_ct e119) ?_
  conv => whnf
  refine spl (fun g120 => ?_) (fun g120 => ?_)
  · replace h := iteT h g120
    conv => whnf
    refine CutK.norm [4, 14] [768] ?_
    conv => whnf
    refine Pick.no ?_
    conv => whnf
    obtain ⟨y121, e122, h⟩ := bind_ex h
    refine CallOk.of (spec_l1Cur_fractions_ct e122) ?_
    conv => whnf
    refine Pick.no ?_
    conv => whnf
    obtain ⟨y123, e124, h⟩ := bind_ex h
    refine CallOk.of (spec_l1Cur_fractions_ct e124) ?_
    conv => whnf
    refine CutK.norm [2, 3] [1024, 1152] ?_
    conv => whnf
    cases h
    exact Done.of [some 1024, some 1152] [] rfl rfl ⟨⟨rfl, rfl⟩, ⟨rfl, ⟨rfl, rfl, rows_same⟩, ⟨rfl, rfl, rows_same⟩, trivial⟩, ⟨⟨rfl, rfl⟩, ⟨rfl, rfl⟩, trivial⟩, trivial⟩
  · replace h := iteF h g120
    conv => whnf
    refine CutK.norm [4, 14] [768] ?_
    conv => whnf
    exact CutK.piece (spec_DrawSimplestOf_p3_ct  h) [some 768] [] ⟨⟨rfl, rfl⟩, ⟨rfl, ⟨rfl, rfl, rfl, rfl, trivial⟩, trivial⟩, ⟨rfl, rfl⟩, trivial⟩

def laws_big  (a1 : Rw) (a2 : Rw) : Option Bool :=
  (if (1048576 : Int) < (a1.length : Int) then some true else (if (IntKind.i64.wrap (1048576 - (a1.length : Int))) < (a2.length : Int) then some true else some false))
set_option maxHeartbeats 4000000 in
set_option maxRecDepth 100000 in
theorem laws_big_ct  {a1 : Rw} {a2 : Rw} {r : Bool} (h : laws_big a1 a2 = some r) : Ct prog 7 [.d (D.sl a1), .d (D.sl a2)] (⟨[], []⟩) (.d (D.bool r)) (⟨[], []⟩) := by
  rw [laws_big] at h
  refine Ct.of (c := _) mixed func7 ⟨rfl, rfl, rfl⟩ ?_ rfl
  conv => whnf
  refine splD (fun g3 => ?_) (fun g3 => ?_)
  · replace h := iteP h g3
    conv => whnf
    cases h
    exact Done.of [] [] rfl rfl ⟨⟨rfl, rfl⟩, ⟨rfl, trivial⟩, rfl, trivial⟩
  · replace h := iteN h g3
    conv => whnf
    refine splD (fun g4 => ?_) (fun g4 => ?_)
    · replace h := iteP h g4
      conv => whnf
      cases h
      exact Done.of [] [] rfl rfl ⟨⟨rfl, rfl⟩, ⟨rfl, trivial⟩, rfl, trivial⟩
    · replace h := iteN h g4
      conv => whnf
      cases h
      exact Done.of [] [] rfl rfl ⟨⟨rfl, rfl⟩, ⟨rfl, trivial⟩, rfl, trivial⟩

def laws_FnCutsOfFractions_p11 (o64 : Int) (o65 : Int) (o66 : Int) (o67 : Int) (v68 : Bool) : Option Bool :=
  (cond v68 (if (decide (o66 = o64) && (decide (o67 = o65) && true)) = true then some true else some false) (some false))
set_option maxHeartbeats 4000000 in
set_option maxRecDepth 100000 in
theorem laws_FnCutsOfFractions_p11_ct {o64 : Int} {o65 : Int} {o66 : Int} {o67 : Int} {v68 : Bool} {r : Bool} (h : laws_FnCutsOfFractions_p11 o64 o65 o66 o67 v68 = some r) : X prog 0 (tlF f3 11) (mk 83 [(7, .ptr 448 0), (14, .ptr 896 0), (15, .d (D.bool v68))] [(448, .box 28 [.d (D.int .i64 o64), .d (D.int .i64 o65)]), (896, .box 28 [.d (D.int .i64 o66), .d (D.int .i64 o67)])]) (finK prog f3 0 (.d (D.bool r)) (⟨[], []⟩)) := by
  rw [laws_FnCutsOfFractions_p11] at h
  cases v68
  · replace h := condF h
    conv => whnf
    cases h
    exact Done.of [] [] rfl rfl ⟨⟨rfl, rfl⟩, ⟨rfl, trivial⟩, rfl, trivial⟩
  · replace h := condT h
    conv => whnf
    refine Req.of ⟨by kernel_rfl, by kernel_rfl⟩ ?_
    conv => whnf
    refine spl (fun g70 => ?_) (fun g70 => ?_)
    · replace h := iteT h g70
      conv => whnf
      cases h
      exact Done.of [] [] rfl rfl ⟨⟨rfl, rfl⟩, ⟨rfl, trivial⟩, rfl, trivial⟩
    · replace h := iteF h g70
      conv => whnf
      cases h
      exact Done.of [] [] rfl rfl ⟨⟨rfl, rfl⟩, ⟨rfl, trivial⟩, rfl, trivial⟩
def laws_FnCutsOfFractions_p10 (k : Nat) (o56 : Int) (o57 : Int) (o58 : Int) (o59 : Int) : Option Bool :=
  ((impl_MeetOf k o56 o57 o58 o59).bind fun y71 => (if y71.2.2 = true then (laws_FnCutsOfFractions_p11 o56 o57 y71.1 y71.2.1 true) else (laws_FnCutsOfFractions_p11 o56 o57 y71.1 y71.2.1 false)))
set_option maxHeartbeats 4000000 in
set_option maxRecDepth 100000 in
theorem laws_FnCutsOfFractions_p10_ct {k : Nat} {o56 : Int} {o57 : Int} {o58 : Int} {o59 : Int} {r : Bool} (h : laws_FnCutsOfFractions_p10 k o56 o57 o58 o59 = some r) : X prog 0 (tlF f3 10) (mk 83 [(7, .ptr 448 0), (11, .ptr 704 0)] [(448, .box 28 [.d (D.int .i64 o56), .d (D.int .i64 o57)]), (704, .box 28 [.d (D.int .i64 o58), .d (D.int .i64 o59)])]) (finK prog f3 0 (.d (D.bool r)) (⟨[], []⟩)) := by
  rw [laws_FnCutsOfFractions_p10] at h
  conv => whnf
  refine Pick.no ?_
  conv => whnf
  obtain ⟨y71, e72, h⟩ := bind_ex h
  refine CallOk.of (impl_MeetOf_ct e72) ?_
  conv => whnf
  refine spl (fun g73 => ?_) (fun g73 => ?_)
  · replace h := iteT h g73
    conv => whnf
    exact CutK.piece (laws_FnCutsOfFractions_p11_ct  h) [some 448, some 896] [] ⟨⟨rfl, rfl⟩, ⟨rfl, ⟨rfl, rfl, rfl, trivial⟩, ⟨rfl, rfl, rfl, trivial⟩, trivial⟩, ⟨rfl, rfl⟩, ⟨rfl, rfl⟩, rfl, trivial⟩
  · replace h := iteF h g73
    conv => whnf
    exact CutK.piece (laws_FnCutsOfFractions_p11_ct  h) [some 448, some 896] [] ⟨⟨rfl, rfl⟩, ⟨rfl, ⟨rfl, rfl, rfl, trivial⟩, ⟨rfl, rfl, rfl, trivial⟩, trivial⟩, ⟨rfl, rfl⟩, ⟨rfl, rfl⟩, rfl, trivial⟩
def laws_FnCutsOfFractions_p9 (k : Nat) (o43 : Rw) (o44 : Rw) (o45 : Int) (o46 : Int) (o47 : Int) (o48 : Int) : Option Bool :=
  ((impl_IsShort k o47 o48).bind fun y74 => (if y74.1 = true then (if y74.2 = true then ((laws_qBetween k o43 o44 o47 o48).bind fun y78 => (if y78 = true then (laws_FnCutsOfFractions_p10 k o45 o46 o47 o48) else some true)) else some true) else (if y74.2 = true then some true else some true)))
set_option maxHeartbeats 4000000 in
set_option maxRecDepth 100000 in
theorem laws_FnCutsOfFractions_p9_ct {k : Nat} {o43 : Rw} {o44 : Rw} {o45 : Int} {o46 : Int} {o47 : Int} {o48 : Int} {r : Bool} (h : laws_FnCutsOfFractions_p9 k o43 o44 o45 o46 o47 o48 = some r) : X prog 0 (tlF f3 9) (mk 83 [(5, .os 1109000 o43.length), (6, .os 1109001 o44.length), (7, .ptr 448 0), (11, .ptr 704 0)] [(448, .box 28 [.d (D.int .i64 o45), .d (D.int .i64 o46)]), (704, .box 28 [.d (D.int .i64 o47), .d (D.int .i64 o48)]), (1109000, .arr 28 true o43), (1109001, .arr 28 true o44)]) (finK prog f3 0 (.d (D.bool r)) (⟨[], []⟩)) := by
  rw [laws_FnCutsOfFractions_p9] at h
  conv => whnf
  refine Pick.no ?_
  conv => whnf
  obtain ⟨y74, e75, h⟩ := bind_ex h
  refine CallOk.of (impl_IsShort_ct e75) ?_
  conv => whnf
  refine spl (fun g76 => ?_) (fun g76 => ?_)
  · replace h := iteT h g76
    conv => whnf
    refine spl (fun g77 => ?_) (fun g77 => ?_)
    · replace h := iteT h g77
      conv => whnf
      refine CutK.norm [5, 6, 7, 11, 12, 13] [448, 704, 1109000, 1109001] ?_
      conv => whnf
      refine Pick.no ?_
      conv => whnf
      refine Take.all (rfl) ?_
      conv => whnf
      refine Take.all (rfl) ?_
      conv => whnf
      obtain ⟨y78, e79, h⟩ := bind_ex h
      refine CallOk.of (laws_qBetween_ct e79) ?_
      conv => whnf
      refine spl (fun g80 => ?_) (fun g80 => ?_)
      · replace h := iteT h g80
        conv => whnf
        refine CutK.norm [7, 11, 70] [448, 704] ?_
        conv => whnf
        exact CutK.piece (laws_FnCutsOfFractions_p10_ct  h) [some 448, some 704] [] ⟨⟨rfl, rfl⟩, ⟨rfl, ⟨rfl, rfl, rfl, trivial⟩, ⟨rfl, rfl, rfl, trivial⟩, trivial⟩, ⟨rfl, rfl⟩, ⟨rfl, rfl⟩, trivial⟩
      · replace h := iteF h g80
        conv => whnf
        refine CutK.norm [7, 11, 70] [448, 704] ?_
        conv => whnf
        cases h
        exact Done.of [] [] rfl rfl ⟨⟨rfl, rfl⟩, ⟨rfl, trivial⟩, rfl, trivial⟩
    · replace h := iteF h g77
      conv => whnf
      refine CutK.norm [5, 6, 7, 11, 12, 13] [448, 704, 1109000, 1109001] ?_
      conv => whnf
      refine CutK.norm [7, 11, 70] [448, 704] ?_
      conv => whnf
      cases h
      exact Done.of [] [] rfl rfl ⟨⟨rfl, rfl⟩, ⟨rfl, trivial⟩, rfl, trivial⟩
  · replace h := iteF h g76
    conv => whnf
    refine spl (fun g81 => ?_) (fun g81 => ?_)
    · replace h := iteT h g81
      conv => whnf
      refine CutK.norm [5, 6, 7, 11, 12, 13] [448, 704, 1109000, 1109001] ?_
      conv => whnf
      refine CutK.norm [7, 11, 70] [448, 704] ?_
      conv => whnf
      cases h
      exact Done.of [] [] rfl rfl ⟨⟨rfl, rfl⟩, ⟨rfl, trivial⟩, rfl, trivial⟩
    · replace h := iteF h g81
      conv => whnf
      refine CutK.norm [5, 6, 7, 11, 12, 13] [448, 704, 1109000, 1109001] ?_
      conv => whnf
      refine CutK.norm [7, 11, 70] [448, 704] ?_
      conv => whnf
      cases h
      exact Done.of [] [] rfl rfl ⟨⟨rfl, rfl⟩, ⟨rfl, trivial⟩, rfl, trivial⟩
def laws_FnCutsOfFractions_p8 (k : Nat) (a2 : Rw) (o37 : Rw) (o38 : Rw) (o39 : Int) (o40 : Int) : Option Bool :=
  ((spec_DrawWordOf k a2).bind fun y82 => (laws_FnCutsOfFractions_p9 k o37 o38 o39 o40 y82.1 y82.2))
set_option maxHeartbeats 4000000 in
set_option maxRecDepth 100000 in
theorem laws_FnCutsOfFractions_p8_ct {k : Nat} {a2 : Rw} {o37 : Rw} {o38 : Rw} {o39 : Int} {o40 : Int} {r : Bool} (h : laws_FnCutsOfFractions_p8 k a2 o37 o38 o39 o40 = some r) : X prog 0 (tlF f3 8) (mk 83 [(1, .d (D.sl a2)), (5, .os 1104000 o37.length), (6, .os 1104001 o38.length), (7, .ptr 448 0)] [(448, .box 28 [.d (D.int .i64 o39), .d (D.int .i64 o40)]), (1104000, .arr 28 true o37), (1104001, .arr 28 true o38)]) (finK prog f3 0 (.d (D.bool r)) (⟨[], []⟩)) := by
  rw [laws_FnCutsOfFractions_p8] at h
  conv => whnf
  refine Pick.no ?_
  conv => whnf
  obtain ⟨y82, e83, h⟩ := bind_ex h
  refine CallOk.of (spec_DrawWordOf_ct e83) ?_
  conv => whnf
  exact CutK.piece (laws_FnCutsOfFractions_p9_ct  h) [some 448, some 704, some 1104000, some 1104001] [] ⟨⟨rfl, rfl⟩, ⟨rfl, ⟨rfl, rfl, rfl, trivial⟩, ⟨rfl, rfl, rfl, trivial⟩, ⟨rfl, rfl, rows_same⟩, ⟨rfl, rfl, rows_same⟩, trivial⟩, ⟨rfl, rfl⟩, ⟨rfl, rfl⟩, ⟨rfl, rfl⟩, ⟨rfl, rfl⟩, trivial⟩
def laws_FnCutsOfFractions_p5 (k : Nat) (a2 : Rw) (o21 : Rw) (o22 : Rw) (o23 : Int) (o24 : Int) (o25 : Int) (o26 : Int) (v27 : Bool) (v31 : Bool) : Option Bool :=
  (cond v27 (cond v31 (if (!(decide (o23 = o25) && (decide (o24 = o26) && true))) = true then some false else ((laws_qBetween k o21 o22 o23 o24).bind fun y86 => (if y86 = true then (laws_FnCutsOfFractions_p8 k a2 o21 o22 o23 o24) else some false))) (some false)) (cond v31 (some false) (if (!(decide (o23 = o25) && (decide (o24 = o26) && true))) = true then some false else some true)))
set_option maxHeartbeats 4000000 in
set_option maxRecDepth 100000 in
theorem laws_FnCutsOfFractions_p5_ct {k : Nat} {a2 : Rw} {o21 : Rw} {o22 : Rw} {o23 : Int} {o24 : Int} {o25 : Int} {o26 : Int} {v27 : Bool} {v31 : Bool} {r : Bool} (h : laws_FnCutsOfFractions_p5 k a2 o21 o22 o23 o24 o25 o26 v27 v31 = some r) : X prog 0 (tlF f3 5) (mk 83 [(1, .d (D.sl a2)), (5, .os 1089000 o21.length), (6, .os 1089001 o22.length), (7, .ptr 448 0), (8, .d (D.bool v31)), (9, .ptr 576 0), (10, .d (D.bool v27))] [(448, .box 28 [.d (D.int .i64 o23), .d (D.int .i64 o24)]), (576, .box 28 [.d (D.int .i64 o25), .d (D.int .i64 o26)]), (1089000, .arr 28 true o21), (1089001, .arr 28 true o22)]) (finK prog f3 0 (.d (D.bool r)) (⟨[], []⟩)) := by
  rw [laws_FnCutsOfFractions_p5] at h
  cases v27
  · replace h := condF h
    cases v31
    · replace h := condF h
      conv => whnf
      refine splF ?_
      conv => whnf
      refine Req.of ⟨by kernel_rfl, by kernel_rfl⟩ ?_
      conv => whnf
      refine spl (fun g84 => ?_) (fun g84 => ?_)
      · replace h := iteT h g84
        conv => whnf
        cases h
        exact Done.of [] [] rfl rfl ⟨⟨rfl, rfl⟩, ⟨rfl, trivial⟩, rfl, trivial⟩
      · replace h := iteF h g84
        conv => whnf
        cases h
        exact Done.of [] [] rfl rfl ⟨⟨rfl, rfl⟩, ⟨rfl, trivial⟩, rfl, trivial⟩
    · replace h := condT h
      conv => whnf
      refine splT ?_
      conv => whnf
      cases h
      exact Done.of [] [] rfl rfl ⟨⟨rfl, rfl⟩, ⟨rfl, trivial⟩, rfl, trivial⟩
  · replace h := condT h
    cases v31
    · replace h := condF h
      conv => whnf
      refine splT ?_
      conv => whnf
      cases h
      exact Done.of [] [] rfl rfl ⟨⟨rfl, rfl⟩, ⟨rfl, trivial⟩, rfl, trivial⟩
    · replace h := condT h
      conv => whnf
      refine splF ?_
      conv => whnf
      refine Req.of ⟨by kernel_rfl, by kernel_rfl⟩ ?_
      conv => whnf
      refine spl (fun g85 => ?_) (fun g85 => ?_)
      · replace h := iteT h g85
        conv => whnf
        cases h
        exact Done.of [] [] rfl rfl ⟨⟨rfl, rfl⟩, ⟨rfl, trivial⟩, rfl, trivial⟩
      · replace h := iteF h g85
        conv => whnf
        refine Pick.no ?_
        conv => whnf
        refine Take.all (rfl) ?_
        conv => whnf
        refine Take.all (rfl) ?_
        conv => whnf
        obtain ⟨y86, e87, h⟩ := bind_ex h
        refine CallOk.of (laws_qBetween_ct e87) ?_
        conv => whnf
        refine spl (fun g88 => ?_) (fun g88 => ?_)
        · replace h := iteT h g88
          conv => whnf
          refine CutK.norm [1, 5, 6, 7, 50] [448, 1089000, 1089001] ?_
          conv => whnf
          exact CutK.piece (laws_FnCutsOfFractions_p8_ct  h) [some 448, some 1089000, some 1089001] [] ⟨⟨rfl, rfl⟩, ⟨rfl, ⟨rfl, rfl, rfl, trivial⟩, ⟨rfl, rfl, rows_same⟩, ⟨rfl, rfl, rows_same⟩, trivial⟩, rfl, ⟨rfl, rfl⟩, ⟨rfl, rfl⟩, ⟨rfl, rfl⟩, trivial⟩
        · replace h := iteF h g88
          conv => whnf
          refine CutK.norm [1, 5, 6, 7, 50] [448, 1089000, 1089001] ?_
          conv => whnf
          cases h
          exact Done.of [] [] rfl rfl ⟨⟨rfl, rfl⟩, ⟨rfl, trivial⟩, rfl, trivial⟩
def laws_FnCutsOfFractions_p4 (k : Nat) (a2 : Rw) (o13 : Rw) (o14 : Rw) (o15 : Int) (o16 : Int) (v17 : Bool) : Option Bool :=
  (cond v17 ((spec_SimplestOf k o13 o14).bind fun y92 => (if y92.2.2 = true then (laws_FnCutsOfFractions_p5 k a2 o13 o14 o15 o16 y92.1 y92.2.1 true true) else (laws_FnCutsOfFractions_p5 k a2 o13 o14 o15 o16 y92.1 y92.2.1 false true))) ((spec_SimplestOf k o13 o14).bind fun y89 => (if y89.2.2 = true then (laws_FnCutsOfFractions_p5 k a2 o13 o14 o15 o16 y89.1 y89.2.1 true false) else (laws_FnCutsOfFractions_p5 k a2 o13 o14 o15 o16 y89.1 y89.2.1 false false))))
set_option maxHeartbeats 4000000 in
set_option maxRecDepth 100000 in
theorem laws_FnCutsOfFractions_p4_ct {k : Nat} {a2 : Rw} {o13 : Rw} {o14 : Rw} {o15 : Int} {o16 : Int} {v17 : Bool} {r : Bool} (h : laws_FnCutsOfFractions_p4 k a2 o13 o14 o15 o16 v17 = some r) : X prog 0 (tlF f3 4) (mk 83 [(1, .d (D.sl a2)), (5, .os 1084000 o13.length), (6, .os 1084001 o14.length), (7, .ptr 448 0), (8, .d (D.bool v17))] [(448, .box 28 [.d (D.int .i64 o15), .d (D.int .i64 o16)]), (1084000, .arr 28 true o13), (1084001, .arr 28 true o14)]) (finK prog f3 0 (.d (D.bool r)) (⟨[], []⟩)) := by
  rw [laws_FnCutsOfFractions_p4] at h
  cases v17
  · replace h := condF h
    conv => whnf
    refine Pick.no ?_
    conv => whnf
    refine Take.all (rfl) ?_
    conv => whnf
    refine Take.all (rfl) ?_
    conv => whnf
    obtain ⟨y89, e90, h⟩ := bind_ex h
    refine CallOk.of (spec_SimplestOf_ct e90) ?_
    conv => whnf
    refine spl (fun g91 => ?_) (fun g91 => ?_)
    · replace h := iteT h g91
      conv => whnf
      exact CutK.piece (laws_FnCutsOfFractions_p5_ct  h) [some 448, some 576, some 1084000, some 1084001] [] ⟨⟨rfl, rfl⟩, ⟨rfl, ⟨rfl, rfl, rfl, trivial⟩, ⟨rfl, rfl, rfl, trivial⟩, ⟨rfl, rfl, rows_same⟩, ⟨rfl, rfl, rows_same⟩, trivial⟩, rfl, ⟨rfl, rfl⟩, ⟨rfl, rfl⟩, ⟨rfl, rfl⟩, rfl, ⟨rfl, rfl⟩, rfl, trivial⟩
    · replace h := iteF h g91
      conv => whnf
      exact CutK.piece (laws_FnCutsOfFractions_p5_ct  h) [some 448, some 576, some 1084000, some 1084001] [] ⟨⟨rfl, rfl⟩, ⟨rfl, ⟨rfl, rfl, rfl, trivial⟩, ⟨rfl, rfl, rfl, trivial⟩, ⟨rfl, rfl, rows_same⟩, ⟨rfl, rfl, rows_same⟩, trivial⟩, rfl, ⟨rfl, rfl⟩, ⟨rfl, rfl⟩, ⟨rfl, rfl⟩, rfl, ⟨rfl, rfl⟩, rfl, trivial⟩
  · replace h := condT h
    conv => whnf
    refine Pick.no ?_
    conv => whnf
    refine Take.all (rfl) ?_
    conv => whnf
    refine Take.all (rfl) ?_
    conv => whnf
    obtain ⟨y92, e93, h⟩ := bind_ex h
    refine CallOk.of (spec_SimplestOf_ct e93) ?_
    conv => whnf
    refine spl (fun g94 => ?_) (fun g94 => ?_)
    · replace h := iteT h g94
      conv => whnf
      exact CutK.piece (laws_FnCutsOfFractions_p5_ct  h) [some 448, some 576, some 1084000, some 1084001] [] ⟨⟨rfl, rfl⟩, ⟨rfl, ⟨rfl, rfl, rfl, trivial⟩, ⟨rfl, rfl, rfl, trivial⟩, ⟨rfl, rfl, rows_same⟩, ⟨rfl, rfl, rows_same⟩, trivial⟩, rfl, ⟨rfl, rfl⟩, ⟨rfl, rfl⟩, ⟨rfl, rfl⟩, rfl, ⟨rfl, rfl⟩, rfl, trivial⟩
    · replace h := iteF h g94
      conv => whnf
      exact CutK.piece (laws_FnCutsOfFractions_p5_ct  h) [some 448, some 576, some 1084000, some 1084001] [] ⟨⟨rfl, rfl⟩, ⟨rfl, ⟨rfl, rfl, rfl, trivial⟩, ⟨rfl, rfl, rfl, trivial⟩, ⟨rfl, rfl, rows_same⟩, ⟨rfl, rfl, rows_same⟩, trivial⟩, rfl, ⟨rfl, rfl⟩, ⟨rfl, rfl⟩, ⟨rfl, rfl⟩, rfl, ⟨rfl, rfl⟩, rfl, trivial⟩
def laws_FnCutsOfFractions_p3 (k : Nat) (a2 : Rw) (o8 : Rw) (o9 : Rw) : Option Bool :=
  ((impl_SimplestOf k o8 o9).bind fun y95 => (if y95.2.2 = true then (laws_FnCutsOfFractions_p4 k a2 o8 o9 y95.1 y95.2.1 true) else (laws_FnCutsOfFractions_p4 k a2 o8 o9 y95.1 y95.2.1 false)))
set_option maxHeartbeats 4000000 in
set_option maxRecDepth 100000 in
theorem laws_FnCutsOfFractions_p3_ct {k : Nat} {a2 : Rw} {o8 : Rw} {o9 : Rw} {r : Bool} (h : laws_FnCutsOfFractions_p3 k a2 o8 o9 = some r) : X prog 0 (tlF f3 3) (mk 83 [(1, .d (D.sl a2)), (5, .os 1079000 o8.length), (6, .os 1079001 o9.length)] [(1079000, .arr 28 true o8), (1079001, .arr 28 true o9)]) (finK prog f3 0 (.d (D.bool r)) (⟨[], []⟩)) := by
  rw [laws_FnCutsOfFractions_p3] at h
  conv => whnf
  refine Pick.no ?_
  conv => whnf
  refine Take.all (rfl) ?_
  conv => whnf
  refine Take.all (rfl) ?_
  conv => whnf
  obtain ⟨y95, e96, h⟩ := bind_ex h
  refine CallOk.of (impl_SimplestOf_ct e96) ?_
  conv => whnf
  refine spl (fun g97 => ?_) (fun g97 => ?_)
  · replace h := iteT h g97
    conv => whnf
    exact CutK.piece (laws_FnCutsOfFractions_p4_ct  h) [some 448, some 1079000, some 1079001] [] ⟨⟨rfl, rfl⟩, ⟨rfl, ⟨rfl, rfl, rfl, trivial⟩, ⟨rfl, rfl, rows_same⟩, ⟨rfl, rfl, rows_same⟩, trivial⟩, rfl, ⟨rfl, rfl⟩, ⟨rfl, rfl⟩, ⟨rfl, rfl⟩, rfl, trivial⟩
  · replace h := iteF h g97
    conv => whnf
    exact CutK.piece (laws_FnCutsOfFractions_p4_ct  h) [some 448, some 1079000, some 1079001] [] ⟨⟨rfl, rfl⟩, ⟨rfl, ⟨rfl, rfl, rfl, trivial⟩, ⟨rfl, rfl, rows_same⟩, ⟨rfl, rfl, rows_same⟩, trivial⟩, rfl, ⟨rfl, rfl⟩, ⟨rfl, rfl⟩, ⟨rfl, rfl⟩, rfl, trivial⟩
def laws_FnCutsOfFractions_p2 (k : Nat) (a1 : Rw) (a2 : Rw) : Option Bool :=
  ((spec_DrawSimplestOf k a1).bind fun y98 => (laws_FnCutsOfFractions_p3 k a2 y98.1 y98.2))
set_option maxHeartbeats 4000000 in
set_option maxRecDepth 100000 in
theorem laws_FnCutsOfFractions_p2_ct {k : Nat} {a1 : Rw} {a2 : Rw} {r : Bool} (h : laws_FnCutsOfFractions_p2 k a1 a2 = some r) : X prog 0 (tlF f3 2) (mk 83 [(0, .d (D.sl a1)), (1, .d (D.sl a2))] []) (finK prog f3 0 (.d (D.bool r)) (⟨[], []⟩)) := by
  rw [laws_FnCutsOfFractions_p2] at h
  conv => whnf
  refine Pick.no ?_
  conv => whnf
  obtain ⟨y98, e99, h⟩ := bind_ex h
  refine CallOk.of (spec_DrawSimplestOf_ct e99) ?_
  conv => whnf
  exact CutK.piece (laws_FnCutsOfFractions_p3_ct  h) [some 1344, some 1345] [] ⟨⟨rfl, rfl⟩, ⟨rfl, ⟨rfl, rfl, rows_same⟩, ⟨rfl, rfl, rows_same⟩, trivial⟩, rfl, ⟨rfl, rfl⟩, ⟨rfl, rfl⟩, trivial⟩
def laws_FnCutsOfFractions (k : Nat) (a1 : Rw) (a2 : Rw) : Option Bool :=
  ((laws_big a1 a2).bind fun y100 => (if y100 = true then some true else (laws_FnCutsOfFractions_p2 k a1 a2)))
set_option maxHeartbeats 4000000 in
set_option maxRecDepth 100000 in
theorem laws_FnCutsOfFractions_ct {k : Nat} {a1 : Rw} {a2 : Rw} {r : Bool} (h : laws_FnCutsOfFractions k a1 a2 = some r) : Ct prog 3 [.d (D.sl a1), .d (D.sl a2)] (⟨[], []⟩) (.d (D.bool r)) (⟨[], []⟩) := by
  rw [laws_FnCutsOfFractions] at h
  refine Ct.of (c := _) mixed func3 ⟨rfl, rfl, rfl⟩ ?_ rfl
  conv => whnf
  refine Pick.no ?_
  conv => whnf
  obtain ⟨y100, e101, h⟩ := bind_ex h
  refine CallOk.of (laws_big_ct e101) ?_
  conv => whnf
  refine spl (fun g102 => ?_) (fun g102 => ?_)
  · replace h := iteT h g102
    conv => whnf
    refine CutK.norm [0, 1, 18] [] ?_
    conv => whnf
    cases h
    exact Done.of [] [] rfl rfl ⟨⟨rfl, rfl⟩, ⟨rfl, trivial⟩, rfl, trivial⟩
  · replace h := iteF h g102
    conv => whnf
    refine CutK.norm [0, 1, 18] [] ?_
    conv => whnf
    exact CutK.piece (laws_FnCutsOfFractions_p2_ct  h) [] [] ⟨⟨rfl, rfl⟩, ⟨rfl, trivial⟩, rfl, rfl, trivial⟩
end
end Go.Proofs.Try
