/- Printed by program (axgen): pure functions, and that the Go functions compute them. -/
import Derived.Test.YthboihanakagnaaNC1
set_option linter.unusedVariables false
set_option linter.unusedSimpArgs false
namespace Go.Proofs.Try
open Go Go.AX
noncomputable section
def spec_l1Cur_surreal_p3 (o215 : Rw) (o216 : Int) (o217 : Int) (o218 : Rw) : Option (Rw × Rw × Int × Int) :=
  some (o218, o215, o216, o217)
set_option maxHeartbeats 4000000 in
set_option maxRecDepth 100000 in
theorem spec_l1Cur_surreal_p3_ct {o215 : Rw} {o216 : Int} {o217 : Int} {o218 : Rw} {r : Rw × Rw × Int × Int} (h : spec_l1Cur_surreal_p3 o215 o216 o217 o218 = some r) : X prog 1 (tlF f43 3) (mk 60 [(6, .ptr 384 0), (7, .ptr 448 0)] [(0, .box 66 [.d (D.sl o215), .d (D.int .i64 o216), .d (D.int .u64 o217)]), (384, .box 26 [.es]), (448, .box 26 [.os 1079000 o218.length]), (1079000, .arr 70 false o218)]) (finK prog f43 1 (.agg [.os 8 r.1.length]) (⟨[(66, [.d (D.sl r.2.1), .d (D.int .i64 r.2.2.1), .d (D.int .u64 r.2.2.2)])], [(70, false, r.1)]⟩)) := by
  rw [spec_l1Cur_surreal_p3] at h
  conv => whnf
  cases h
  exact Done.of [some 0, some 1079000] [] rfl rfl ⟨⟨rfl, rfl⟩, ⟨rfl, ⟨rfl, rfl, rfl, rfl, trivial⟩, ⟨rfl, rfl, rows_same⟩, trivial⟩, ⟨⟨rfl, rfl⟩, trivial⟩, trivial⟩
def spec_l1Cur_surreal_l0 (k : Nat) (rec_spec_l1Cur_surreal : Rw → Int → Int → Int → Bool → Option (Rw × Rw × Int × Int)) (a4 : Int) (K0 : Rw → Int → Int → Rw → Option (Rw × Rw × Int × Int)) : Nat → Int → Rw → Int → Int → Rw → Option (Rw × Rw × Int × Int)
  | 0, _, _, _, _, _ => none
  | n + 1, v446, v447, v448, v449, v450 => (if (0 : Int) < v446 then ((spec_l1Cur_coef k v447 v448 v449 false).bind fun y638 => ((spec_suReal y638.1 y638.2.1).bind fun y640 => (if (0 : Int) < a4 then ((spec_l1Cur_one y638.2.2.1 y638.2.2.2.1 y638.2.2.2.2 3).bind fun y643 => (if y643.1 = true then ((rec_spec_l1Cur_surreal y643.2.1 y643.2.2.1 y643.2.2.2 (IntKind.i64.wrap (a4 - 1)) false).bind fun y646 => ((spec_l1Cur_coef k y646.2.1 y646.2.2.1 y646.2.2.2 false).bind fun y648 => ((spec_suPut k v450 y646.1 y648.1 y648.2.1).bind fun y650 => (cond y650.2 (spec_l1Cur_surreal_l0 k rec_spec_l1Cur_surreal a4 K0 n (IntKind.i64.wrap (v446 - 1)) y648.2.2.1 y648.2.2.2.1 y648.2.2.2.2 y650.1) (spec_l1Cur_surreal_l0 k rec_spec_l1Cur_surreal a4 K0 n (IntKind.i64.wrap (v446 - 1)) y648.2.2.1 y648.2.2.2.1 y648.2.2.2.2 v450))))) else ((spec_l1Cur_one y643.2.1 y643.2.2.1 y643.2.2.2 3).bind fun y653 => (if y653.1 = true then ((spec_l1Cur_coef k y653.2.1 y653.2.2.1 y653.2.2.2 false).bind fun y656 => ((spec_suPut k v450 ([] : Rw) y656.1 y656.2.1).bind fun y658 => (cond y658.2 (spec_l1Cur_surreal_l0 k rec_spec_l1Cur_surreal a4 K0 n (IntKind.i64.wrap (v446 - 1)) y656.2.2.1 y656.2.2.2.1 y656.2.2.2.2 y658.1) (spec_l1Cur_surreal_l0 k rec_spec_l1Cur_surreal a4 K0 n (IntKind.i64.wrap (v446 - 1)) y656.2.2.1 y656.2.2.2.1 y656.2.2.2.2 v450)))) else ((spec_l1Cur_one y653.2.1 y653.2.2.1 y653.2.2.2 3).bind fun y661 => (if y661.1 = true then ((spec_l1Cur_among y661.2.1 y661.2.2.1 y661.2.2.2 ([[D.int .i64 1], [D.int .i64 (-1)], [D.int .i64 2], [D.int .i64 (-2)]] : Rw)).bind fun y664 => ((spec_suInt y664.1).bind fun y666 => ((spec_l1Cur_coef k y664.2.1 y664.2.2.1 y664.2.2.2 false).bind fun y668 => ((spec_suPut k v450 y666 y668.1 y668.2.1).bind fun y670 => (cond y670.2 (spec_l1Cur_surreal_l0 k rec_spec_l1Cur_surreal a4 K0 n (IntKind.i64.wrap (v446 - 1)) y668.2.2.1 y668.2.2.2.1 y668.2.2.2.2 y670.1) (spec_l1Cur_surreal_l0 k rec_spec_l1Cur_surreal a4 K0 n (IntKind.i64.wrap (v446 - 1)) y668.2.2.1 y668.2.2.2.1 y668.2.2.2.2 v450)))))) else ((spec_l1Cur_coef k y661.2.1 y661.2.2.1 y661.2.2.2 false).bind fun y673 => ((spec_suPut k v450 y640 y673.1 y673.2.1).bind fun y675 => (cond y675.2 (spec_l1Cur_surreal_l0 k rec_spec_l1Cur_surreal a4 K0 n (IntKind.i64.wrap (v446 - 1)) y673.2.2.1 y673.2.2.2.1 y673.2.2.2.2 y675.1) (spec_l1Cur_surreal_l0 k rec_spec_l1Cur_surreal a4 K0 n (IntKind.i64.wrap (v446 - 1)) y673.2.2.1 y673.2.2.2.1 y673.2.2.2.2 v450)))))))))) else ((spec_l1Cur_one y638.2.2.1 y638.2.2.2.1 y638.2.2.2.2 3).bind fun y678 => (if y678.1 = true then ((spec_l1Cur_coef k y678.2.1 y678.2.2.1 y678.2.2.2 false).bind fun y681 => ((spec_suPut k v450 ([] : Rw) y681.1 y681.2.1).bind fun y683 => (cond y683.2 (spec_l1Cur_surreal_l0 k rec_spec_l1Cur_surreal a4 K0 n (IntKind.i64.wrap (v446 - 1)) y681.2.2.1 y681.2.2.2.1 y681.2.2.2.2 y683.1) (spec_l1Cur_surreal_l0 k rec_spec_l1Cur_surreal a4 K0 n (IntKind.i64.wrap (v446 - 1)) y681.2.2.1 y681.2.2.2.1 y681.2.2.2.2 v450)))) else ((spec_l1Cur_one y678.2.1 y678.2.2.1 y678.2.2.2 3).bind fun y686 => (if y686.1 = true then ((spec_l1Cur_among y686.2.1 y686.2.2.1 y686.2.2.2 ([[D.int .i64 1], [D.int .i64 (-1)], [D.int .i64 2], [D.int .i64 (-2)]] : Rw)).bind fun y689 => ((spec_suInt y689.1).bind fun y691 => ((spec_l1Cur_coef k y689.2.1 y689.2.2.1 y689.2.2.2 false).bind fun y693 => ((spec_suPut k v450 y691 y693.1 y693.2.1).bind fun y695 => (cond y695.2 (spec_l1Cur_surreal_l0 k rec_spec_l1Cur_surreal a4 K0 n (IntKind.i64.wrap (v446 - 1)) y693.2.2.1 y693.2.2.2.1 y693.2.2.2.2 y695.1) (spec_l1Cur_surreal_l0 k rec_spec_l1Cur_surreal a4 K0 n (IntKind.i64.wrap (v446 - 1)) y693.2.2.1 y693.2.2.2.1 y693.2.2.2.2 v450)))))) else ((spec_l1Cur_coef k y686.2.1 y686.2.2.1 y686.2.2.2 false).bind fun y698 => ((spec_suPut k v450 y640 y698.1 y698.2.1).bind fun y700 => (cond y700.2 (spec_l1Cur_surreal_l0 k rec_spec_l1Cur_surreal a4 K0 n (IntKind.i64.wrap (v446 - 1)) y698.2.2.1 y698.2.2.2.1 y698.2.2.2.2 y700.1) (spec_l1Cur_surreal_l0 k rec_spec_l1Cur_surreal a4 K0 n (IntKind.i64.wrap (v446 - 1)) y698.2.2.1 y698.2.2.2.1 y698.2.2.2.2 v450))))))))))) else (K0 v447 v448 v449 v450))
set_option maxRecDepth 100000 in
theorem spec_l1Cur_surreal_l0_ct {k : Nat} {rec_spec_l1Cur_surreal : Rw → Int → Int → Int → Bool → Option (Rw × Rw × Int × Int)} {a4 : Int} {K0 : Rw → Int → Int → Rw → Option (Rw × Rw × Int × Int)} (hrec_spec_l1Cur_surreal : ∀ (a1 : Rw) (a2 : Int) (a3 : Int) (a4 : Int) (a5 : Bool) (r : Rw × Rw × Int × Int), rec_spec_l1Cur_surreal a1 a2 a3 a4 a5 = some r → Ct prog 43 [.ptr 0 0, .d (D.int .i64 a4), .d (D.bool a5)] (⟨[(66, [.d (D.sl a1), .d (D.int .i64 a2), .d (D.int .u64 a3)])], []⟩) (.agg [.os 8 r.1.length]) (⟨[(66, [.d (D.sl r.2.1), .d (D.int .i64 r.2.2.1), .d (D.int .u64 r.2.2.2)])], [(70, false, r.1)]⟩)) {r : Rw × Rw × Int × Int} : ∀ (n : Nat) (v446 : Int) (v447 : Rw) (v448 : Int) (v449 : Int) (v450 : Rw), spec_l1Cur_surreal_l0 k rec_spec_l1Cur_surreal a4 K0 n v446 v447 v448 v449 v450 = some r → LoopOk prog 1 (lp f43 0) (mk 60 [(0, .ptr 0 0), (1, .d (D.int .i64 a4)), (2, .d (D.bool false)), (6, .ptr 384 0), (7, .ptr 448 0), (8, .d (D.int .i64 v446))] [(0, .box 66 [.d (D.sl v447), .d (D.int .i64 v448), .d (D.int .u64 v449)]), (384, .box 26 [.es]), (448, .box 26 [.os 64000 v450.length]), (64000, .arr 70 false v450)]) (LoopEnd prog f43 1 60 (.agg [.os 8 r.1.length]) (⟨[(66, [.d (D.sl r.2.1), .d (D.int .i64 r.2.2.1), .d (D.int .u64 r.2.2.2)])], [(70, false, r.1)]⟩) (fun i ts os => (i = 0 ∧ ∃ v567 : Rw, ∃ v568 : Int, ∃ v569 : Int, ∃ v570 : Rw, K0 v567 v568 v569 v570 = some r ∧ ts = [(6, .ptr 384 0), (7, .ptr 448 0)] ∧ os = [(0, .box 66 [.d (D.sl v567), .d (D.int .i64 v568), .d (D.int .u64 v569)]), (384, .box 26 [.es]), (448, .box 26 [.os 67001 v570.length]), (67001, .arr 70 false v570)])))
  | 0, _, _, _, _, _, h => by
      rw [spec_l1Cur_surreal_l0] at h; cases h
  | n + 1, v446, v447, v448, v449, v450, h => by
      rw [spec_l1Cur_surreal_l0] at h
      refine LoopOk.step ?_
      conv => whnf
      refine splD (fun g637 => ?_) (fun g637 => ?_)
      · replace h := iteP h g637
        conv => whnf
        refine Pick.no ?_
        conv => whnf
        obtain ⟨y638, e639, h⟩ := bind_ex h
        refine CallOk.of (spec_l1Cur_coef_ct e639) ?_
        conv => whnf
        refine Pick.no ?_
        conv => whnf
        obtain ⟨y640, e641, h⟩ := bind_ex h
        refine CallOk.of (spec_suReal_ct e641) ?_
        conv => whnf
        refine CutK.norm [0, 1, 2, 6, 7, 8, 9] [0, 384, 448, 576, 1472, 64000] ?_
        conv => whnf
        refine splD (fun g642 => ?_) (fun g642 => ?_)
        · replace h := iteP h g642
          conv => whnf
          refine Pick.no ?_
          conv => whnf
          obtain ⟨y643, e644, h⟩ := bind_ex h
          refine CallOk.of (spec_l1Cur_one_ct e644) ?_
          conv => whnf
          refine spl (fun g645 => ?_) (fun g645 => ?_)
          · replace h := iteT h g645
            conv => whnf
            refine CutK.norm [0, 1, 2, 6, 7, 8, 9, 24] [0, 384, 448, 576, 1472, 64000] ?_
            conv => whnf
            refine Pick.no ?_
            conv => whnf
            obtain ⟨y646, e647, h⟩ := bind_ex h
            refine CallOk.of (hrec_spec_l1Cur_surreal _ _ _ _ _ _ e647) ?_
            conv => whnf
            refine CutK.norm [0, 1, 2, 6, 7, 8, 9] [0, 384, 448, 576, 2240, 64000] ?_
            conv => whnf
            refine Pick.no ?_
            conv => whnf
            obtain ⟨y648, e649, h⟩ := bind_ex h
            refine CallOk.of (spec_l1Cur_coef_ct e649) ?_
            conv => whnf
            refine Pick.no ?_
            conv => whnf
            refine Take.all (rfl) ?_
            conv => whnf
            refine Take.all (rfl) ?_
            conv => whnf
            obtain ⟨y650, e651, h⟩ := bind_ex h
            refine splitOn y650.2 (fun g652 => ?_) (fun g652 => ?_)
            · replace h := condT' g652 h
              have c := spec_suPut_cts e651
              rw [g652] at c
              refine CallOk.of c ?_
              clear c
              conv => whnf
              refine splT ?_
              conv => whnf
              refine CutK.norm [0, 1, 2, 6, 7, 8, 10, 11] [0, 384, 448, 640, 3456, 64000] ?_
              conv => whnf
              refine CutK.norm [0, 1, 2, 6, 7, 8] [0, 384, 448, 3456] ?_
              conv => whnf
              exact LoopOk.back (spec_l1Cur_surreal_l0_ct hrec_spec_l1Cur_surreal n _ _ _ _ _ h) [some 0, some 384, some 448, some 3456] [] ⟨⟨rfl, rfl⟩, ⟨rfl, ⟨rfl, rfl, rfl, rfl, trivial⟩, ⟨rfl, trivial, trivial⟩, ⟨rfl, ⟨rfl, rfl⟩, trivial⟩, ⟨rfl, rfl, rows_same⟩, trivial⟩, ⟨rfl, rfl⟩, rfl, rfl, ⟨rfl, rfl⟩, ⟨rfl, rfl⟩, rfl, trivial⟩
            · replace h := condF' g652 h
              have c := spec_suPut_cts e651
              rw [g652] at c
              refine CallOk.of c ?_
              clear c
              conv => whnf
              refine splF ?_
              conv => whnf
              refine CutK.norm [0, 1, 2, 6, 7, 8, 10, 11] [0, 384, 448, 640, 64000] ?_
              conv => whnf
              refine CutK.norm [0, 1, 2, 6, 7, 8] [0, 384, 448, 64000] ?_
              conv => whnf
              exact LoopOk.back (spec_l1Cur_surreal_l0_ct hrec_spec_l1Cur_surreal n _ _ _ _ _ h) [some 0, some 384, some 448, some 64000] [] ⟨⟨rfl, rfl⟩, ⟨rfl, ⟨rfl, rfl, rfl, rfl, trivial⟩, ⟨rfl, trivial, trivial⟩, ⟨rfl, ⟨rfl, rfl⟩, trivial⟩, ⟨rfl, rfl, rows_same⟩, trivial⟩, ⟨rfl, rfl⟩, rfl, rfl, ⟨rfl, rfl⟩, ⟨rfl, rfl⟩, rfl, trivial⟩
          · replace h := iteF h g645
            conv => whnf
            refine CutK.norm [0, 1, 2, 6, 7, 8, 9, 24] [0, 384, 448, 576, 1472, 64000] ?_
            conv => whnf
            refine Pick.no ?_
            conv => whnf
            obtain ⟨y653, e654, h⟩ := bind_ex h
            refine CallOk.of (spec_l1Cur_one_ct e654) ?_
            conv => whnf
            refine spl (fun g655 => ?_) (fun g655 => ?_)
            · replace h := iteT h g655
              conv => whnf
              refine CutK.norm [0, 1, 2, 6, 7, 8, 9, 36] [0, 384, 448, 576, 1472, 64000] ?_
              conv => whnf
              refine CutK.norm [0, 1, 2, 6, 7, 8, 9] [0, 384, 448, 576, 64000] ?_
              conv => whnf
              refine Pick.no ?_
              conv => whnf
              obtain ⟨y656, e657, h⟩ := bind_ex h
              refine CallOk.of (spec_l1Cur_coef_ct e657) ?_
              conv => whnf
              refine Pick.no ?_
              conv => whnf
              refine Take.all (rfl) ?_
              conv => whnf
              obtain ⟨y658, e659, h⟩ := bind_ex h
              refine splitOn y658.2 (fun g660 => ?_) (fun g660 => ?_)
              · replace h := condT' g660 h
                have c := spec_suPut_cts e659
                rw [g660] at c
                refine CallOk.of c ?_
                clear c
                conv => whnf
                refine splT ?_
                conv => whnf
                refine CutK.norm [0, 1, 2, 6, 7, 8, 10, 11] [0, 384, 448, 640, 3456, 64000] ?_
                conv => whnf
                refine CutK.norm [0, 1, 2, 6, 7, 8] [0, 384, 448, 3456] ?_
                conv => whnf
                exact LoopOk.back (spec_l1Cur_surreal_l0_ct hrec_spec_l1Cur_surreal n _ _ _ _ _ h) [some 0, some 384, some 448, some 3456] [] ⟨⟨rfl, rfl⟩, ⟨rfl, ⟨rfl, rfl, rfl, rfl, trivial⟩, ⟨rfl, trivial, trivial⟩, ⟨rfl, ⟨rfl, rfl⟩, trivial⟩, ⟨rfl, rfl, rows_same⟩, trivial⟩, ⟨rfl, rfl⟩, rfl, rfl, ⟨rfl, rfl⟩, ⟨rfl, rfl⟩, rfl, trivial⟩
              · replace h := condF' g660 h
                have c := spec_suPut_cts e659
                rw [g660] at c
                refine CallOk.of c ?_
                clear c
                conv => whnf
                refine splF ?_
                conv => whnf
                refine CutK.norm [0, 1, 2, 6, 7, 8, 10, 11] [0, 384, 448, 640, 64000] ?_
                conv => whnf
                refine CutK.norm [0, 1, 2, 6, 7, 8] [0, 384, 448, 64000] ?_
                conv => whnf
                exact LoopOk.back (spec_l1Cur_surreal_l0_ct hrec_spec_l1Cur_surreal n _ _ _ _ _ h) [some 0, some 384, some 448, some 64000] [] ⟨⟨rfl, rfl⟩, ⟨rfl, ⟨rfl, rfl, rfl, rfl, trivial⟩, ⟨rfl, trivial, trivial⟩, ⟨rfl, ⟨rfl, rfl⟩, trivial⟩, ⟨rfl, rfl, rows_same⟩, trivial⟩, ⟨rfl, rfl⟩, rfl, rfl, ⟨rfl, rfl⟩, ⟨rfl, rfl⟩, rfl, trivial⟩
            · replace h := iteF h g655
              conv => whnf
              refine CutK.norm [0, 1, 2, 6, 7, 8, 9, 36] [0, 384, 448, 576, 1472, 64000] ?_
              conv => whnf
              refine Pick.no ?_
              conv => whnf
              obtain ⟨y661, e662, h⟩ := bind_ex h
              refine CallOk.of (spec_l1Cur_one_ct e662) ?_
              conv => whnf
              refine spl (fun g663 => ?_) (fun g663 => ?_)
              · replace h := iteT h g663
                conv => whnf
                refine CutK.norm [0, 1, 2, 6, 7, 8, 9, 40] [0, 384, 448, 576, 1472, 64000] ?_
                conv => whnf
                refine Pick.no ?_
                conv => whnf
                refine Take.all (by first | rfl | exact List.length_append.symm | (simp; done) | omega) ?_
                conv => whnf
                obtain ⟨y664, e665, h⟩ := bind_ex h
                refine CallOk.of (spec_l1Cur_among_ct e665) ?_
                conv => whnf
                refine Pick.no ?_
                conv => whnf
                obtain ⟨y666, e667, h⟩ := bind_ex h
                refine CallOk.of (spec_suInt_ct e667) ?_
                conv => whnf
                refine CutK.norm [0, 1, 2, 6, 7, 8, 9] [0, 384, 448, 576, 2944, 64000] ?_
                conv => whnf
                refine Pick.no ?_
                conv => whnf
                obtain ⟨y668, e669, h⟩ := bind_ex h
                refine CallOk.of (spec_l1Cur_coef_ct e669) ?_
                conv => whnf
                refine Pick.no ?_
                conv => whnf
                refine Take.all (rfl) ?_
                conv => whnf
                refine Take.all (rfl) ?_
                conv => whnf
                obtain ⟨y670, e671, h⟩ := bind_ex h
                refine splitOn y670.2 (fun g672 => ?_) (fun g672 => ?_)
                · replace h := condT' g672 h
                  have c := spec_suPut_cts e671
                  rw [g672] at c
                  refine CallOk.of c ?_
                  clear c
                  conv => whnf
                  refine splT ?_
                  conv => whnf
                  refine CutK.norm [0, 1, 2, 6, 7, 8, 10, 11] [0, 384, 448, 640, 3456, 64000] ?_
                  conv => whnf
                  refine CutK.norm [0, 1, 2, 6, 7, 8] [0, 384, 448, 3456] ?_
                  conv => whnf
                  exact LoopOk.back (spec_l1Cur_surreal_l0_ct hrec_spec_l1Cur_surreal n _ _ _ _ _ h) [some 0, some 384, some 448, some 3456] [] ⟨⟨rfl, rfl⟩, ⟨rfl, ⟨rfl, rfl, rfl, rfl, trivial⟩, ⟨rfl, trivial, trivial⟩, ⟨rfl, ⟨rfl, rfl⟩, trivial⟩, ⟨rfl, rfl, rows_same⟩, trivial⟩, ⟨rfl, rfl⟩, rfl, rfl, ⟨rfl, rfl⟩, ⟨rfl, rfl⟩, rfl, trivial⟩
                · replace h := condF' g672 h
                  have c := spec_suPut_cts e671
                  rw [g672] at c
                  refine CallOk.of c ?_
                  clear c
                  conv => whnf
                  refine splF ?_
                  conv => whnf
                  refine CutK.norm [0, 1, 2, 6, 7, 8, 10, 11] [0, 384, 448, 640, 64000] ?_
                  conv => whnf
                  refine CutK.norm [0, 1, 2, 6, 7, 8] [0, 384, 448, 64000] ?_
                  conv => whnf
                  exact LoopOk.back (spec_l1Cur_surreal_l0_ct hrec_spec_l1Cur_surreal n _ _ _ _ _ h) [some 0, some 384, some 448, some 64000] [] ⟨⟨rfl, rfl⟩, ⟨rfl, ⟨rfl, rfl, rfl, rfl, trivial⟩, ⟨rfl, trivial, trivial⟩, ⟨rfl, ⟨rfl, rfl⟩, trivial⟩, ⟨rfl, rfl, rows_same⟩, trivial⟩, ⟨rfl, rfl⟩, rfl, rfl, ⟨rfl, rfl⟩, ⟨rfl, rfl⟩, rfl, trivial⟩
              · replace h := iteF h g663
                conv => whnf
                refine CutK.norm [0, 1, 2, 6, 7, 8, 9, 40] [0, 384, 448, 576, 1472, 64000] ?_
                conv => whnf
                refine CutK.norm [0, 1, 2, 6, 7, 8, 9] [0, 384, 448, 576, 1472, 64000] ?_
                conv => whnf
                refine Pick.no ?_
                conv => whnf
                obtain ⟨y673, e674, h⟩ := bind_ex h
                refine CallOk.of (spec_l1Cur_coef_ct e674) ?_
                conv => whnf
                refine Pick.no ?_
                conv => whnf
                refine Take.all (rfl) ?_
                conv => whnf
                refine Take.all (rfl) ?_
                conv => whnf
                obtain ⟨y675, e676, h⟩ := bind_ex h
                refine splitOn y675.2 (fun g677 => ?_) (fun g677 => ?_)
                · replace h := condT' g677 h
                  have c := spec_suPut_cts e676
                  rw [g677] at c
                  refine CallOk.of c ?_
                  clear c
                  conv => whnf
                  refine splT ?_
                  conv => whnf
                  refine CutK.norm [0, 1, 2, 6, 7, 8, 10, 11] [0, 384, 448, 640, 3456, 64000] ?_
                  conv => whnf
                  refine CutK.norm [0, 1, 2, 6, 7, 8] [0, 384, 448, 3456] ?_
                  conv => whnf
                  exact LoopOk.back (spec_l1Cur_surreal_l0_ct hrec_spec_l1Cur_surreal n _ _ _ _ _ h) [some 0, some 384, some 448, some 3456] [] ⟨⟨rfl, rfl⟩, ⟨rfl, ⟨rfl, rfl, rfl, rfl, trivial⟩, ⟨rfl, trivial, trivial⟩, ⟨rfl, ⟨rfl, rfl⟩, trivial⟩, ⟨rfl, rfl, rows_same⟩, trivial⟩, ⟨rfl, rfl⟩, rfl, rfl, ⟨rfl, rfl⟩, ⟨rfl, rfl⟩, rfl, trivial⟩
                · replace h := condF' g677 h
                  have c := spec_suPut_cts e676
                  rw [g677] at c
                  refine CallOk.of c ?_
                  clear c
                  conv => whnf
                  refine splF ?_
                  conv => whnf
                  refine CutK.norm [0, 1, 2, 6, 7, 8, 10, 11] [0, 384, 448, 640, 64000] ?_
                  conv => whnf
                  refine CutK.norm [0, 1, 2, 6, 7, 8] [0, 384, 448, 64000] ?_
                  conv => whnf
                  exact LoopOk.back (spec_l1Cur_surreal_l0_ct hrec_spec_l1Cur_surreal n _ _ _ _ _ h) [some 0, some 384, some 448, some 64000] [] ⟨⟨rfl, rfl⟩, ⟨rfl, ⟨rfl, rfl, rfl, rfl, trivial⟩, ⟨rfl, trivial, trivial⟩, ⟨rfl, ⟨rfl, rfl⟩, trivial⟩, ⟨rfl, rfl, rows_same⟩, trivial⟩, ⟨rfl, rfl⟩, rfl, rfl, ⟨rfl, rfl⟩, ⟨rfl, rfl⟩, rfl, trivial⟩
        · replace h := iteN h g642
          conv => whnf
          refine CutK.norm [0, 1, 2, 6, 7, 8, 9, 24] [0, 384, 448, 576, 1472, 64000] ?_
          conv => whnf
          refine Pick.no ?_
          conv => whnf
          obtain ⟨y678, e679, h⟩ := bind_ex h
          refine CallOk.of (spec_l1Cur_one_ct e679) ?_
          conv => whnf
          refine spl (fun g680 => ?_) (fun g680 => ?_)
          · replace h := iteT h g680
            conv => whnf
            refine CutK.norm [0, 1, 2, 6, 7, 8, 9, 36] [0, 384, 448, 576, 1472, 64000] ?_
            conv => whnf
            refine CutK.norm [0, 1, 2, 6, 7, 8, 9] [0, 384, 448, 576, 64000] ?_
            conv => whnf
            refine Pick.no ?_
            conv => whnf
            obtain ⟨y681, e682, h⟩ := bind_ex h
            refine CallOk.of (spec_l1Cur_coef_ct e682) ?_
            conv => whnf
            refine Pick.no ?_
            conv => whnf
            refine Take.all (rfl) ?_
            conv => whnf
            obtain ⟨y683, e684, h⟩ := bind_ex h
            refine splitOn y683.2 (fun g685 => ?_) (fun g685 => ?_)
            · replace h := condT' g685 h
              have c := spec_suPut_cts e684
              rw [g685] at c
              refine CallOk.of c ?_
              clear c
              conv => whnf
              refine splT ?_
              conv => whnf
              refine CutK.norm [0, 1, 2, 6, 7, 8, 10, 11] [0, 384, 448, 640, 3456, 64000] ?_
              conv => whnf
              refine CutK.norm [0, 1, 2, 6, 7, 8] [0, 384, 448, 3456] ?_
              conv => whnf
              exact LoopOk.back (spec_l1Cur_surreal_l0_ct hrec_spec_l1Cur_surreal n _ _ _ _ _ h) [some 0, some 384, some 448, some 3456] [] ⟨⟨rfl, rfl⟩, ⟨rfl, ⟨rfl, rfl, rfl, rfl, trivial⟩, ⟨rfl, trivial, trivial⟩, ⟨rfl, ⟨rfl, rfl⟩, trivial⟩, ⟨rfl, rfl, rows_same⟩, trivial⟩, ⟨rfl, rfl⟩, rfl, rfl, ⟨rfl, rfl⟩, ⟨rfl, rfl⟩, rfl, trivial⟩
            · replace h := condF' g685 h
              have c := spec_suPut_cts e684
              rw [g685] at c
              refine CallOk.of c ?_
              clear c
              conv => whnf
              refine splF ?_
              conv => whnf
              refine CutK.norm [0, 1, 2, 6, 7, 8, 10, 11] [0, 384, 448, 640, 64000] ?_
              conv => whnf
              refine CutK.norm [0, 1, 2, 6, 7, 8] [0, 384, 448, 64000] ?_
              conv => whnf
              exact LoopOk.back (spec_l1Cur_surreal_l0_ct hrec_spec_l1Cur_surreal n _ _ _ _ _ h) [some 0, some 384, some 448, some 64000] [] ⟨⟨rfl, rfl⟩, ⟨rfl, ⟨rfl, rfl, rfl, rfl, trivial⟩, ⟨rfl, trivial, trivial⟩, ⟨rfl, ⟨rfl, rfl⟩, trivial⟩, ⟨rfl, rfl, rows_same⟩, trivial⟩, ⟨rfl, rfl⟩, rfl, rfl, ⟨rfl, rfl⟩, ⟨rfl, rfl⟩, rfl, trivial⟩
          · replace h := iteF h g680
            conv => whnf
            refine CutK.norm [0, 1, 2, 6, 7, 8, 9, 36] [0, 384, 448, 576, 1472, 64000] ?_
            conv => whnf
            refine Pick.no ?_
            conv => whnf
            obtain ⟨y686, e687, h⟩ := bind_ex h
            refine CallOk.of (spec_l1Cur_one_ct e687) ?_
            conv => whnf
            refine spl (fun g688 => ?_) (fun g688 => ?_)
            · replace h := iteT h g688
              conv => whnf
              refine CutK.norm [0, 1, 2, 6, 7, 8, 9, 40] [0, 384, 448, 576, 1472, 64000] ?_
              conv => whnf
              refine Pick.no ?_
              conv => whnf
              refine Take.all (by first | rfl | exact List.length_append.symm | (simp; done) | omega) ?_
              conv => whnf
              obtain ⟨y689, e690, h⟩ := bind_ex h
              refine CallOk.of (spec_l1Cur_among_ct e690) ?_
              conv => whnf
              refine Pick.no ?_
              conv => whnf
              obtain ⟨y691, e692, h⟩ := bind_ex h
              refine CallOk.of (spec_suInt_ct e692) ?_
              conv => whnf
              refine CutK.norm [0, 1, 2, 6, 7, 8, 9] [0, 384, 448, 576, 2944, 64000] ?_
              conv => whnf
              refine Pick.no ?_
              conv => whnf
              obtain ⟨y693, e694, h⟩ := bind_ex h
              refine CallOk.of (spec_l1Cur_coef_ct e694) ?_
              conv => whnf
              refine Pick.no ?_
              conv => whnf
              refine Take.all (rfl) ?_
              conv => whnf
              refine Take.all (rfl) ?_
              conv => whnf
              obtain ⟨y695, e696, h⟩ := bind_ex h
              refine splitOn y695.2 (fun g697 => ?_) (fun g697 => ?_)
              · replace h := condT' g697 h
                have c := spec_suPut_cts e696
                rw [g697] at c
                refine CallOk.of c ?_
                clear c
                conv => whnf
                refine splT ?_
                conv => whnf
                refine CutK.norm [0, 1, 2, 6, 7, 8, 10, 11] [0, 384, 448, 640, 3456, 64000] ?_
                conv => whnf
                refine CutK.norm [0, 1, 2, 6, 7, 8] [0, 384, 448, 3456] ?_
                conv => whnf
                exact LoopOk.back (spec_l1Cur_surreal_l0_ct hrec_spec_l1Cur_surreal n _ _ _ _ _ h) [some 0, some 384, some 448, some 3456] [] ⟨⟨rfl, rfl⟩, ⟨rfl, ⟨rfl, rfl, rfl, rfl, trivial⟩, ⟨rfl, trivial, trivial⟩, ⟨rfl, ⟨rfl, rfl⟩, trivial⟩, ⟨rfl, rfl, rows_same⟩, trivial⟩, ⟨rfl, rfl⟩, rfl, rfl, ⟨rfl, rfl⟩, ⟨rfl, rfl⟩, rfl, trivial⟩
              · replace h := condF' g697 h
                have c := spec_suPut_cts e696
                rw [g697] at c
                refine CallOk.of c ?_
                clear c
                conv => whnf
                refine splF ?_
                conv => whnf
                refine CutK.norm [0, 1, 2, 6, 7, 8, 10, 11] [0, 384, 448, 640, 64000] ?_
                conv => whnf
                refine CutK.norm [0, 1, 2, 6, 7, 8] [0, 384, 448, 64000] ?_
                conv => whnf
                exact LoopOk.back (spec_l1Cur_surreal_l0_ct hrec_spec_l1Cur_surreal n _ _ _ _ _ h) [some 0, some 384, some 448, some 64000] [] ⟨⟨rfl, rfl⟩, ⟨rfl, ⟨rfl, rfl, rfl, rfl, trivial⟩, ⟨rfl, trivial, trivial⟩, ⟨rfl, ⟨rfl, rfl⟩, trivial⟩, ⟨rfl, rfl, rows_same⟩, trivial⟩, ⟨rfl, rfl⟩, rfl, rfl, ⟨rfl, rfl⟩, ⟨rfl, rfl⟩, rfl, trivial⟩
            · replace h := iteF h g688
              conv => whnf
              refine CutK.norm [0, 1, 2, 6, 7, 8, 9, 40] [0, 384, 448, 576, 1472, 64000] ?_
              conv => whnf
              refine CutK.norm [0, 1, 2, 6, 7, 8, 9] [0, 384, 448, 576, 1472, 64000] ?_
              conv => whnf
              refine Pick.no ?_
              conv => whnf
              obtain ⟨y698, e699, h⟩ := bind_ex h
              refine CallOk.of (spec_l1Cur_coef_ct e699) ?_
              conv => whnf
              refine Pick.no ?_
              conv => whnf
              refine Take.all (rfl) ?_
              conv => whnf
              refine Take.all (rfl) ?_
              conv => whnf
              obtain ⟨y700, e701, h⟩ := bind_ex h
              refine splitOn y700.2 (fun g702 => ?_) (fun g702 => ?_)
              · replace h := condT' g702 h
                have c := spec_suPut_cts e701
                rw [g702] at c
                refine CallOk.of c ?_
                clear c
                conv => whnf
                refine splT ?_
                conv => whnf
                refine CutK.norm [0, 1, 2, 6, 7, 8, 10, 11] [0, 384, 448, 640, 3456, 64000] ?_
                conv => whnf
                refine CutK.norm [0, 1, 2, 6, 7, 8] [0, 384, 448, 3456] ?_
                conv => whnf
                exact LoopOk.back (spec_l1Cur_surreal_l0_ct hrec_spec_l1Cur_surreal n _ _ _ _ _ h) [some 0, some 384, some 448, some 3456] [] ⟨⟨rfl, rfl⟩, ⟨rfl, ⟨rfl, rfl, rfl, rfl, trivial⟩, ⟨rfl, trivial, trivial⟩, ⟨rfl, ⟨rfl, rfl⟩, trivial⟩, ⟨rfl, rfl, rows_same⟩, trivial⟩, ⟨rfl, rfl⟩, rfl, rfl, ⟨rfl, rfl⟩, ⟨rfl, rfl⟩, rfl, trivial⟩
              · replace h := condF' g702 h
                have c := spec_suPut_cts e701
                rw [g702] at c
                refine CallOk.of c ?_
                clear c
                conv => whnf
                refine splF ?_
                conv => whnf
                refine CutK.norm [0, 1, 2, 6, 7, 8, 10, 11] [0, 384, 448, 640, 64000] ?_
                conv => whnf
                refine CutK.norm [0, 1, 2, 6, 7, 8] [0, 384, 448, 64000] ?_
                conv => whnf
                exact LoopOk.back (spec_l1Cur_surreal_l0_ct hrec_spec_l1Cur_surreal n _ _ _ _ _ h) [some 0, some 384, some 448, some 64000] [] ⟨⟨rfl, rfl⟩, ⟨rfl, ⟨rfl, rfl, rfl, rfl, trivial⟩, ⟨rfl, trivial, trivial⟩, ⟨rfl, ⟨rfl, rfl⟩, trivial⟩, ⟨rfl, rfl, rows_same⟩, trivial⟩, ⟨rfl, rfl⟩, rfl, rfl, ⟨rfl, rfl⟩, ⟨rfl, rfl⟩, rfl, trivial⟩
      · replace h := iteN h g637
        conv => whnf
        exact ⟨_, _, [some 0, some 384, some 448, some 64000], [], ⟨rfl, _, _, _, _, h, rfl, rfl⟩, ⟨⟨rfl, rfl⟩, ⟨rfl, ⟨rfl, rfl, rfl, rfl, trivial⟩, ⟨rfl, trivial, trivial⟩, ⟨rfl, ⟨rfl, rfl⟩, trivial⟩, ⟨rfl, rfl, rows_same⟩, trivial⟩, ⟨rfl, rfl⟩, ⟨rfl, rfl⟩, trivial⟩⟩
def spec_l1Cur_surreal_l0_2 (k : Nat) (rec_spec_l1Cur_surreal : Rw → Int → Int → Int → Bool → Option (Rw × Rw × Int × Int)) (a4 : Int) (K0 : Rw → Int → Int → Rw → Option (Rw × Rw × Int × Int)) : Nat → Int → Rw → Int → Int → Rw → Option (Rw × Rw × Int × Int)
  | 0, _, _, _, _, _ => none
  | n + 1, v721, v722, v723, v724, v725 => (if (0 : Int) < v721 then ((spec_l1Cur_coef k v722 v723 v724 true).bind fun y913 => ((spec_suReal y913.1 y913.2.1).bind fun y915 => (if (0 : Int) < a4 then ((spec_l1Cur_one y913.2.2.1 y913.2.2.2.1 y913.2.2.2.2 3).bind fun y918 => (if y918.1 = true then ((rec_spec_l1Cur_surreal y918.2.1 y918.2.2.1 y918.2.2.2 (IntKind.i64.wrap (a4 - 1)) true).bind fun y921 => ((spec_l1Cur_coef k y921.2.1 y921.2.2.1 y921.2.2.2 true).bind fun y923 => ((spec_suPut k v725 y921.1 y923.1 y923.2.1).bind fun y925 => (cond y925.2 (spec_l1Cur_surreal_l0_2 k rec_spec_l1Cur_surreal a4 K0 n (IntKind.i64.wrap (v721 - 1)) y923.2.2.1 y923.2.2.2.1 y923.2.2.2.2 y925.1) (spec_l1Cur_surreal_l0_2 k rec_spec_l1Cur_surreal a4 K0 n (IntKind.i64.wrap (v721 - 1)) y923.2.2.1 y923.2.2.2.1 y923.2.2.2.2 v725))))) else ((spec_l1Cur_one y918.2.1 y918.2.2.1 y918.2.2.2 3).bind fun y928 => (if y928.1 = true then ((spec_l1Cur_coef k y928.2.1 y928.2.2.1 y928.2.2.2 true).bind fun y931 => ((spec_suPut k v725 ([] : Rw) y931.1 y931.2.1).bind fun y933 => (cond y933.2 (spec_l1Cur_surreal_l0_2 k rec_spec_l1Cur_surreal a4 K0 n (IntKind.i64.wrap (v721 - 1)) y931.2.2.1 y931.2.2.2.1 y931.2.2.2.2 y933.1) (spec_l1Cur_surreal_l0_2 k rec_spec_l1Cur_surreal a4 K0 n (IntKind.i64.wrap (v721 - 1)) y931.2.2.1 y931.2.2.2.1 y931.2.2.2.2 v725)))) else ((spec_l1Cur_one y928.2.1 y928.2.2.1 y928.2.2.2 3).bind fun y936 => (if y936.1 = true then ((spec_l1Cur_among y936.2.1 y936.2.2.1 y936.2.2.2 ([[D.int .i64 1], [D.int .i64 (-1)], [D.int .i64 2], [D.int .i64 (-2)]] : Rw)).bind fun y939 => ((spec_suInt y939.1).bind fun y941 => ((spec_l1Cur_coef k y939.2.1 y939.2.2.1 y939.2.2.2 true).bind fun y943 => ((spec_suPut k v725 y941 y943.1 y943.2.1).bind fun y945 => (cond y945.2 (spec_l1Cur_surreal_l0_2 k rec_spec_l1Cur_surreal a4 K0 n (IntKind.i64.wrap (v721 - 1)) y943.2.2.1 y943.2.2.2.1 y943.2.2.2.2 y945.1) (spec_l1Cur_surreal_l0_2 k rec_spec_l1Cur_surreal a4 K0 n (IntKind.i64.wrap (v721 - 1)) y943.2.2.1 y943.2.2.2.1 y943.2.2.2.2 v725)))))) else ((spec_l1Cur_coef k y936.2.1 y936.2.2.1 y936.2.2.2 true).bind fun y948 => ((spec_suPut k v725 y915 y948.1 y948.2.1).bind fun y950 => (cond y950.2 (spec_l1Cur_surreal_l0_2 k rec_spec_l1Cur_surreal a4 K0 n (IntKind.i64.wrap (v721 - 1)) y948.2.2.1 y948.2.2.2.1 y948.2.2.2.2 y950.1) (spec_l1Cur_surreal_l0_2 k rec_spec_l1Cur_surreal a4 K0 n (IntKind.i64.wrap (v721 - 1)) y948.2.2.1 y948.2.2.2.1 y948.2.2.2.2 v725)))))))))) else ((spec_l1Cur_one y913.2.2.1 y913.2.2.2.1 y913.2.2.2.2 3).bind fun y953 => (if y953.1 = true then ((spec_l1Cur_coef k y953.2.1 y953.2.2.1 y953.2.2.2 true).bind fun y956 => ((spec_suPut k v725 ([] : Rw) y956.1 y956.2.1).bind fun y958 => (cond y958.2 (spec_l1Cur_surreal_l0_2 k rec_spec_l1Cur_surreal a4 K0 n (IntKind.i64.wrap (v721 - 1)) y956.2.2.1 y956.2.2.2.1 y956.2.2.2.2 y958.1) (spec_l1Cur_surreal_l0_2 k rec_spec_l1Cur_surreal a4 K0 n (IntKind.i64.wrap (v721 - 1)) y956.2.2.1 y956.2.2.2.1 y956.2.2.2.2 v725)))) else ((spec_l1Cur_one y953.2.1 y953.2.2.1 y953.2.2.2 3).bind fun y961 => (if y961.1 = true then ((spec_l1Cur_among y961.2.1 y961.2.2.1 y961.2.2.2 ([[D.int .i64 1], [D.int .i64 (-1)], [D.int .i64 2], [D.int .i64 (-2)]] : Rw)).bind fun y964 => ((spec_suInt y964.1).bind fun y966 => ((spec_l1Cur_coef k y964.2.1 y964.2.2.1 y964.2.2.2 true).bind fun y968 => ((spec_suPut k v725 y966 y968.1 y968.2.1).bind fun y970 => (cond y970.2 (spec_l1Cur_surreal_l0_2 k rec_spec_l1Cur_surreal a4 K0 n (IntKind.i64.wrap (v721 - 1)) y968.2.2.1 y968.2.2.2.1 y968.2.2.2.2 y970.1) (spec_l1Cur_surreal_l0_2 k rec_spec_l1Cur_surreal a4 K0 n (IntKind.i64.wrap (v721 - 1)) y968.2.2.1 y968.2.2.2.1 y968.2.2.2.2 v725)))))) else ((spec_l1Cur_coef k y961.2.1 y961.2.2.1 y961.2.2.2 true).bind fun y973 => ((spec_suPut k v725 y915 y973.1 y973.2.1).bind fun y975 => (cond y975.2 (spec_l1Cur_surreal_l0_2 k rec_spec_l1Cur_surreal a4 K0 n (IntKind.i64.wrap (v721 - 1)) y973.2.2.1 y973.2.2.2.1 y973.2.2.2.2 y975.1) (spec_l1Cur_surreal_l0_2 k rec_spec_l1Cur_surreal a4 K0 n (IntKind.i64.wrap (v721 - 1)) y973.2.2.1 y973.2.2.2.1 y973.2.2.2.2 v725))))))))))) else (K0 v722 v723 v724 v725))
set_option maxRecDepth 100000 in
theorem spec_l1Cur_surreal_l0_2_ct {k : Nat} {rec_spec_l1Cur_surreal : Rw → Int → Int → Int → Bool → Option (Rw × Rw × Int × Int)} {a4 : Int} {K0 : Rw → Int → Int → Rw → Option (Rw × Rw × Int × Int)} (hrec_spec_l1Cur_surreal : ∀ (a1 : Rw) (a2 : Int) (a3 : Int) (a4 : Int) (a5 : Bool) (r : Rw × Rw × Int × Int), rec_spec_l1Cur_surreal a1 a2 a3 a4 a5 = some r → Ct prog 43 [.ptr 0 0, .d (D.int .i64 a4), .d (D.bool a5)] (⟨[(66, [.d (D.sl a1), .d (D.int .i64 a2), .d (D.int .u64 a3)])], []⟩) (.agg [.os 8 r.1.length]) (⟨[(66, [.d (D.sl r.2.1), .d (D.int .i64 r.2.2.1), .d (D.int .u64 r.2.2.2)])], [(70, false, r.1)]⟩)) {r : Rw × Rw × Int × Int} : ∀ (n : Nat) (v721 : Int) (v722 : Rw) (v723 : Int) (v724 : Int) (v725 : Rw), spec_l1Cur_surreal_l0_2 k rec_spec_l1Cur_surreal a4 K0 n v721 v722 v723 v724 v725 = some r → LoopOk prog 1 (lp f43 0) (mk 60 [(0, .ptr 0 0), (1, .d (D.int .i64 a4)), (2, .d (D.bool true)), (6, .ptr 384 0), (7, .ptr 448 0), (8, .d (D.int .i64 v721))] [(0, .box 66 [.d (D.sl v722), .d (D.int .i64 v723), .d (D.int .u64 v724)]), (384, .box 26 [.es]), (448, .box 26 [.os 64000 v725.length]), (64000, .arr 70 false v725)]) (LoopEnd prog f43 1 60 (.agg [.os 8 r.1.length]) (⟨[(66, [.d (D.sl r.2.1), .d (D.int .i64 r.2.2.1), .d (D.int .u64 r.2.2.2)])], [(70, false, r.1)]⟩) (fun i ts os => (i = 0 ∧ ∃ v842 : Rw, ∃ v843 : Int, ∃ v844 : Int, ∃ v845 : Rw, K0 v842 v843 v844 v845 = some r ∧ ts = [(6, .ptr 384 0), (7, .ptr 448 0)] ∧ os = [(0, .box 66 [.d (D.sl v842), .d (D.int .i64 v843), .d (D.int .u64 v844)]), (384, .box 26 [.es]), (448, .box 26 [.os 67001 v845.length]), (67001, .arr 70 false v845)])))
  | 0, _, _, _, _, _, h => by
      rw [spec_l1Cur_surreal_l0_2] at h; cases h
  | n + 1, v721, v722, v723, v724, v725, h => by
      rw [spec_l1Cur_surreal_l0_2] at h
      refine LoopOk.step ?_
      conv => whnf
      refine splD (fun g912 => ?_) (fun g912 => ?_)
      · replace h := iteP h g912
        conv => whnf
        refine Pick.no ?_
        conv => whnf
        obtain ⟨y913, e914, h⟩ := bind_ex h
        refine CallOk.of (spec_l1Cur_coef_ct e914) ?_
        conv => whnf
        refine Pick.no ?_
        conv => whnf
        obtain ⟨y915, e916, h⟩ := bind_ex h
        refine CallOk.of (spec_suReal_ct e916) ?_
        conv => whnf
        refine CutK.norm [0, 1, 2, 6, 7, 8, 9] [0, 384, 448, 576, 1472, 64000] ?_
        conv => whnf
        refine splD (fun g917 => ?_) (fun g917 => ?_)
        · replace h := iteP h g917
          conv => whnf
          refine Pick.no ?_
          conv => whnf
          obtain ⟨y918, e919, h⟩ := bind_ex h
          refine CallOk.of (spec_l1Cur_one_ct e919) ?_
          conv => whnf
          refine spl (fun g920 => ?_) (fun g920 => ?_)
          · replace h := iteT h g920
            conv => whnf
            refine CutK.norm [0, 1, 2, 6, 7, 8, 9, 24] [0, 384, 448, 576, 1472, 64000] ?_
            conv => whnf
            refine Pick.no ?_
            conv => whnf
            obtain ⟨y921, e922, h⟩ := bind_ex h
            refine CallOk.of (hrec_spec_l1Cur_surreal _ _ _ _ _ _ e922) ?_
            conv => whnf
            refine CutK.norm [0, 1, 2, 6, 7, 8, 9] [0, 384, 448, 576, 2240, 64000] ?_
            conv => whnf
            refine Pick.no ?_
            conv => whnf
            obtain ⟨y923, e924, h⟩ := bind_ex h
            refine CallOk.of (spec_l1Cur_coef_ct e924) ?_
            conv => whnf
            refine Pick.no ?_
            conv => whnf
            refine Take.all (rfl) ?_
            conv => whnf
            refine Take.all (rfl) ?_
            conv => whnf
            obtain ⟨y925, e926, h⟩ := bind_ex h
            refine splitOn y925.2 (fun g927 => ?_) (fun g927 => ?_)
            · replace h := condT' g927 h
              have c := spec_suPut_cts e926
              rw [g927] at c
              refine CallOk.of c ?_
              clear c
              conv => whnf
              refine splT ?_
              conv => whnf
              refine CutK.norm [0, 1, 2, 6, 7, 8, 10, 11] [0, 384, 448, 640, 3456, 64000] ?_
              conv => whnf
              refine CutK.norm [0, 1, 2, 6, 7, 8] [0, 384, 448, 3456] ?_
              conv => whnf
              exact LoopOk.back (spec_l1Cur_surreal_l0_2_ct hrec_spec_l1Cur_surreal n _ _ _ _ _ h) [some 0, some 384, some 448, some 3456] [] ⟨⟨rfl, rfl⟩, ⟨rfl, ⟨rfl, rfl, rfl, rfl, trivial⟩, ⟨rfl, trivial, trivial⟩, ⟨rfl, ⟨rfl, rfl⟩, trivial⟩, ⟨rfl, rfl, rows_same⟩, trivial⟩, ⟨rfl, rfl⟩, rfl, rfl, ⟨rfl, rfl⟩, ⟨rfl, rfl⟩, rfl, trivial⟩
            · replace h := condF' g927 h
              have c := spec_suPut_cts e926
              rw [g927] at c
              refine CallOk.of c ?_
              clear c
              conv => whnf
              refine splF ?_
              conv => whnf
              refine CutK.norm [0, 1, 2, 6, 7, 8, 10, 11] [0, 384, 448, 640, 64000] ?_
              conv => whnf
              refine CutK.norm [0, 1, 2, 6, 7, 8] [0, 384, 448, 64000] ?_
              conv => whnf
              exact LoopOk.back (spec_l1Cur_surreal_l0_2_ct hrec_spec_l1Cur_surreal n _ _ _ _ _ h) [some 0, some 384, some 448, some 64000] [] ⟨⟨rfl, rfl⟩, ⟨rfl, ⟨rfl, rfl, rfl, rfl, trivial⟩, ⟨rfl, trivial, trivial⟩, ⟨rfl, ⟨rfl, rfl⟩, trivial⟩, ⟨rfl, rfl, rows_same⟩, trivial⟩, ⟨rfl, rfl⟩, rfl, rfl, ⟨rfl, rfl⟩, ⟨rfl, rfl⟩, rfl, trivial⟩
          · replace h := iteF h g920
            conv => whnf
            refine CutK.norm [0, 1, 2, 6, 7, 8, 9, 24] [0, 384, 448, 576, 1472, 64000] ?_
            conv => whnf
            refine Pick.no ?_
            conv => whnf
            obtain ⟨y928, e929, h⟩ := bind_ex h
            refine CallOk.of (spec_l1Cur_one_ct e929) ?_
            conv => whnf
            refine spl (fun g930 => ?_) (fun g930 => ?_)
            · replace h := iteT h g930
              conv => whnf
              refine CutK.norm [0, 1, 2, 6, 7, 8, 9, 36] [0, 384, 448, 576, 1472, 64000] ?_
              conv => whnf
              refine CutK.norm [0, 1, 2, 6, 7, 8, 9] [0, 384, 448, 576, 64000] ?_
              conv => whnf
              refine Pick.no ?_
              conv => whnf
              obtain ⟨y931, e932, h⟩ := bind_ex h
              refine CallOk.of (spec_l1Cur_coef_ct e932) ?_
              conv => whnf
              refine Pick.no ?_
              conv => whnf
              refine Take.all (rfl) ?_
              conv => whnf
              obtain ⟨y933, e934, h⟩ := bind_ex h
              refine splitOn y933.2 (fun g935 => ?_) (fun g935 => ?_)
              · replace h := condT' g935 h
                have c := spec_suPut_cts e934
                rw [g935] at c
                refine CallOk.of c ?_
                clear c
                conv => whnf
                refine splT ?_
                conv => whnf
                refine CutK.norm [0, 1, 2, 6, 7, 8, 10, 11] [0, 384, 448, 640, 3456, 64000] ?_
                conv => whnf
                refine CutK.norm [0, 1, 2, 6, 7, 8] [0, 384, 448, 3456] ?_
                conv => whnf
                exact LoopOk.back (spec_l1Cur_surreal_l0_2_ct hrec_spec_l1Cur_surreal n _ _ _ _ _ h) [some 0, some 384, some 448, some 3456] [] ⟨⟨rfl, rfl⟩, ⟨rfl, ⟨rfl, rfl, rfl, rfl, trivial⟩, ⟨rfl, trivial, trivial⟩, ⟨rfl, ⟨rfl, rfl⟩, trivial⟩, ⟨rfl, rfl, rows_same⟩, trivial⟩, ⟨rfl, rfl⟩, rfl, rfl, ⟨rfl, rfl⟩, ⟨rfl, rfl⟩, rfl, trivial⟩
              · replace h := condF' g935 h
                have c := spec_suPut_cts e934
                rw [g935] at c
                refine CallOk.of c ?_
                clear c
                conv => whnf
                refine splF ?_
                conv => whnf
                refine CutK.norm [0, 1, 2, 6, 7, 8, 10, 11] [0, 384, 448, 640, 64000] ?_
                conv => whnf
                refine CutK.norm [0, 1, 2, 6, 7, 8] [0, 384, 448, 64000] ?_
                conv => whnf
                exact LoopOk.back (spec_l1Cur_surreal_l0_2_ct hrec_spec_l1Cur_surreal n _ _ _ _ _ h) [some 0, some 384, some 448, some 64000] [] ⟨⟨rfl, rfl⟩, ⟨rfl, ⟨rfl, rfl, rfl, rfl, trivial⟩, ⟨rfl, trivial, trivial⟩, ⟨rfl, ⟨rfl, rfl⟩, trivial⟩, ⟨rfl, rfl, rows_same⟩, trivial⟩, ⟨rfl, rfl⟩, rfl, rfl, ⟨rfl, rfl⟩, ⟨rfl, rfl⟩, rfl, trivial⟩
            · replace h := iteF h g930
              conv => whnf
              refine CutK.norm [0, 1, 2, 6, 7, 8, 9, 36] [0, 384, 448, 576, 1472, 64000] ?_
              conv => whnf
              refine Pick.no ?_
              conv => whnf
              obtain ⟨y936, e937, h⟩ := bind_ex h
              refine CallOk.of (spec_l1Cur_one_ct e937) ?_
              conv => whnf
              refine spl (fun g938 => ?_) (fun g938 => ?_)
              · replace h := iteT h g938
                conv => whnf
                refine CutK.norm [0, 1, 2, 6, 7, 8, 9, 40] [0, 384, 448, 576, 1472, 64000] ?_
                conv => whnf
                refine Pick.no ?_
                conv => whnf
                refine Take.all (by first | rfl | exact List.length_append.symm | (simp; done) | omega) ?_
                conv => whnf
                obtain ⟨y939, e940, h⟩ := bind_ex h
                refine CallOk.of (spec_l1Cur_among_ct e940) ?_
                conv => whnf
                refine Pick.no ?_
                conv => whnf
                obtain ⟨y941, e942, h⟩ := bind_ex h
                refine CallOk.of (spec_suInt_ct e942) ?_
                conv => whnf
                refine CutK.norm [0, 1, 2, 6, 7, 8, 9] [0, 384, 448, 576, 2944, 64000] ?_
                conv => whnf
                refine Pick.no ?_
                conv => whnf
                obtain ⟨y943, e944, h⟩ := bind_ex h
                refine CallOk.of (spec_l1Cur_coef_ct e944) ?_
                conv => whnf
                refine Pick.no ?_
                conv => whnf
                refine Take.all (rfl) ?_
                conv => whnf
                refine Take.all (rfl) ?_
                conv => whnf
                obtain ⟨y945, e946, h⟩ := bind_ex h
                refine splitOn y945.2 (fun g947 => ?_) (fun g947 => ?_)
                · replace h := condT' g947 h
                  have c := spec_suPut_cts e946
                  rw [g947] at c
                  refine CallOk.of c ?_
                  clear c
                  conv => whnf
                  refine splT ?_
                  conv => whnf
                  refine CutK.norm [0, 1, 2, 6, 7, 8, 10, 11] [0, 384, 448, 640, 3456, 64000] ?_
                  conv => whnf
                  refine CutK.norm [0, 1, 2, 6, 7, 8] [0, 384, 448, 3456] ?_
                  conv => whnf
                  exact LoopOk.back (spec_l1Cur_surreal_l0_2_ct hrec_spec_l1Cur_surreal n _ _ _ _ _ h) [some 0, some 384, some 448, some 3456] [] ⟨⟨rfl, rfl⟩, ⟨rfl, ⟨rfl, rfl, rfl, rfl, trivial⟩, ⟨rfl, trivial, trivial⟩, ⟨rfl, ⟨rfl, rfl⟩, trivial⟩, ⟨rfl, rfl, rows_same⟩, trivial⟩, ⟨rfl, rfl⟩, rfl, rfl, ⟨rfl, rfl⟩, ⟨rfl, rfl⟩, rfl, trivial⟩
                · replace h := condF' g947 h
                  have c := spec_suPut_cts e946
                  rw [g947] at c
                  refine CallOk.of c ?_
                  clear c
                  conv => whnf
                  refine splF ?_
                  conv => whnf
                  refine CutK.norm [0, 1, 2, 6, 7, 8, 10, 11] [0, 384, 448, 640, 64000] ?_
                  conv => whnf
                  refine CutK.norm [0, 1, 2, 6, 7, 8] [0, 384, 448, 64000] ?_
                  conv => whnf
                  exact LoopOk.back (spec_l1Cur_surreal_l0_2_ct hrec_spec_l1Cur_surreal n _ _ _ _ _ h) [some 0, some 384, some 448, some 64000] [] ⟨⟨rfl, rfl⟩, ⟨rfl, ⟨rfl, rfl, rfl, rfl, trivial⟩, ⟨rfl, trivial, trivial⟩, ⟨rfl, ⟨rfl, rfl⟩, trivial⟩, ⟨rfl, rfl, rows_same⟩, trivial⟩, ⟨rfl, rfl⟩, rfl, rfl, ⟨rfl, rfl⟩, ⟨rfl, rfl⟩, rfl, trivial⟩
              · replace h := iteF h g938
                conv => whnf
                refine CutK.norm [0, 1, 2, 6, 7, 8, 9, 40] [0, 384, 448, 576, 1472, 64000] ?_
                conv => whnf
                refine CutK.norm [0, 1, 2, 6, 7, 8, 9] [0, 384, 448, 576, 1472, 64000] ?_
                conv => whnf
                refine Pick.no ?_
                conv => whnf
                obtain ⟨y948, e949, h⟩ := bind_ex h
                refine CallOk.of (spec_l1Cur_coef_ct e949) ?_
                conv => whnf
                refine Pick.no ?_
                conv => whnf
                refine Take.all (rfl) ?_
                conv => whnf
                refine Take.all (rfl) ?_
                conv => whnf
                obtain ⟨y950, e951, h⟩ := bind_ex h
                refine splitOn y950.2 (fun g952 => ?_) (fun g952 => ?_)
                · replace h := condT' g952 h
                  have c := spec_suPut_cts e951
                  rw [g952] at c
                  refine CallOk.of c ?_
                  clear c
                  conv => whnf
                  refine splT ?_
                  conv => whnf
                  refine CutK.norm [0, 1, 2, 6, 7, 8, 10, 11] [0, 384, 448, 640, 3456, 64000] ?_
                  conv => whnf
                  refine CutK.norm [0, 1, 2, 6, 7, 8] [0, 384, 448, 3456] ?_
                  conv => whnf
                  exact LoopOk.back (spec_l1Cur_surreal_l0_2_ct hrec_spec_l1Cur_surreal n _ _ _ _ _ h) [some 0, some 384, some 448, some 3456] [] ⟨⟨rfl, rfl⟩, ⟨rfl, ⟨rfl, rfl, rfl, rfl, trivial⟩, ⟨rfl, trivial, trivial⟩, ⟨rfl, ⟨rfl, rfl⟩, trivial⟩, ⟨rfl, rfl, rows_same⟩, trivial⟩, ⟨rfl, rfl⟩, rfl, rfl, ⟨rfl, rfl⟩, ⟨rfl, rfl⟩, rfl, trivial⟩
                · replace h := condF' g952 h
                  have c := spec_suPut_cts e951
                  rw [g952] at c
                  refine CallOk.of c ?_
                  clear c
                  conv => whnf
                  refine splF ?_
                  conv => whnf
                  refine CutK.norm [0, 1, 2, 6, 7, 8, 10, 11] [0, 384, 448, 640, 64000] ?_
                  conv => whnf
                  refine CutK.norm [0, 1, 2, 6, 7, 8] [0, 384, 448, 64000] ?_
                  conv => whnf
                  exact LoopOk.back (spec_l1Cur_surreal_l0_2_ct hrec_spec_l1Cur_surreal n _ _ _ _ _ h) [some 0, some 384, some 448, some 64000] [] ⟨⟨rfl, rfl⟩, ⟨rfl, ⟨rfl, rfl, rfl, rfl, trivial⟩, ⟨rfl, trivial, trivial⟩, ⟨rfl, ⟨rfl, rfl⟩, trivial⟩, ⟨rfl, rfl, rows_same⟩, trivial⟩, ⟨rfl, rfl⟩, rfl, rfl, ⟨rfl, rfl⟩, ⟨rfl, rfl⟩, rfl, trivial⟩
        · replace h := iteN h g917
          conv => whnf
          refine CutK.norm [0, 1, 2, 6, 7, 8, 9, 24] [0, 384, 448, 576, 1472, 64000] ?_
          conv => whnf
          refine Pick.no ?_
          conv => whnf
          obtain ⟨y953, e954, h⟩ := bind_ex h
          refine CallOk.of (spec_l1Cur_one_ct e954) ?_
          conv => whnf
          refine spl (fun g955 => ?_) (fun g955 => ?_)
          · replace h := iteT h g955
            conv => whnf
            refine CutK.norm [0, 1, 2, 6, 7, 8, 9, 36] [0, 384, 448, 576, 1472, 64000] ?_
            conv => whnf
            refine CutK.norm [0, 1, 2, 6, 7, 8, 9] [0, 384, 448, 576, 64000] ?_
            conv => whnf
            refine Pick.no ?_
            conv => whnf
            obtain ⟨y956, e957, h⟩ := bind_ex h
            refine CallOk.of (spec_l1Cur_coef_ct e957) ?_
            conv => whnf
            refine Pick.no ?_
            conv => whnf
            refine Take.all (rfl) ?_
            conv => whnf
            obtain ⟨y958, e959, h⟩ := bind_ex h
            refine splitOn y958.2 (fun g960 => ?_) (fun g960 => ?_)
            · replace h := condT' g960 h
              have c := spec_suPut_cts e959
              rw [g960] at c
              refine CallOk.of c ?_
              clear c
              conv => whnf
              refine splT ?_
              conv => whnf
              refine CutK.norm [0, 1, 2, 6, 7, 8, 10, 11] [0, 384, 448, 640, 3456, 64000] ?_
              conv => whnf
              refine CutK.norm [0, 1, 2, 6, 7, 8] [0, 384, 448, 3456] ?_
              conv => whnf
              exact LoopOk.back (spec_l1Cur_surreal_l0_2_ct hrec_spec_l1Cur_surreal n _ _ _ _ _ h) [some 0, some 384, some 448, some 3456] [] ⟨⟨rfl, rfl⟩, ⟨rfl, ⟨rfl, rfl, rfl, rfl, trivial⟩, ⟨rfl, trivial, trivial⟩, ⟨rfl, ⟨rfl, rfl⟩, trivial⟩, ⟨rfl, rfl, rows_same⟩, trivial⟩, ⟨rfl, rfl⟩, rfl, rfl, ⟨rfl, rfl⟩, ⟨rfl, rfl⟩, rfl, trivial⟩
            · replace h := condF' g960 h
              have c := spec_suPut_cts e959
              rw [g960] at c
              refine CallOk.of c ?_
              clear c
              conv => whnf
              refine splF ?_
              conv => whnf
              refine CutK.norm [0, 1, 2, 6, 7, 8, 10, 11] [0, 384, 448, 640, 64000] ?_
              conv => whnf
              refine CutK.norm [0, 1, 2, 6, 7, 8] [0, 384, 448, 64000] ?_
              conv => whnf
              exact LoopOk.back (spec_l1Cur_surreal_l0_2_ct hrec_spec_l1Cur_surreal n _ _ _ _ _ h) [some 0, some 384, some 448, some 64000] [] ⟨⟨rfl, rfl⟩, ⟨rfl, ⟨rfl, rfl, rfl, rfl, trivial⟩, ⟨rfl, trivial, trivial⟩, ⟨rfl, ⟨rfl, rfl⟩, trivial⟩, ⟨rfl, rfl, rows_same⟩, trivial⟩, ⟨rfl, rfl⟩, rfl, rfl, ⟨rfl, rfl⟩, ⟨rfl, rfl⟩, rfl, trivial⟩
          · replace h := iteF h g955
            conv => whnf
            refine CutK.norm [0, 1, 2, 6, 7, 8, 9, 36] [0, 384, 448, 576, 1472, 64000] ?_
            conv => whnf
            refine Pick.no ?_
            conv => whnf
            obtain ⟨y961, e962, h⟩ := bind_ex h
            refine CallOk.of (spec_l1Cur_one_ct e962) ?_
            conv => whnf
            refine spl (fun g963 => ?_) (fun g963 => ?_)
            · replace h := iteT h g963
              conv => whnf
              refine CutK.norm [0, 1, 2, 6, 7, 8, 9, 40] [0, 384, 448, 576, 1472, 64000] ?_
              conv => whnf
              refine Pick.no ?_
              conv => whnf
              refine Take.all (by first | rfl | exact List.length_append.symm | (simp; done) | omega) ?_
              conv => whnf
              obtain ⟨y964, e965, h⟩ := bind_ex h
              refine CallOk.of (spec_l1Cur_among_ct e965) ?_
              conv => whnf
              refine Pick.no ?_
              conv => whnf
              obtain ⟨y966, e967, h⟩ := bind_ex h
              refine CallOk.of (spec_suInt_ct e967) ?_
              conv => whnf
              refine CutK.norm [0, 1, 2, 6, 7, 8, 9] [0, 384, 448, 576, 2944, 64000] ?_
              conv => whnf
              refine Pick.no ?_
              conv => whnf
              obtain ⟨y968, e969, h⟩ := bind_ex h
              refine CallOk.of (spec_l1Cur_coef_ct e969) ?_
              conv => whnf
              refine Pick.no ?_
              conv => whnf
              refine Take.all (rfl) ?_
              conv => whnf
              refine Take.all (rfl) ?_
              conv => whnf
              obtain ⟨y970, e971, h⟩ := bind_ex h
              refine splitOn y970.2 (fun g972 => ?_) (fun g972 => ?_)
              · replace h := condT' g972 h
                have c := spec_suPut_cts e971
                rw [g972] at c
                refine CallOk.of c ?_
                clear c
                conv => whnf
                refine splT ?_
                conv => whnf
                refine CutK.norm [0, 1, 2, 6, 7, 8, 10, 11] [0, 384, 448, 640, 3456, 64000] ?_
                conv => whnf
                refine CutK.norm [0, 1, 2, 6, 7, 8] [0, 384, 448, 3456] ?_
                conv => whnf
                exact LoopOk.back (spec_l1Cur_surreal_l0_2_ct hrec_spec_l1Cur_surreal n _ _ _ _ _ h) [some 0, some 384, some 448, some 3456] [] ⟨⟨rfl, rfl⟩, ⟨rfl, ⟨rfl, rfl, rfl, rfl, trivial⟩, ⟨rfl, trivial, trivial⟩, ⟨rfl, ⟨rfl, rfl⟩, trivial⟩, ⟨rfl, rfl, rows_same⟩, trivial⟩, ⟨rfl, rfl⟩, rfl, rfl, ⟨rfl, rfl⟩, ⟨rfl, rfl⟩, rfl, trivial⟩
              · replace h := condF' g972 h
                have c := spec_suPut_cts e971
                rw [g972] at c
                refine CallOk.of c ?_
                clear c
                conv => whnf
                refine splF ?_
                conv => whnf
                refine CutK.norm [0, 1, 2, 6, 7, 8, 10, 11] [0, 384, 448, 640, 64000] ?_
                conv => whnf
                refine CutK.norm [0, 1, 2, 6, 7, 8] [0, 384, 448, 64000] ?_
                conv => whnf
                exact LoopOk.back (spec_l1Cur_surreal_l0_2_ct hrec_spec_l1Cur_surreal n _ _ _ _ _ h) [some 0, some 384, some 448, some 64000] [] ⟨⟨rfl, rfl⟩, ⟨rfl, ⟨rfl, rfl, rfl, rfl, trivial⟩, ⟨rfl, trivial, trivial⟩, ⟨rfl, ⟨rfl, rfl⟩, trivial⟩, ⟨rfl, rfl, rows_same⟩, trivial⟩, ⟨rfl, rfl⟩, rfl, rfl, ⟨rfl, rfl⟩, ⟨rfl, rfl⟩, rfl, trivial⟩
            · replace h := iteF h g963
              conv => whnf
              refine CutK.norm [0, 1, 2, 6, 7, 8, 9, 40] [0, 384, 448, 576, 1472, 64000] ?_
              conv => whnf
              refine CutK.norm [0, 1, 2, 6, 7, 8, 9] [0, 384, 448, 576, 1472, 64000] ?_
              conv => whnf
              refine Pick.no ?_
              conv => whnf
              obtain ⟨y973, e974, h⟩ := bind_ex h
              refine CallOk.of (spec_l1Cur_coef_ct e974) ?_
              conv => whnf
              refine Pick.no ?_
              conv => whnf
              refine Take.all (rfl) ?_
              conv => whnf
              refine Take.all (rfl) ?_
              conv => whnf
              obtain ⟨y975, e976, h⟩ := bind_ex h
              refine splitOn y975.2 (fun g977 => ?_) (fun g977 => ?_)
              · replace h := condT' g977 h
                have c := spec_suPut_cts e976
                rw [g977] at c
                refine CallOk.of c ?_
                clear c
                conv => whnf
                refine splT ?_
                conv => whnf
                refine CutK.norm [0, 1, 2, 6, 7, 8, 10, 11] [0, 384, 448, 640, 3456, 64000] ?_
                conv => whnf
                refine CutK.norm [0, 1, 2, 6, 7, 8] [0, 384, 448, 3456] ?_
                conv => whnf
                exact LoopOk.back (spec_l1Cur_surreal_l0_2_ct hrec_spec_l1Cur_surreal n _ _ _ _ _ h) [some 0, some 384, some 448, some 3456] [] ⟨⟨rfl, rfl⟩, ⟨rfl, ⟨rfl, rfl, rfl, rfl, trivial⟩, ⟨rfl, trivial, trivial⟩, ⟨rfl, ⟨rfl, rfl⟩, trivial⟩, ⟨rfl, rfl, rows_same⟩, trivial⟩, ⟨rfl, rfl⟩, rfl, rfl, ⟨rfl, rfl⟩, ⟨rfl, rfl⟩, rfl, trivial⟩
              · replace h := condF' g977 h
                have c := spec_suPut_cts e976
                rw [g977] at c
                refine CallOk.of c ?_
                clear c
                conv => whnf
                refine splF ?_
                conv => whnf
                refine CutK.norm [0, 1, 2, 6, 7, 8, 10, 11] [0, 384, 448, 640, 64000] ?_
                conv => whnf
                refine CutK.norm [0, 1, 2, 6, 7, 8] [0, 384, 448, 64000] ?_
                conv => whnf
                exact LoopOk.back (spec_l1Cur_surreal_l0_2_ct hrec_spec_l1Cur_surreal n _ _ _ _ _ h) [some 0, some 384, some 448, some 64000] [] ⟨⟨rfl, rfl⟩, ⟨rfl, ⟨rfl, rfl, rfl, rfl, trivial⟩, ⟨rfl, trivial, trivial⟩, ⟨rfl, ⟨rfl, rfl⟩, trivial⟩, ⟨rfl, rfl, rows_same⟩, trivial⟩, ⟨rfl, rfl⟩, rfl, rfl, ⟨rfl, rfl⟩, ⟨rfl, rfl⟩, rfl, trivial⟩
      · replace h := iteN h g912
        conv => whnf
        exact ⟨_, _, [some 0, some 384, some 448, some 64000], [], ⟨rfl, _, _, _, _, h, rfl, rfl⟩, ⟨⟨rfl, rfl⟩, ⟨rfl, ⟨rfl, rfl, rfl, rfl, trivial⟩, ⟨rfl, trivial, trivial⟩, ⟨rfl, ⟨rfl, rfl⟩, trivial⟩, ⟨rfl, rfl, rows_same⟩, trivial⟩, ⟨rfl, rfl⟩, ⟨rfl, rfl⟩, trivial⟩⟩
def spec_l1Cur_surreal_b (k : Nat) (rec_spec_l1Cur_surreal : Rw → Int → Int → Int → Bool → Option (Rw × Rw × Int × Int)) (a1 : Rw) (a2 : Int) (a3 : Int) (a4 : Int) (a5 : Bool) : Option (Rw × Rw × Int × Int) :=
  (cond a5 ((spec_l1Cur_among a1 a2 a3 ([[D.int .i64 0], [D.int .i64 1], [D.int .i64 1], [D.int .i64 2], [D.int .i64 2], [D.int .i64 3]] : Rw)).bind fun y703 => (spec_l1Cur_surreal_l0_2 k rec_spec_l1Cur_surreal a4 (fun (v842 : Rw) (v843 : Int) (v844 : Int) (v845 : Rw) => (spec_l1Cur_surreal_p3 v842 v843 v844 v845)) k y703.1 y703.2.1 y703.2.2.1 y703.2.2.2 ([] : Rw))) ((spec_l1Cur_among a1 a2 a3 ([[D.int .i64 0], [D.int .i64 1], [D.int .i64 1], [D.int .i64 2], [D.int .i64 2], [D.int .i64 3]] : Rw)).bind fun y428 => (spec_l1Cur_surreal_l0 k rec_spec_l1Cur_surreal a4 (fun (v567 : Rw) (v568 : Int) (v569 : Int) (v570 : Rw) => (spec_l1Cur_surreal_p3 v567 v568 v569 v570)) k y428.1 y428.2.1 y428.2.2.1 y428.2.2.2 ([] : Rw))))
set_option maxHeartbeats 4000000 in
set_option maxRecDepth 100000 in
theorem spec_l1Cur_surreal_b_ct {k : Nat} {rec_spec_l1Cur_surreal : Rw → Int → Int → Int → Bool → Option (Rw × Rw × Int × Int)} (hrec_spec_l1Cur_surreal : ∀ (a1 : Rw) (a2 : Int) (a3 : Int) (a4 : Int) (a5 : Bool) (r : Rw × Rw × Int × Int), rec_spec_l1Cur_surreal a1 a2 a3 a4 a5 = some r → Ct prog 43 [.ptr 0 0, .d (D.int .i64 a4), .d (D.bool a5)] (⟨[(66, [.d (D.sl a1), .d (D.int .i64 a2), .d (D.int .u64 a3)])], []⟩) (.agg [.os 8 r.1.length]) (⟨[(66, [.d (D.sl r.2.1), .d (D.int .i64 r.2.2.1), .d (D.int .u64 r.2.2.2)])], [(70, false, r.1)]⟩)) {a1 : Rw} {a2 : Int} {a3 : Int} {a4 : Int} {a5 : Bool} {r : Rw × Rw × Int × Int} (h : spec_l1Cur_surreal_b k rec_spec_l1Cur_surreal a1 a2 a3 a4 a5 = some r) : Ct prog 43 [.ptr 0 0, .d (D.int .i64 a4), .d (D.bool a5)] (⟨[(66, [.d (D.sl a1), .d (D.int .i64 a2), .d (D.int .u64 a3)])], []⟩) (.agg [.os 8 r.1.length]) (⟨[(66, [.d (D.sl r.2.1), .d (D.int .i64 r.2.2.1), .d (D.int .u64 r.2.2.2)])], [(70, false, r.1)]⟩) := by
  rw [spec_l1Cur_surreal_b] at h
  refine Ct.of (c := _) mixed func43 ⟨rfl, rfl, rfl⟩ ?_ rfl
  cases a5
  · replace h := condF h
    conv => whnf
    refine Pick.no ?_
    conv => whnf
    refine Take.all (by first | rfl | exact List.length_append.symm | (simp; done) | omega) ?_
    conv => whnf
    obtain ⟨y428, e429, h⟩ := bind_ex h
    refine CallOk.of (spec_l1Cur_among_ct e429) ?_
    conv => whnf
    refine CutK.norm [0, 1, 2, 6, 7, 8] [0, 384, 448] ?_
    conv => whnf
    refine LoopOk.into (spec_l1Cur_surreal_l0_ct hrec_spec_l1Cur_surreal _ _ _ _ _ _ h) [some 0, some 384, some 448, none] [] ⟨⟨rfl, rfl⟩, ⟨rfl, ⟨rfl, rfl, rfl, rfl, trivial⟩, ⟨rfl, trivial, trivial⟩, ⟨rfl, ⟨rfl, rfl⟩, trivial⟩, rfl, trivial⟩, ⟨rfl, rfl⟩, rfl, rfl, ⟨rfl, rfl⟩, ⟨rfl, rfl⟩, rfl, trivial⟩ ?_ (fun _ hs => hs)
    rintro i ts os ⟨rfl, v567, v568, v569, v570, h, rfl, rfl⟩
    conv => whnf
    exact CutK.piece (spec_l1Cur_surreal_p3_ct  h) [some 0, some 384, some 448, some 67001] [] ⟨⟨rfl, rfl⟩, ⟨rfl, ⟨rfl, rfl, rfl, rfl, trivial⟩, ⟨rfl, trivial, trivial⟩, ⟨rfl, ⟨rfl, rfl⟩, trivial⟩, ⟨rfl, rfl, rows_same⟩, trivial⟩, ⟨rfl, rfl⟩, ⟨rfl, rfl⟩, trivial⟩
  · replace h := condT h
    conv => whnf
    refine Pick.no ?_
    conv => whnf
    refine Take.all (by first | rfl | exact List.length_append.symm | (simp; done) | omega) ?_
    conv => whnf
    obtain ⟨y703, e704, h⟩ := bind_ex h
    refine CallOk.of (spec_l1Cur_among_ct e704) ?_
    conv => whnf
    refine CutK.norm [0, 1, 2, 6, 7, 8] [0, 384, 448] ?_
    conv => whnf
    refine LoopOk.into (spec_l1Cur_surreal_l0_2_ct hrec_spec_l1Cur_surreal _ _ _ _ _ _ h) [some 0, some 384, some 448, none] [] ⟨⟨rfl, rfl⟩, ⟨rfl, ⟨rfl, rfl, rfl, rfl, trivial⟩, ⟨rfl, trivial, trivial⟩, ⟨rfl, ⟨rfl, rfl⟩, trivial⟩, rfl, trivial⟩, ⟨rfl, rfl⟩, rfl, rfl, ⟨rfl, rfl⟩, ⟨rfl, rfl⟩, rfl, trivial⟩ ?_ (fun _ hs => hs)
    rintro i ts os ⟨rfl, v842, v843, v844, v845, h, rfl, rfl⟩
    conv => whnf
    exact CutK.piece (spec_l1Cur_surreal_p3_ct  h) [some 0, some 384, some 448, some 67001] [] ⟨⟨rfl, rfl⟩, ⟨rfl, ⟨rfl, rfl, rfl, rfl, trivial⟩, ⟨rfl, trivial, trivial⟩, ⟨rfl, ⟨rfl, rfl⟩, trivial⟩, ⟨rfl, rfl, rows_same⟩, trivial⟩, ⟨rfl, rfl⟩, ⟨rfl, rfl⟩, trivial⟩
def spec_l1Cur_surreal : Nat → Rw → Int → Int → Int → Bool → Option (Rw × Rw × Int × Int)
  | 0, _, _, _, _, _ => none
  | k + 1, a1, a2, a3, a4, a5 => spec_l1Cur_surreal_b k (spec_l1Cur_surreal k) a1 a2 a3 a4 a5
theorem spec_l1Cur_surreal_ct' : ∀ (k : Nat) (a1 : Rw) (a2 : Int) (a3 : Int) (a4 : Int) (a5 : Bool) (r : Rw × Rw × Int × Int), spec_l1Cur_surreal k a1 a2 a3 a4 a5 = some r → Ct prog 43 [.ptr 0 0, .d (D.int .i64 a4), .d (D.bool a5)] (⟨[(66, [.d (D.sl a1), .d (D.int .i64 a2), .d (D.int .u64 a3)])], []⟩) (.agg [.os 8 r.1.length]) (⟨[(66, [.d (D.sl r.2.1), .d (D.int .i64 r.2.2.1), .d (D.int .u64 r.2.2.2)])], [(70, false, r.1)]⟩)
  | 0, _, _, _, _, _, _, h => by rw [spec_l1Cur_surreal] at h; cases h
  | k + 1, _, _, _, _, _, _, h => by rw [spec_l1Cur_surreal] at h; exact spec_l1Cur_surreal_b_ct (spec_l1Cur_surreal_ct' k) h
theorem spec_l1Cur_surreal_ct {k : Nat} {a1 : Rw} {a2 : Int} {a3 : Int} {a4 : Int} {a5 : Bool} {r : Rw × Rw × Int × Int} (h : spec_l1Cur_surreal k a1 a2 a3 a4 a5 = some r) : Ct prog 43 [.ptr 0 0, .d (D.int .i64 a4), .d (D.bool a5)] (⟨[(66, [.d (D.sl a1), .d (D.int .i64 a2), .d (D.int .u64 a3)])], []⟩) (.agg [.os 8 r.1.length]) (⟨[(66, [.d (D.sl r.2.1), .d (D.int .i64 r.2.2.1), .d (D.int .u64 r.2.2.2)])], [(70, false, r.1)]⟩) := spec_l1Cur_surreal_ct' k _ _ _ _ _ _ h

def spec_suPlus_l0 (k : Nat) (a2 : Rw) (K0 : Rw → Option (Rw × Bool)) : Rw → Rw → Option (Rw × Bool)
  | [], v13 => (K0 v13)
  | cs :: rest, v13 => (cell_sii cs fun x33 x34 x35 => ((spec_suPut k v13 x33 x34 x35).bind fun y37 => (if y37.2 = true then (spec_suPlus_l0 k a2 K0 rest y37.1) else some (([] : Rw), false))))
set_option maxRecDepth 100000 in
theorem spec_suPlus_l0_ct {k : Nat} {a2 : Rw} {K0 : Rw → Option (Rw × Bool)} {r : Rw × Bool} (hx : a2.length ≤ cap) : ∀ (rest : Rw) (v12n : Nat) (v13 : Rw), a2.drop v12n = rest → spec_suPlus_l0 k a2 K0 rest v13 = some r → LoopOk prog 0 (lp f44 0) (mk 29 [(4, .ptr 256 0), (6, .ptr 384 0), (12, .d (D.sl a2)), (13, .d (D.int .i64 (a2.length : Int))), (14, .d (D.int .i64 (v12n : Int)))] [(256, .box 26 [.es]), (384, .box 26 [.d (D.sl v13)])]) (LoopEnd prog f44 0 29 (.tup [.agg [.d (D.sl r.1)], .d (D.bool r.2)]) (⟨[], []⟩) (fun i ts os => (i = 0 ∧ ∃ v23 : Rw, K0 v23 = some r ∧ ts = [(4, .ptr 256 0), (6, .ptr 384 0)] ∧ os = [(256, .box 26 [.es]), (384, .box 26 [.d (D.sl v23)])])))
  | [], v12n, v13, hd, h => by
      rw [spec_suPlus_l0] at h
      have hn := drop_nil hd
      refine LoopOk.step ?_
      conv => whnf
      refine splD (fun g => absurd g hn) (fun _ => ?_)
      conv => whnf
      exact ⟨_, _, [some 256, some 384], [], ⟨rfl, _, h, rfl, rfl⟩, ⟨⟨rfl, rfl⟩, ⟨rfl, ⟨rfl, trivial, trivial⟩, ⟨rfl, rfl, trivial⟩, trivial⟩, ⟨rfl, rfl⟩, ⟨rfl, rfl⟩, trivial⟩⟩
  | cs :: rest, v12n, v13, hd, h => by
      rw [spec_suPlus_l0] at h
      obtain ⟨hrow, hd1, hlt⟩ := drop_cons hd
      refine LoopOk.step ?_
      conv => whnf
      refine splD (fun _ => ?_) (fun g => absurd hlt g)
      conv => whnf
      obtain ⟨x33, x34, x35, e36, h⟩ := cell_sii_ex h
      rw [e36] at hrow
      refine Req.of (Int.natCast_nonneg _) ?_
      refine Row.of _ hrow ?_
      conv => whnf
      refine Pick.no ?_
      conv => whnf
      obtain ⟨y37, e38, h⟩ := bind_ex h
      refine CallOk.of (spec_suPut_ct e38) ?_
      conv => whnf
      refine spl (fun g39 => ?_) (fun g39 => ?_)
      · replace h := iteT h g39
        conv => whnf
        refine CutK.go ?_
        conv => whnf
        refine CutK.go ?_
        conv => whnf
        exact LoopOk.back (spec_suPlus_l0_ct hx rest (v12n + 1) _ hd1 h) [some 256, some 384] [1344] ⟨⟨rfl, rfl⟩, ⟨rfl, ⟨rfl, trivial, trivial⟩, ⟨rfl, ⟨rfl, Nat.le_of_eq rfl, eq_take rfl⟩, trivial⟩, trivial⟩, ⟨rfl, rfl⟩, ⟨rfl, rfl⟩, rfl, rfl, i64eq (wrap_up hlt hx), trivial⟩
      · replace h := iteF h g39
        conv => whnf
        refine CutK.go ?_
        conv => whnf
        cases h
        exact Done.of [] [] rfl rfl ⟨⟨rfl, rfl⟩, ⟨rfl, trivial⟩, ⟨⟨rfl, trivial⟩, rfl, trivial⟩, trivial⟩
def spec_suPlus (k : Nat) (a1 : Rw) (a2 : Rw) : Option (Rw × Bool) :=
  (if a2.length ≤ cap then (spec_suPlus_l0 k a2 (fun (v23 : Rw) => some (v23, true)) a2 a1) else none)
set_option maxHeartbeats 4000000 in
set_option maxRecDepth 100000 in
theorem spec_suPlus_ct {k : Nat} {a1 : Rw} {a2 : Rw} {r : Rw × Bool} (h : spec_suPlus k a1 a2 = some r) : Ct prog 44 [.agg [.d (D.sl a1)], .agg [.d (D.sl a2)]] (⟨[], []⟩) (.tup [.agg [.d (D.sl r.1)], .d (D.bool r.2)]) (⟨[], []⟩) := by
  rw [spec_suPlus] at h
  refine Ct.of (c := _) mixed func44 ⟨rfl, rfl, rfl⟩ ?_ rfl
  conv => whnf
  obtain ⟨g40, h⟩ := req_ex h
  refine LoopOk.into (spec_suPlus_l0_ct  g40 _ _ _ rfl h) [some 256, some 384] [] ⟨⟨rfl, rfl⟩, ⟨rfl, ⟨rfl, trivial, trivial⟩, ⟨rfl, rfl, trivial⟩, trivial⟩, ⟨rfl, rfl⟩, ⟨rfl, rfl⟩, rfl, rfl, rfl, trivial⟩ ?_ (fun _ hs => hs)
  rintro i ts os ⟨rfl, v23, h, rfl, rfl⟩
  conv => whnf
  refine CutK.go ?_
  conv => whnf
  cases h
  exact Done.of [] [] rfl rfl ⟨⟨rfl, rfl⟩, ⟨rfl, trivial⟩, ⟨⟨rfl, trivial⟩, rfl, trivial⟩, trivial⟩

def spec_odTerm  (a1 : Rw) (a2 : Int) : Option Rw :=
  (if a2 = (0 : Int) then some ([] : Rw) else some ([[D.sl a1, D.int .i64 a2]] : Rw))
set_option maxHeartbeats 4000000 in
set_option maxRecDepth 100000 in
theorem spec_odTerm_ct  {a1 : Rw} {a2 : Int} {r : Rw} (h : spec_odTerm a1 a2 = some r) : Ct prog 141 [.agg [.d (D.sl a1)], .d (D.int .i64 a2)] (⟨[], []⟩) (.agg [.os 8 r.length]) (⟨[], [(92, false, r)]⟩) := by
  rw [spec_odTerm] at h
  refine Ct.of (c := _) mixed func141 ⟨rfl, rfl, rfl⟩ ?_ rfl
  conv => whnf
  refine splD (fun g3 => ?_) (fun g3 => ?_)
  · replace h := iteP h g3
    conv => whnf
    cases h
    exact Done.of [none] [] rfl rfl ⟨⟨rfl, rfl⟩, ⟨rfl, rfl, trivial⟩, ⟨⟨rfl, rfl⟩, trivial⟩, trivial⟩
  · replace h := iteN h g3
    conv => whnf
    cases h
    exact Done.of [some 704] [] rfl rfl ⟨⟨rfl, rfl⟩, ⟨rfl, ⟨rfl, rfl, rows_same⟩, trivial⟩, ⟨⟨(by first | rfl | exact List.length_append.symm | (simp; done) | omega), rfl⟩, trivial⟩, trivial⟩

def spec_odInt  (a1 : Int) : Option Rw :=
  ((spec_odTerm ([] : Rw) a1).bind fun y2 => some y2)
set_option maxHeartbeats 4000000 in
set_option maxRecDepth 100000 in
theorem spec_odInt_ct  {a1 : Int} {r : Rw} (h : spec_odInt a1 = some r) : Ct prog 114 [.d (D.int .i64 a1)] (⟨[], []⟩) (.agg [.os 8 r.length]) (⟨[], [(92, false, r)]⟩) := by
  rw [spec_odInt] at h
  refine Ct.of (c := _) mixed func114 ⟨rfl, rfl, rfl⟩ ?_ rfl
  conv => whnf
  refine Pick.no ?_
  conv => whnf
  obtain ⟨y2, e3, h⟩ := bind_ex h
  refine CallOk.of (spec_odTerm_ct e3) ?_
  conv => whnf
  refine CutK.go ?_
  conv => whnf
  cases h
  exact Done.of [some 320] [] rfl rfl ⟨⟨rfl, rfl⟩, ⟨rfl, ⟨rfl, rfl, rows_same⟩, trivial⟩, ⟨⟨rfl, rfl⟩, trivial⟩, trivial⟩

def spec_odCmp_p2 (a1 : Rw) (a2 : Rw) : Option Int :=
  (if (a1.length : Int) < (a2.length : Int) then some (-1) else some 0)
set_option maxHeartbeats 4000000 in
set_option maxRecDepth 100000 in
theorem spec_odCmp_p2_ct {a1 : Rw} {a2 : Rw} {r : Int} (h : spec_odCmp_p2 a1 a2 = some r) : X prog 0 (tlF f142 2) (mk 60 [(2, .ptr 128 0), (3, .ptr 192 0)] [(128, .box 80 [.d (D.sl a1)]), (192, .box 80 [.d (D.sl a2)])]) (finK prog f142 0 (.d (D.int .i64 r)) (⟨[], []⟩)) := by
  rw [spec_odCmp_p2] at h
  conv => whnf
  refine splD (fun g37 => ?_) (fun g37 => ?_)
  · replace h := iteP h g37
    conv => whnf
    cases h
    exact Done.of [] [] rfl rfl ⟨⟨rfl, rfl⟩, ⟨rfl, trivial⟩, rfl, trivial⟩
  · replace h := iteN h g37
    conv => whnf
    cases h
    exact Done.of [] [] rfl rfl ⟨⟨rfl, rfl⟩, ⟨rfl, trivial⟩, rfl, trivial⟩
def spec_odCmp_l0 (rec_spec_odCmp : Rw → Rw → Option Int) (a1 : Rw) (a2 : Rw) (K0 : Option Int) : Rw → Nat → Option Int
  | [], v54n => (K0)
  | cs :: rest, v54n => (cell_si cs fun x71 x72 => (if (v54n : Int) = (a2.length : Int) then some 1 else (row_si a2 (v54n : Int) fun x75 x76 => ((rec_spec_odCmp x71 x75).bind fun y79 => (if y79 = (0 : Int) then (if x72 = x76 then (spec_odCmp_l0 rec_spec_odCmp a1 a2 K0 rest (v54n + 1)) else ((spec_l1Sign (IntKind.i64.wrap (x72 - x76))).bind fun y83 => some y83)) else some y79)))))
set_option maxRecDepth 100000 in
theorem spec_odCmp_l0_ct {rec_spec_odCmp : Rw → Rw → Option Int} {a1 : Rw} {a2 : Rw} {K0 : Option Int} (hrec_spec_odCmp : ∀ (a1 : Rw) (a2 : Rw) (r : Int), rec_spec_odCmp a1 a2 = some r → Ct prog 142 [.agg [.d (D.sl a1)], .agg [.d (D.sl a2)]] (⟨[], []⟩) (.d (D.int .i64 r)) (⟨[], []⟩)) {r : Int} (hx : a1.length ≤ cap) : ∀ (rest : Rw) (v54n : Nat), a1.drop v54n = rest → spec_odCmp_l0 rec_spec_odCmp a1 a2 K0 rest v54n = some r → LoopOk prog 0 (lp f142 0) (mk 60 [(2, .ptr 128 0), (3, .ptr 192 0), (9, .d (D.sl a1)), (10, .d (D.int .i64 (a1.length : Int))), (11, .d (D.int .i64 (v54n : Int)))] [(128, .box 80 [.d (D.sl a1)]), (192, .box 80 [.d (D.sl a2)])]) (LoopEnd prog f142 0 60 (.d (D.int .i64 r)) (⟨[], []⟩) (fun i ts os => (i = 0 ∧ K0 = some r ∧ ts = [(2, .ptr 128 0), (3, .ptr 192 0)] ∧ os = [(128, .box 80 [.d (D.sl a1)]), (192, .box 80 [.d (D.sl a2)])])))
  | [], v54n, hd, h => by
      rw [spec_odCmp_l0] at h
      have hn := drop_nil hd
      refine LoopOk.step ?_
      conv => whnf
      refine splD (fun g => absurd g hn) (fun _ => ?_)
      conv => whnf
      exact ⟨_, _, [some 128, some 192], [], ⟨rfl, h, rfl, rfl⟩, ⟨⟨rfl, rfl⟩, ⟨rfl, ⟨rfl, rfl, trivial⟩, ⟨rfl, rfl, trivial⟩, trivial⟩, ⟨rfl, rfl⟩, ⟨rfl, rfl⟩, trivial⟩⟩
  | cs :: rest, v54n, hd, h => by
      rw [spec_odCmp_l0] at h
      obtain ⟨hrow, hd1, hlt⟩ := drop_cons hd
      refine LoopOk.step ?_
      conv => whnf
      refine splD (fun _ => ?_) (fun g => absurd hlt g)
      conv => whnf
      obtain ⟨x71, x72, e73, h⟩ := cell_si_ex h
      rw [e73] at hrow
      refine Req.of (Int.natCast_nonneg _) ?_
      refine Row.of _ hrow ?_
      conv => whnf
      refine splD (fun g74 => ?_) (fun g74 => ?_)
      · replace h := iteP h g74
        conv => whnf
        cases h
        exact Done.of [] [] rfl rfl ⟨⟨rfl, rfl⟩, ⟨rfl, trivial⟩, rfl, trivial⟩
      · replace h := iteN h g74
        conv => whnf
        obtain ⟨g78, x75, x76, e77, h⟩ := row_si_ex h
        refine Req.of g78 ?_
        refine Row.of _ e77 ?_
        conv => whnf
        refine Pick.no ?_
        conv => whnf
        obtain ⟨y79, e80, h⟩ := bind_ex h
        refine CallOk.of (hrec_spec_odCmp _ _ _ e80) ?_
        conv => whnf
        refine CutK.norm [2, 3, 5, 6, 7, 9, 10, 11] [128, 192, 384] ?_
        conv => whnf
        refine splN (fun g81 => ?_) (fun g81 => ?_)
        · replace h := iteN h g81
          conv => whnf
          cases h
          exact Done.of [] [] rfl rfl ⟨⟨rfl, rfl⟩, ⟨rfl, trivial⟩, rfl, trivial⟩
        · replace h := iteP h g81
          conv => whnf
          refine CutK.norm [2, 3, 5, 6, 9, 10, 11] [128, 192, 384] ?_
          conv => whnf
          refine Req.of g78 ?_
          refine Row.of _ e77 ?_
          conv => whnf
          refine splN (fun g82 => ?_) (fun g82 => ?_)
          · replace h := iteN h g82
            conv => whnf
            refine Req.of g78 ?_
            refine Row.of _ e77 ?_
            conv => whnf
            refine Pick.no ?_
            conv => whnf
            obtain ⟨y83, e84, h⟩ := bind_ex h
            refine CallOk.of (spec_l1Sign_ct e84) ?_
            conv => whnf
            refine CutK.norm [4] [] ?_
            conv => whnf
            cases h
            exact Done.of [] [] rfl rfl ⟨⟨rfl, rfl⟩, ⟨rfl, trivial⟩, rfl, trivial⟩
          · replace h := iteP h g82
            conv => whnf
            refine CutK.norm [2, 3, 9, 10, 11] [128, 192] ?_
            conv => whnf
            exact LoopOk.back (spec_odCmp_l0_ct hrec_spec_odCmp hx rest (v54n + 1)  hd1 h) [some 128, some 192] [] ⟨⟨rfl, rfl⟩, ⟨rfl, ⟨rfl, rfl, trivial⟩, ⟨rfl, rfl, trivial⟩, trivial⟩, ⟨rfl, rfl⟩, ⟨rfl, rfl⟩, rfl, rfl, i64eq (wrap_up hlt hx), trivial⟩
def spec_odCmp_b (rec_spec_odCmp : Rw → Rw → Option Int) (a1 : Rw) (a2 : Rw) : Option Int :=
  (if a1.length ≤ cap then (spec_odCmp_l0 rec_spec_odCmp a1 a2 (spec_odCmp_p2 a1 a2) a1 0) else none)
set_option maxHeartbeats 4000000 in
set_option maxRecDepth 100000 in
theorem spec_odCmp_b_ct {rec_spec_odCmp : Rw → Rw → Option Int} (hrec_spec_odCmp : ∀ (a1 : Rw) (a2 : Rw) (r : Int), rec_spec_odCmp a1 a2 = some r → Ct prog 142 [.agg [.d (D.sl a1)], .agg [.d (D.sl a2)]] (⟨[], []⟩) (.d (D.int .i64 r)) (⟨[], []⟩)) {a1 : Rw} {a2 : Rw} {r : Int} (h : spec_odCmp_b rec_spec_odCmp a1 a2 = some r) : Ct prog 142 [.agg [.d (D.sl a1)], .agg [.d (D.sl a2)]] (⟨[], []⟩) (.d (D.int .i64 r)) (⟨[], []⟩) := by
  rw [spec_odCmp_b] at h
  refine Ct.of (c := _) mixed func142 ⟨rfl, rfl, rfl⟩ ?_ rfl
  conv => whnf
  obtain ⟨g85, h⟩ := req_ex h
  refine LoopOk.into (spec_odCmp_l0_ct hrec_spec_odCmp g85 _ _  rfl h) [some 128, some 192] [] ⟨⟨rfl, rfl⟩, ⟨rfl, ⟨rfl, rfl, trivial⟩, ⟨rfl, rfl, trivial⟩, trivial⟩, ⟨rfl, rfl⟩, ⟨rfl, rfl⟩, rfl, rfl, rfl, trivial⟩ ?_ (fun _ hs => hs)
  rintro i ts os ⟨rfl, h, rfl, rfl⟩
  conv => whnf
  exact CutK.piece (spec_odCmp_p2_ct  h) [some 128, some 192] [] ⟨⟨rfl, rfl⟩, ⟨rfl, ⟨rfl, rfl, trivial⟩, ⟨rfl, rfl, trivial⟩, trivial⟩, ⟨rfl, rfl⟩, ⟨rfl, rfl⟩, trivial⟩
def spec_odCmp : Nat → Rw → Rw → Option Int
  | 0, _, _ => none
  | k + 1, a1, a2 => spec_odCmp_b (spec_odCmp k) a1 a2
theorem spec_odCmp_ct' : ∀ (k : Nat) (a1 : Rw) (a2 : Rw) (r : Int), spec_odCmp k a1 a2 = some r → Ct prog 142 [.agg [.d (D.sl a1)], .agg [.d (D.sl a2)]] (⟨[], []⟩) (.d (D.int .i64 r)) (⟨[], []⟩)
  | 0, _, _, _, h => by rw [spec_odCmp] at h; cases h
  | k + 1, _, _, _, h => by rw [spec_odCmp] at h; exact spec_odCmp_b_ct (spec_odCmp_ct' k) h
theorem spec_odCmp_ct {k : Nat} {a1 : Rw} {a2 : Rw} {r : Int} (h : spec_odCmp k a1 a2 = some r) : Ct prog 142 [.agg [.d (D.sl a1)], .agg [.d (D.sl a2)]] (⟨[], []⟩) (.d (D.int .i64 r)) (⟨[], []⟩) := spec_odCmp_ct' k _ _ _ h

def spec_odMeet_p4 (a2 : Rw) (a3 : Int) (o61 : Rw) (v62 : Bool) : Option Rw :=
  (cond v62 (some o61) (if o61.length + 1 ≤ cap then some (o61 ++ ([[D.sl a2, D.int .i64 a3]])) else none))
set_option maxHeartbeats 4000000 in
set_option maxRecDepth 100000 in
theorem spec_odMeet_p4_ct {a2 : Rw} {a3 : Int} {o61 : Rw} {v62 : Bool} {r : Rw} (h : spec_odMeet_p4 a2 a3 o61 v62 = some r) : X prog 0 (tlF f115 4) (mk 66 [(3, .ptr 192 0), (4, .ptr 256 0), (5, .ptr 320 0), (6, .d (D.bool v62))] [(192, .box 92 [.d (D.sl a2), .d (D.int .i64 a3)]), (256, .box 80 [.es]), (320, .box 80 [.os 1084000 o61.length]), (1084000, .arr 92 false o61)]) (finK prog f115 0 (.agg [.os 8 r.length]) (⟨[], [(92, false, r)]⟩)) := by
  rw [spec_odMeet_p4] at h
  cases v62
  · replace h := condF h
    conv => whnf
    refine Take.all (rfl) ?_
    conv => whnf
    refine Take.all (by first | rfl | exact List.length_append.symm | (simp; done) | omega) ?_
    conv => whnf
    obtain ⟨g64, h⟩ := req_ex h
    refine Req.of (room (b := 32) (by decide) g64 (wide1 rfl wide0)) ?_
    conv => whnf
    cases h
    exact Done.of [some 4032] [] rfl rfl ⟨⟨rfl, rfl⟩, ⟨rfl, ⟨rfl, rfl, rows_same⟩, trivial⟩, ⟨⟨(by first | rfl | exact List.length_append.symm | (simp; done) | omega), rfl⟩, trivial⟩, trivial⟩
  · replace h := condT h
    conv => whnf
    cases h
    exact Done.of [some 1084000] [] rfl rfl ⟨⟨rfl, rfl⟩, ⟨rfl, ⟨rfl, rfl, rows_same⟩, trivial⟩, ⟨⟨rfl, rfl⟩, trivial⟩, trivial⟩
def spec_odMeet_l0 (k : Nat) (a1 : Rw) (a2 : Rw) (a3 : Int) (K0 : Rw → Bool → Option Rw) : Rw → Bool → Rw → Option Rw
  | [], v74, v76 => (cond v74 (K0 v76 true) (K0 v76 false))
  | cs :: rest, v74, v76 => (cond v74 (cell_si cs fun x133 x134 => ((spec_odCmp k x133 a2).bind fun y136 => (if v76.length + 1 ≤ cap then (spec_odMeet_l0 k a1 a2 a3 K0 rest true (v76 ++ ([[D.sl x133, D.int .i64 x134]]))) else none))) (cell_si cs fun x122 x123 => ((spec_odCmp k x122 a2).bind fun y125 => (if y125 ≤ (0 : Int) then (if y125 = (0 : Int) then (if v76.length + 1 ≤ cap then (spec_odMeet_l0 k a1 a2 a3 K0 rest true (v76 ++ ([[D.sl a2, D.int .i64 (IntKind.i64.wrap (a3 + x123))]]))) else none) else (if v76.length + 1 ≤ cap then (if (v76 ++ ([[D.sl a2, D.int .i64 a3]])).length + 1 ≤ cap then (spec_odMeet_l0 k a1 a2 a3 K0 rest true ((v76 ++ ([[D.sl a2, D.int .i64 a3]])) ++ ([[D.sl x122, D.int .i64 x123]]))) else none) else none)) else (if v76.length + 1 ≤ cap then (spec_odMeet_l0 k a1 a2 a3 K0 rest false (v76 ++ ([[D.sl x122, D.int .i64 x123]]))) else none)))))
set_option maxRecDepth 100000 in
theorem spec_odMeet_l0_ct {k : Nat} {a1 : Rw} {a2 : Rw} {a3 : Int} {K0 : Rw → Bool → Option Rw} {r : Rw} (hx : a1.length ≤ cap) : ∀ (rest : Rw) (v75n : Nat) (v74 : Bool) (v76 : Rw), a1.drop v75n = rest → spec_odMeet_l0 k a1 a2 a3 K0 rest v74 v76 = some r → LoopOk prog 0 (lp f115 0) (mk 66 [(3, .ptr 192 0), (4, .ptr 256 0), (5, .ptr 320 0), (6, .d (D.bool v74)), (12, .d (D.sl a1)), (13, .d (D.int .i64 (a1.length : Int))), (14, .d (D.int .i64 (v75n : Int)))] [(192, .box 92 [.d (D.sl a2), .d (D.int .i64 a3)]), (256, .box 80 [.es]), (320, .box 80 [.os 64000 v76.length]), (64000, .arr 92 false v76)]) (LoopEnd prog f115 0 66 (.agg [.os 8 r.length]) (⟨[], [(92, false, r)]⟩) (fun i ts os => (i = 0 ∧ ∃ v91 : Rw, ∃ v100 : Bool, K0 v91 v100 = some r ∧ ts = [(3, .ptr 192 0), (4, .ptr 256 0), (5, .ptr 320 0), (6, .d (D.bool v100))] ∧ os = [(192, .box 92 [.d (D.sl a2), .d (D.int .i64 a3)]), (256, .box 80 [.es]), (320, .box 80 [.os 67001 v91.length]), (67001, .arr 92 false v91)])))
  | [], v75n, v74, v76, hd, h => by
      rw [spec_odMeet_l0] at h
      have hn := drop_nil hd
      cases v74
      · replace h := condF h
        refine LoopOk.step ?_
        conv => whnf
        refine splD (fun g => absurd g hn) (fun _ => ?_)
        conv => whnf
        exact ⟨_, _, [some 192, some 256, some 320, some 64000], [], ⟨rfl, _, _, h, rfl, rfl⟩, ⟨⟨rfl, rfl⟩, ⟨rfl, ⟨rfl, rfl, rfl, trivial⟩, ⟨rfl, trivial, trivial⟩, ⟨rfl, ⟨rfl, rfl⟩, trivial⟩, ⟨rfl, rfl, rows_same⟩, trivial⟩, ⟨rfl, rfl⟩, ⟨rfl, rfl⟩, ⟨rfl, rfl⟩, rfl, trivial⟩⟩
      · replace h := condT h
        refine LoopOk.step ?_
        conv => whnf
        refine splD (fun g => absurd g hn) (fun _ => ?_)
        conv => whnf
        exact ⟨_, _, [some 192, some 256, some 320, some 64000], [], ⟨rfl, _, _, h, rfl, rfl⟩, ⟨⟨rfl, rfl⟩, ⟨rfl, ⟨rfl, rfl, rfl, trivial⟩, ⟨rfl, trivial, trivial⟩, ⟨rfl, ⟨rfl, rfl⟩, trivial⟩, ⟨rfl, rfl, rows_same⟩, trivial⟩, ⟨rfl, rfl⟩, ⟨rfl, rfl⟩, ⟨rfl, rfl⟩, rfl, trivial⟩⟩
  | cs :: rest, v75n, v74, v76, hd, h => by
      rw [spec_odMeet_l0] at h
      obtain ⟨hrow, hd1, hlt⟩ := drop_cons hd
      cases v74
      · replace h := condF h
        refine LoopOk.step ?_
        conv => whnf
        refine splD (fun _ => ?_) (fun g => absurd hlt g)
        conv => whnf
        obtain ⟨x122, x123, e124, h⟩ := cell_si_ex h
        rw [e124] at hrow
        refine Req.of (Int.natCast_nonneg _) ?_
        refine Row.of _ hrow ?_
        conv => whnf
        refine Pick.no ?_
        conv => whnf
        obtain ⟨y125, e126, h⟩ := bind_ex h
        refine CallOk.of (spec_odCmp_ct e126) ?_
        conv => whnf
        refine CutK.norm [3, 4, 5, 6, 8, 9, 12, 13, 14] [192, 256, 320, 512, 64000] ?_
        conv => whnf
        refine splD (fun g127 => ?_) (fun g127 => ?_)
        · replace h := iteP h g127
          conv => whnf
          refine splD (fun g128 => ?_) (fun g128 => ?_)
          · replace h := iteP h g128
            conv => whnf
            refine Take.all (rfl) ?_
            conv => whnf
            refine Take.all (by first | rfl | exact List.length_append.symm | (simp; done) | omega) ?_
            conv => whnf
            obtain ⟨g129, h⟩ := req_ex h
            refine Req.of (room (b := 32) (by decide) g129 (wide1 rfl wide0)) ?_
            conv => whnf
            refine CutK.norm [3, 4, 5, 6, 12, 13, 14] [192, 256, 320, 2688] ?_
            conv => whnf
            exact LoopOk.back (spec_odMeet_l0_ct hx rest (v75n + 1) _ _ hd1 h) [some 192, some 256, some 320, some 2688] [] ⟨⟨rfl, rfl⟩, ⟨rfl, ⟨rfl, rfl, rfl, trivial⟩, ⟨rfl, trivial, trivial⟩, ⟨rfl, ⟨(by first | rfl | exact List.length_append.symm | (simp; done) | omega), rfl⟩, trivial⟩, ⟨rfl, rfl, rows_same⟩, trivial⟩, ⟨rfl, rfl⟩, ⟨rfl, rfl⟩, ⟨rfl, rfl⟩, rfl, rfl, rfl, i64eq (wrap_up hlt hx), trivial⟩
          · replace h := iteN h g128
            conv => whnf
            refine Take.all (rfl) ?_
            conv => whnf
            refine Take.all (by first | rfl | exact List.length_append.symm | (simp; done) | omega) ?_
            conv => whnf
            obtain ⟨g130, h⟩ := req_ex h
            refine Req.of (room (b := 32) (by decide) g130 (wide1 rfl wide0)) ?_
            conv => whnf
            refine CutK.norm [3, 4, 5, 6, 8, 12, 13, 14] [192, 256, 320, 512, 3072] ?_
            conv => whnf
            refine Take.all (by first | rfl | exact List.length_append.symm | (simp; done) | omega) ?_
            conv => whnf
            refine Take.all (by first | rfl | exact List.length_append.symm | (simp; done) | omega) ?_
            conv => whnf
            obtain ⟨g131, h⟩ := req_ex h
            refine Req.of (room (b := 32) (by decide) g131 (wide1 rfl wide0)) ?_
            conv => whnf
            refine CutK.norm [3, 4, 5, 6, 12, 13, 14] [192, 256, 320, 3456] ?_
            conv => whnf
            exact LoopOk.back (spec_odMeet_l0_ct hx rest (v75n + 1) _ _ hd1 h) [some 192, some 256, some 320, some 3456] [] ⟨⟨rfl, rfl⟩, ⟨rfl, ⟨rfl, rfl, rfl, trivial⟩, ⟨rfl, trivial, trivial⟩, ⟨rfl, ⟨(by first | rfl | exact List.length_append.symm | (simp; done) | omega), rfl⟩, trivial⟩, ⟨rfl, rfl, rows_same⟩, trivial⟩, ⟨rfl, rfl⟩, ⟨rfl, rfl⟩, ⟨rfl, rfl⟩, rfl, rfl, rfl, i64eq (wrap_up hlt hx), trivial⟩
        · replace h := iteN h g127
          conv => whnf
          refine CutK.norm [3, 4, 5, 6, 8, 12, 13, 14] [192, 256, 320, 512, 64000] ?_
          conv => whnf
          refine Take.all (rfl) ?_
          conv => whnf
          refine Take.all (by first | rfl | exact List.length_append.symm | (simp; done) | omega) ?_
          conv => whnf
          obtain ⟨g132, h⟩ := req_ex h
          refine Req.of (room (b := 32) (by decide) g132 (wide1 rfl wide0)) ?_
          conv => whnf
          refine CutK.norm [3, 4, 5, 6, 12, 13, 14] [192, 256, 320, 3456] ?_
          conv => whnf
          exact LoopOk.back (spec_odMeet_l0_ct hx rest (v75n + 1) _ _ hd1 h) [some 192, some 256, some 320, some 3456] [] ⟨⟨rfl, rfl⟩, ⟨rfl, ⟨rfl, rfl, rfl, trivial⟩, ⟨rfl, trivial, trivial⟩, ⟨rfl, ⟨(by first | rfl | exact List.length_append.symm | (simp; done) | omega), rfl⟩, trivial⟩, ⟨rfl, rfl, rows_same⟩, trivial⟩, ⟨rfl, rfl⟩, ⟨rfl, rfl⟩, ⟨rfl, rfl⟩, rfl, rfl, rfl, i64eq (wrap_up hlt hx), trivial⟩
      · replace h := condT h
        refine LoopOk.step ?_
        conv => whnf
        refine splD (fun _ => ?_) (fun g => absurd hlt g)
        conv => whnf
        obtain ⟨x133, x134, e135, h⟩ := cell_si_ex h
        rw [e135] at hrow
        refine Req.of (Int.natCast_nonneg _) ?_
        refine Row.of _ hrow ?_
        conv => whnf
        refine Pick.no ?_
        conv => whnf
        obtain ⟨y136, e137, h⟩ := bind_ex h
        refine CallOk.of (spec_odCmp_ct e137) ?_
        conv => whnf
        refine CutK.norm [3, 4, 5, 6, 8, 9, 12, 13, 14] [192, 256, 320, 512, 64000] ?_
        conv => whnf
        refine CutK.norm [3, 4, 5, 6, 8, 12, 13, 14] [192, 256, 320, 512, 64000] ?_
        conv => whnf
        refine Take.all (rfl) ?_
        conv => whnf
        refine Take.all (by first | rfl | exact List.length_append.symm | (simp; done) | omega) ?_
        conv => whnf
        obtain ⟨g138, h⟩ := req_ex h
        refine Req.of (room (b := 32) (by decide) g138 (wide1 rfl wide0)) ?_
        conv => whnf
        refine CutK.norm [3, 4, 5, 6, 12, 13, 14] [192, 256, 320, 3456] ?_
        conv => whnf
        exact LoopOk.back (spec_odMeet_l0_ct hx rest (v75n + 1) _ _ hd1 h) [some 192, some 256, some 320, some 3456] [] ⟨⟨rfl, rfl⟩, ⟨rfl, ⟨rfl, rfl, rfl, trivial⟩, ⟨rfl, trivial, trivial⟩, ⟨rfl, ⟨(by first | rfl | exact List.length_append.symm | (simp; done) | omega), rfl⟩, trivial⟩, ⟨rfl, rfl, rows_same⟩, trivial⟩, ⟨rfl, rfl⟩, ⟨rfl, rfl⟩, ⟨rfl, rfl⟩, rfl, rfl, rfl, i64eq (wrap_up hlt hx), trivial⟩
def spec_odMeet (k : Nat) (a1 : Rw) (a2 : Rw) (a3 : Int) : Option Rw :=
  (if a1.length ≤ cap then (spec_odMeet_l0 k a1 a2 a3 (fun (v91 : Rw) (v100 : Bool) => (cond v100 (spec_odMeet_p4 a2 a3 v91 true) (spec_odMeet_p4 a2 a3 v91 false))) a1 false ([] : Rw)) else none)
set_option maxHeartbeats 4000000 in
set_option maxRecDepth 100000 in
theorem spec_odMeet_ct {k : Nat} {a1 : Rw} {a2 : Rw} {a3 : Int} {r : Rw} (h : spec_odMeet k a1 a2 a3 = some r) : Ct prog 115 [.agg [.d (D.sl a1)], .agg [.d (D.sl a2), .d (D.int .i64 a3)]] (⟨[], []⟩) (.agg [.os 8 r.length]) (⟨[], [(92, false, r)]⟩) := by
  rw [spec_odMeet] at h
  refine Ct.of (c := _) mixed func115 ⟨rfl, rfl, rfl⟩ ?_ rfl
  conv => whnf
  obtain ⟨g139, h⟩ := req_ex h
  refine LoopOk.into (spec_odMeet_l0_ct  g139 _ _ _ _ rfl h) [some 192, some 256, some 320, none] [] ⟨⟨rfl, rfl⟩, ⟨rfl, ⟨rfl, rfl, rfl, trivial⟩, ⟨rfl, trivial, trivial⟩, ⟨rfl, ⟨rfl, rfl⟩, trivial⟩, rfl, trivial⟩, ⟨rfl, rfl⟩, ⟨rfl, rfl⟩, ⟨rfl, rfl⟩, rfl, rfl, rfl, rfl, trivial⟩ ?_ (fun _ hs => hs)
  rintro i ts os ⟨rfl, v91, v100, h, rfl, rfl⟩
  cases v100
  · replace h := condF h
    conv => whnf
    exact CutK.piece (spec_odMeet_p4_ct  h) [some 192, some 256, some 320, some 67001] [] ⟨⟨rfl, rfl⟩, ⟨rfl, ⟨rfl, rfl, rfl, trivial⟩, ⟨rfl, trivial, trivial⟩, ⟨rfl, ⟨rfl, rfl⟩, trivial⟩, ⟨rfl, rfl, rows_same⟩, trivial⟩, ⟨rfl, rfl⟩, ⟨rfl, rfl⟩, ⟨rfl, rfl⟩, rfl, trivial⟩
  · replace h := condT h
    conv => whnf
    exact CutK.piece (spec_odMeet_p4_ct  h) [some 192, some 256, some 320, some 67001] [] ⟨⟨rfl, rfl⟩, ⟨rfl, ⟨rfl, rfl, rfl, trivial⟩, ⟨rfl, trivial, trivial⟩, ⟨rfl, ⟨rfl, rfl⟩, trivial⟩, ⟨rfl, rfl, rows_same⟩, trivial⟩, ⟨rfl, rfl⟩, ⟨rfl, rfl⟩, ⟨rfl, rfl⟩, rfl, trivial⟩

def spec_l1Cur_ordinal_l0 (k : Nat) (rec_spec_l1Cur_ordinal : Rw → Int → Int → Int → Option (Rw × Rw × Int × Int)) (a4 : Int) (K0 : Rw → Int → Int → Rw → Option (Rw × Rw × Int × Int)) : Nat → Int → Rw → Int → Int → Rw → Option (Rw × Rw × Int × Int)
  | 0, _, _, _, _, _ => none
  | n + 1, v28, v29, v30, v31, v32 => (if (0 : Int) < v28 then ((spec_l1Cur_pick v29 v30 v31 3).bind fun y76 => ((spec_odInt y76.1).bind fun y78 => ((spec_l1Cur_pick y76.2.1 y76.2.2.1 y76.2.2.2 1000).bind fun y80 => ((spec_l1Cur_among y80.2.1 y80.2.2.1 y80.2.2.2 ([[D.int .i64 1], [D.int .i64 1], [D.int .i64 2], [D.int .i64 3], [D.int .i64 (IntKind.i64.wrap (1 + y80.1))]] : Rw)).bind fun y82 => ((spec_l1Cur_one y82.2.1 y82.2.2.1 y82.2.2.2 3).bind fun y84 => (if y84.1 = true then ((rec_spec_l1Cur_ordinal y84.2.1 y84.2.2.1 y84.2.2.2 (IntKind.i64.wrap (a4 - 1))).bind fun y87 => ((spec_odMeet k v32 y87.1 y82.1).bind fun y89 => (spec_l1Cur_ordinal_l0 k rec_spec_l1Cur_ordinal a4 K0 n (IntKind.i64.wrap (v28 - 1)) y87.2.1 y87.2.2.1 y87.2.2.2 y89))) else ((spec_odMeet k v32 y78 y82.1).bind fun y91 => (spec_l1Cur_ordinal_l0 k rec_spec_l1Cur_ordinal a4 K0 n (IntKind.i64.wrap (v28 - 1)) y84.2.1 y84.2.2.1 y84.2.2.2 y91)))))))) else (K0 v29 v30 v31 v32))
set_option maxRecDepth 100000 in
theorem spec_l1Cur_ordinal_l0_ct {k : Nat} {rec_spec_l1Cur_ordinal : Rw → Int → Int → Int → Option (Rw × Rw × Int × Int)} {a4 : Int} {K0 : Rw → Int → Int → Rw → Option (Rw × Rw × Int × Int)} (hrec_spec_l1Cur_ordinal : ∀ (a1 : Rw) (a2 : Int) (a3 : Int) (a4 : Int) (r : Rw × Rw × Int × Int), rec_spec_l1Cur_ordinal a1 a2 a3 a4 = some r → Ct prog 69 [.ptr 0 0, .d (D.int .i64 a4)] (⟨[(66, [.d (D.sl a1), .d (D.int .i64 a2), .d (D.int .u64 a3)])], []⟩) (.agg [.os 8 r.1.length]) (⟨[(66, [.d (D.sl r.2.1), .d (D.int .i64 r.2.2.1), .d (D.int .u64 r.2.2.2)])], [(92, false, r.1)]⟩)) {r : Rw × Rw × Int × Int} : ∀ (n : Nat) (v28 : Int) (v29 : Rw) (v30 : Int) (v31 : Int) (v32 : Rw), spec_l1Cur_ordinal_l0 k rec_spec_l1Cur_ordinal a4 K0 n v28 v29 v30 v31 v32 = some r → LoopOk prog 1 (lp f69 0) (mk 42 [(0, .ptr 0 0), (1, .d (D.int .i64 a4)), (4, .ptr 256 0), (5, .ptr 320 0), (6, .d (D.int .i64 v28))] [(0, .box 66 [.d (D.sl v29), .d (D.int .i64 v30), .d (D.int .u64 v31)]), (256, .box 80 [.es]), (320, .box 80 [.os 64000 v32.length]), (64000, .arr 92 false v32)]) (LoopEnd prog f69 1 42 (.agg [.os 8 r.1.length]) (⟨[(66, [.d (D.sl r.2.1), .d (D.int .i64 r.2.2.1), .d (D.int .u64 r.2.2.2)])], [(92, false, r.1)]⟩) (fun i ts os => (i = 0 ∧ ∃ v53 : Rw, ∃ v54 : Int, ∃ v55 : Int, ∃ v56 : Rw, K0 v53 v54 v55 v56 = some r ∧ ts = [(4, .ptr 256 0), (5, .ptr 320 0)] ∧ os = [(0, .box 66 [.d (D.sl v53), .d (D.int .i64 v54), .d (D.int .u64 v55)]), (256, .box 80 [.es]), (320, .box 80 [.os 67001 v56.length]), (67001, .arr 92 false v56)])))
  | 0, _, _, _, _, _, h => by
      rw [spec_l1Cur_ordinal_l0] at h; cases h
  | n + 1, v28, v29, v30, v31, v32, h => by
      rw [spec_l1Cur_ordinal_l0] at h
      refine LoopOk.step ?_
      conv => whnf
      refine splD (fun g75 => ?_) (fun g75 => ?_)
      · replace h := iteP h g75
        conv => whnf
        refine Pick.no ?_
        conv => whnf
        obtain ⟨y76, e77, h⟩ := bind_ex h
        refine CallOk.of (spec_l1Cur_pick_ct e77) ?_
        conv => whnf
        refine Pick.no ?_
        conv => whnf
        obtain ⟨y78, e79, h⟩ := bind_ex h
        refine CallOk.of (spec_odInt_ct e79) ?_
        conv => whnf
        refine Pick.no ?_
        conv => whnf
        obtain ⟨y80, e81, h⟩ := bind_ex h
        refine CallOk.of (spec_l1Cur_pick_ct e81) ?_
        conv => whnf
        refine Pick.no ?_
        conv => whnf
        refine Take.all (by first | rfl | exact List.length_append.symm | (simp; done) | omega) ?_
        conv => whnf
        obtain ⟨y82, e83, h⟩ := bind_ex h
        refine CallOk.of (spec_l1Cur_among_ct e83) ?_
        conv => whnf
        refine CutK.norm [0, 1, 4, 5, 6, 7] [0, 256, 320, 448, 1472, 64000] ?_
        conv => whnf
        refine Pick.no ?_
        conv => whnf
        obtain ⟨y84, e85, h⟩ := bind_ex h
        refine CallOk.of (spec_l1Cur_one_ct e85) ?_
        conv => whnf
        refine spl (fun g86 => ?_) (fun g86 => ?_)
        · replace h := iteT h g86
          conv => whnf
          refine CutK.norm [0, 1, 4, 5, 6, 7, 32] [0, 256, 320, 448, 1472, 64000] ?_
          conv => whnf
          refine Pick.no ?_
          conv => whnf
          obtain ⟨y87, e88, h⟩ := bind_ex h
          refine CallOk.of (hrec_spec_l1Cur_ordinal _ _ _ _ _ e88) ?_
          conv => whnf
          refine CutK.norm [0, 1, 4, 5, 6, 7] [0, 256, 320, 448, 2304, 64000] ?_
          conv => whnf
          refine Pick.no ?_
          conv => whnf
          refine Take.all (rfl) ?_
          conv => whnf
          refine Take.all (rfl) ?_
          conv => whnf
          obtain ⟨y89, e90, h⟩ := bind_ex h
          refine CallOk.of (spec_odMeet_ct e90) ?_
          conv => whnf
          refine CutK.norm [0, 1, 4, 5, 6] [0, 256, 320, 2560] ?_
          conv => whnf
          exact LoopOk.back (spec_l1Cur_ordinal_l0_ct hrec_spec_l1Cur_ordinal n _ _ _ _ _ h) [some 0, some 256, some 320, some 2560] [] ⟨⟨rfl, rfl⟩, ⟨rfl, ⟨rfl, rfl, rfl, rfl, trivial⟩, ⟨rfl, trivial, trivial⟩, ⟨rfl, ⟨rfl, rfl⟩, trivial⟩, ⟨rfl, rfl, rows_same⟩, trivial⟩, ⟨rfl, rfl⟩, rfl, ⟨rfl, rfl⟩, ⟨rfl, rfl⟩, rfl, trivial⟩
        · replace h := iteF h g86
          conv => whnf
          refine CutK.norm [0, 1, 4, 5, 6, 7, 32] [0, 256, 320, 448, 1472, 64000] ?_
          conv => whnf
          refine CutK.norm [0, 1, 4, 5, 6, 7] [0, 256, 320, 448, 1472, 64000] ?_
          conv => whnf
          refine Pick.no ?_
          conv => whnf
          refine Take.all (rfl) ?_
          conv => whnf
          refine Take.all (rfl) ?_
          conv => whnf
          obtain ⟨y91, e92, h⟩ := bind_ex h
          refine CallOk.of (spec_odMeet_ct e92) ?_
          conv => whnf
          refine CutK.norm [0, 1, 4, 5, 6] [0, 256, 320, 2560] ?_
          conv => whnf
          exact LoopOk.back (spec_l1Cur_ordinal_l0_ct hrec_spec_l1Cur_ordinal n _ _ _ _ _ h) [some 0, some 256, some 320, some 2560] [] ⟨⟨rfl, rfl⟩, ⟨rfl, ⟨rfl, rfl, rfl, rfl, trivial⟩, ⟨rfl, trivial, trivial⟩, ⟨rfl, ⟨rfl, rfl⟩, trivial⟩, ⟨rfl, rfl, rows_same⟩, trivial⟩, ⟨rfl, rfl⟩, rfl, ⟨rfl, rfl⟩, ⟨rfl, rfl⟩, rfl, trivial⟩
      · replace h := iteN h g75
        conv => whnf
        exact ⟨_, _, [some 0, some 256, some 320, some 64000], [], ⟨rfl, _, _, _, _, h, rfl, rfl⟩, ⟨⟨rfl, rfl⟩, ⟨rfl, ⟨rfl, rfl, rfl, rfl, trivial⟩, ⟨rfl, trivial, trivial⟩, ⟨rfl, ⟨rfl, rfl⟩, trivial⟩, ⟨rfl, rfl, rows_same⟩, trivial⟩, ⟨rfl, rfl⟩, ⟨rfl, rfl⟩, trivial⟩⟩
def spec_l1Cur_ordinal_b (k : Nat) (rec_spec_l1Cur_ordinal : Rw → Int → Int → Int → Option (Rw × Rw × Int × Int)) (a1 : Rw) (a2 : Int) (a3 : Int) (a4 : Int) : Option (Rw × Rw × Int × Int) :=
  (if a4 = (0 : Int) then ((spec_l1Cur_pick a1 a2 a3 4).bind fun y6 => ((spec_odInt y6.1).bind fun y8 => some (y8, y6.2.1, y6.2.2.1, y6.2.2.2))) else ((spec_l1Cur_among a1 a2 a3 ([[D.int .i64 0], [D.int .i64 1], [D.int .i64 1], [D.int .i64 2], [D.int .i64 2], [D.int .i64 3]] : Rw)).bind fun y10 => (spec_l1Cur_ordinal_l0 k rec_spec_l1Cur_ordinal a4 (fun (v53 : Rw) (v54 : Int) (v55 : Int) (v56 : Rw) => some (v56, v53, v54, v55)) k y10.1 y10.2.1 y10.2.2.1 y10.2.2.2 ([] : Rw))))
set_option maxHeartbeats 4000000 in
set_option maxRecDepth 100000 in
theorem spec_l1Cur_ordinal_b_ct {k : Nat} {rec_spec_l1Cur_ordinal : Rw → Int → Int → Int → Option (Rw × Rw × Int × Int)} (hrec_spec_l1Cur_ordinal : ∀ (a1 : Rw) (a2 : Int) (a3 : Int) (a4 : Int) (r : Rw × Rw × Int × Int), rec_spec_l1Cur_ordinal a1 a2 a3 a4 = some r → Ct prog 69 [.ptr 0 0, .d (D.int .i64 a4)] (⟨[(66, [.d (D.sl a1), .d (D.int .i64 a2), .d (D.int .u64 a3)])], []⟩) (.agg [.os 8 r.1.length]) (⟨[(66, [.d (D.sl r.2.1), .d (D.int .i64 r.2.2.1), .d (D.int .u64 r.2.2.2)])], [(92, false, r.1)]⟩)) {a1 : Rw} {a2 : Int} {a3 : Int} {a4 : Int} {r : Rw × Rw × Int × Int} (h : spec_l1Cur_ordinal_b k rec_spec_l1Cur_ordinal a1 a2 a3 a4 = some r) : Ct prog 69 [.ptr 0 0, .d (D.int .i64 a4)] (⟨[(66, [.d (D.sl a1), .d (D.int .i64 a2), .d (D.int .u64 a3)])], []⟩) (.agg [.os 8 r.1.length]) (⟨[(66, [.d (D.sl r.2.1), .d (D.int .i64 r.2.2.1), .d (D.int .u64 r.2.2.2)])], [(92, false, r.1)]⟩) := by
  rw [spec_l1Cur_ordinal_b] at h
  refine Ct.of (c := _) mixed func69 ⟨rfl, rfl, rfl⟩ ?_ rfl
  conv => whnf
  refine splD (fun g5 => ?_) (fun g5 => ?_)
  · replace h := iteP h g5
    conv => whnf
    refine Pick.no ?_
    conv => whnf
    obtain ⟨y6, e7, h⟩ := bind_ex h
    refine CallOk.of (spec_l1Cur_pick_ct e7) ?_
    conv => whnf
    refine Pick.no ?_
    conv => whnf
    obtain ⟨y8, e9, h⟩ := bind_ex h
    refine CallOk.of (spec_odInt_ct e9) ?_
    conv => whnf
    refine CutK.norm [4] [0, 256, 832] ?_
    conv => whnf
    cases h
    exact Done.of [some 0, some 832] [] rfl rfl ⟨⟨rfl, rfl⟩, ⟨rfl, ⟨rfl, rfl, rfl, rfl, trivial⟩, ⟨rfl, rfl, rows_same⟩, trivial⟩, ⟨⟨rfl, rfl⟩, trivial⟩, trivial⟩
  · replace h := iteN h g5
    conv => whnf
    refine CutK.norm [0, 1, 4, 5] [0, 256, 320] ?_
    conv => whnf
    refine Pick.no ?_
    conv => whnf
    refine Take.all (by first | rfl | exact List.length_append.symm | (simp; done) | omega) ?_
    conv => whnf
    obtain ⟨y10, e11, h⟩ := bind_ex h
    refine CallOk.of (spec_l1Cur_among_ct e11) ?_
    conv => whnf
    refine CutK.norm [0, 1, 4, 5, 6] [0, 256, 320] ?_
    conv => whnf
    refine LoopOk.into (spec_l1Cur_ordinal_l0_ct hrec_spec_l1Cur_ordinal _ _ _ _ _ _ h) [some 0, some 256, some 320, none] [] ⟨⟨rfl, rfl⟩, ⟨rfl, ⟨rfl, rfl, rfl, rfl, trivial⟩, ⟨rfl, trivial, trivial⟩, ⟨rfl, ⟨rfl, rfl⟩, trivial⟩, rfl, trivial⟩, ⟨rfl, rfl⟩, rfl, ⟨rfl, rfl⟩, ⟨rfl, rfl⟩, rfl, trivial⟩ ?_ (fun _ hs => hs)
    rintro i ts os ⟨rfl, v53, v54, v55, v56, h, rfl, rfl⟩
    conv => whnf
    refine CutK.norm [4, 5] [0, 256, 320, 67001] ?_
    conv => whnf
    cases h
    exact Done.of [some 0, some 67001] [] rfl rfl ⟨⟨rfl, rfl⟩, ⟨rfl, ⟨rfl, rfl, rfl, rfl, trivial⟩, ⟨rfl, rfl, rows_same⟩, trivial⟩, ⟨⟨rfl, rfl⟩, trivial⟩, trivial⟩
def spec_l1Cur_ordinal : Nat → Rw → Int → Int → Int → Option (Rw × Rw × Int × Int)
  | 0, _, _, _, _ => none
  | k + 1, a1, a2, a3, a4 => spec_l1Cur_ordinal_b k (spec_l1Cur_ordinal k) a1 a2 a3 a4
theorem spec_l1Cur_ordinal_ct' : ∀ (k : Nat) (a1 : Rw) (a2 : Int) (a3 : Int) (a4 : Int) (r : Rw × Rw × Int × Int), spec_l1Cur_ordinal k a1 a2 a3 a4 = some r → Ct prog 69 [.ptr 0 0, .d (D.int .i64 a4)] (⟨[(66, [.d (D.sl a1), .d (D.int .i64 a2), .d (D.int .u64 a3)])], []⟩) (.agg [.os 8 r.1.length]) (⟨[(66, [.d (D.sl r.2.1), .d (D.int .i64 r.2.2.1), .d (D.int .u64 r.2.2.2)])], [(92, false, r.1)]⟩)
  | 0, _, _, _, _, _, h => by rw [spec_l1Cur_ordinal] at h; cases h
  | k + 1, _, _, _, _, _, h => by rw [spec_l1Cur_ordinal] at h; exact spec_l1Cur_ordinal_b_ct (spec_l1Cur_ordinal_ct' k) h
theorem spec_l1Cur_ordinal_ct {k : Nat} {a1 : Rw} {a2 : Int} {a3 : Int} {a4 : Int} {r : Rw × Rw × Int × Int} (h : spec_l1Cur_ordinal k a1 a2 a3 a4 = some r) : Ct prog 69 [.ptr 0 0, .d (D.int .i64 a4)] (⟨[(66, [.d (D.sl a1), .d (D.int .i64 a2), .d (D.int .u64 a3)])], []⟩) (.agg [.os 8 r.1.length]) (⟨[(66, [.d (D.sl r.2.1), .d (D.int .i64 r.2.2.1), .d (D.int .u64 r.2.2.2)])], [(92, false, r.1)]⟩) := spec_l1Cur_ordinal_ct' k _ _ _ _ _ h

def spec_suFrom_l0 (rec_spec_suFrom : Rw → Option Rw) (a1 : Rw) (K0 : Rw → Option Rw) : Rw → Rw → Option Rw
  | [], v12 => (K0 v12)
  | cs :: rest, v12 => (cell_si cs fun x34 x35 => ((rec_spec_suFrom x34).bind fun y37 => ((spec_shInt x35).bind fun y39 => (if v12.length + 1 ≤ cap then (spec_suFrom_l0 rec_spec_suFrom a1 K0 rest (v12 ++ ([[D.sl y37, D.int .i64 y39.1, D.int .i64 y39.2]]))) else none))))
set_option maxRecDepth 100000 in
theorem spec_suFrom_l0_ct {rec_spec_suFrom : Rw → Option Rw} {a1 : Rw} {K0 : Rw → Option Rw} (hrec_spec_suFrom : ∀ (a1 : Rw) (r : Rw), rec_spec_suFrom a1 = some r → Ct prog 68 [.agg [.d (D.sl a1)]] (⟨[], []⟩) (.agg [.os 8 r.length]) (⟨[], [(70, true, r)]⟩)) {r : Rw} (hx : a1.length ≤ cap) : ∀ (rest : Rw) (v11n : Nat) (v12 : Rw), a1.drop v11n = rest → spec_suFrom_l0 rec_spec_suFrom a1 K0 rest v12 = some r → LoopOk prog 0 (lp f68 0) (mk 28 [(2, .ptr 128 0), (3, .ptr 192 0), (8, .d (D.sl a1)), (9, .d (D.int .i64 (a1.length : Int))), (10, .d (D.int .i64 (v11n : Int)))] [(128, .box 26 [.es]), (192, .box 26 [.os 64000 v12.length]), (64000, .arr 70 true v12)]) (LoopEnd prog f68 0 28 (.agg [.os 8 r.length]) (⟨[], [(70, true, r)]⟩) (fun i ts os => (i = 0 ∧ ∃ v23 : Rw, K0 v23 = some r ∧ ts = [(2, .ptr 128 0), (3, .ptr 192 0)] ∧ os = [(128, .box 26 [.es]), (192, .box 26 [.os 67001 v23.length]), (67001, .arr 70 true v23)])))
  | [], v11n, v12, hd, h => by
      rw [spec_suFrom_l0] at h
      have hn := drop_nil hd
      refine LoopOk.step ?_
      conv => whnf
      refine splD (fun g => absurd g hn) (fun _ => ?_)
      conv => whnf
      exact ⟨_, _, [some 128, some 192, some 64000], [], ⟨rfl, _, h, rfl, rfl⟩, ⟨⟨rfl, rfl⟩, ⟨rfl, ⟨rfl, trivial, trivial⟩, ⟨rfl, ⟨rfl, rfl⟩, trivial⟩, ⟨rfl, rfl, rows_same⟩, trivial⟩, ⟨rfl, rfl⟩, ⟨rfl, rfl⟩, trivial⟩⟩
  | cs :: rest, v11n, v12, hd, h => by
      rw [spec_suFrom_l0] at h
      obtain ⟨hrow, hd1, hlt⟩ := drop_cons hd
      refine LoopOk.step ?_
      conv => whnf
      refine splD (fun _ => ?_) (fun g => absurd hlt g)
      conv => whnf
      obtain ⟨x34, x35, e36, h⟩ := cell_si_ex h
      rw [e36] at hrow
      refine Req.of (Int.natCast_nonneg _) ?_
      refine Row.of _ hrow ?_
      conv => whnf
      refine Pick.no ?_
      conv => whnf
      obtain ⟨y37, e38, h⟩ := bind_ex h
      refine CallOk.of (hrec_spec_suFrom _ _ e38) ?_
      conv => whnf
      refine Pick.no ?_
      conv => whnf
      obtain ⟨y39, e40, h⟩ := bind_ex h
      refine CallOk.of (spec_shInt_ct e40) ?_
      conv => whnf
      refine Take.all (rfl) ?_
      conv => whnf
      refine Take.all (rfl) ?_
      conv => whnf
      refine Take.all (by first | rfl | exact List.length_append.symm | (simp; done) | omega) ?_
      conv => whnf
      obtain ⟨g41, h⟩ := req_ex h
      refine Req.of (room (b := 40) (by decide) g41 (wide1 rfl wide0)) ?_
      conv => whnf
      refine CutK.go ?_
      conv => whnf
      exact LoopOk.back (spec_suFrom_l0_ct hrec_spec_suFrom hx rest (v11n + 1) _ hd1 h) [some 128, some 192, some 1536] [] ⟨⟨rfl, rfl⟩, ⟨rfl, ⟨rfl, trivial, trivial⟩, ⟨rfl, ⟨(by first | rfl | exact List.length_append.symm | (simp; done) | omega), rfl⟩, trivial⟩, ⟨rfl, rfl, rows_same⟩, trivial⟩, ⟨rfl, rfl⟩, ⟨rfl, rfl⟩, rfl, rfl, i64eq (wrap_up hlt hx), trivial⟩
def spec_suFrom_b (rec_spec_suFrom : Rw → Option Rw) (a1 : Rw) : Option Rw :=
  (if a1.length ≤ cap then (spec_suFrom_l0 rec_spec_suFrom a1 (fun (v23 : Rw) => some v23) a1 ([] : Rw)) else none)
set_option maxHeartbeats 4000000 in
set_option maxRecDepth 100000 in
theorem spec_suFrom_b_ct {rec_spec_suFrom : Rw → Option Rw} (hrec_spec_suFrom : ∀ (a1 : Rw) (r : Rw), rec_spec_suFrom a1 = some r → Ct prog 68 [.agg [.d (D.sl a1)]] (⟨[], []⟩) (.agg [.os 8 r.length]) (⟨[], [(70, true, r)]⟩)) {a1 : Rw} {r : Rw} (h : spec_suFrom_b rec_spec_suFrom a1 = some r) : Ct prog 68 [.agg [.d (D.sl a1)]] (⟨[], []⟩) (.agg [.os 8 r.length]) (⟨[], [(70, true, r)]⟩) := by
  rw [spec_suFrom_b] at h
  refine Ct.of (c := _) mixed func68 ⟨rfl, rfl, rfl⟩ ?_ rfl
  conv => whnf
  obtain ⟨g42, h⟩ := req_ex h
  refine LoopOk.into (spec_suFrom_l0_ct hrec_spec_suFrom g42 _ _ _ rfl h) [some 128, some 192, none] [] ⟨⟨rfl, rfl⟩, ⟨rfl, ⟨rfl, trivial, trivial⟩, ⟨rfl, ⟨rfl, rfl⟩, trivial⟩, rfl, trivial⟩, ⟨rfl, rfl⟩, ⟨rfl, rfl⟩, rfl, rfl, rfl, trivial⟩ ?_ (fun _ hs => hs)
  rintro i ts os ⟨rfl, v23, h, rfl, rfl⟩
  conv => whnf
  refine CutK.go ?_
  conv => whnf
  cases h
  exact Done.of [some 67001] [] rfl rfl ⟨⟨rfl, rfl⟩, ⟨rfl, ⟨rfl, rfl, rows_same⟩, trivial⟩, ⟨⟨rfl, rfl⟩, trivial⟩, trivial⟩
def spec_suFrom : Nat → Rw → Option Rw
  | 0, _ => none
  | k + 1, a1 => spec_suFrom_b (spec_suFrom k) a1
theorem spec_suFrom_ct' : ∀ (k : Nat) (a1 : Rw) (r : Rw), spec_suFrom k a1 = some r → Ct prog 68 [.agg [.d (D.sl a1)]] (⟨[], []⟩) (.agg [.os 8 r.length]) (⟨[], [(70, true, r)]⟩)
  | 0, _, _, h => by rw [spec_suFrom] at h; cases h
  | k + 1, _, _, h => by rw [spec_suFrom] at h; exact spec_suFrom_b_ct (spec_suFrom_ct' k) h
theorem spec_suFrom_ct {k : Nat} {a1 : Rw} {r : Rw} (h : spec_suFrom k a1 = some r) : Ct prog 68 [.agg [.d (D.sl a1)]] (⟨[], []⟩) (.agg [.os 8 r.length]) (⟨[], [(70, true, r)]⟩) := spec_suFrom_ct' k _ _ h

def spec_l1Cur_anySurreal_p4 (o39 : Rw) (o40 : Int) (o41 : Int) (o42 : Rw) : Option (Rw × Rw × Int × Int) :=
  some (o42, o39, o40, o41)
set_option maxHeartbeats 4000000 in
set_option maxRecDepth 100000 in
theorem spec_l1Cur_anySurreal_p4_ct {o39 : Rw} {o40 : Int} {o41 : Int} {o42 : Rw} {r : Rw × Rw × Int × Int} (h : spec_l1Cur_anySurreal_p4 o39 o40 o41 o42 = some r) : X prog 1 (tlF f31 4) (mk 74 [(2, .ptr 128 0), (3, .ptr 192 0)] [(0, .box 66 [.d (D.sl o39), .d (D.int .i64 o40), .d (D.int .u64 o41)]), (128, .box 26 [.es]), (192, .box 26 [.os 1084000 o42.length]), (1084000, .arr 70 false o42)]) (finK prog f31 1 (.agg [.d (D.sl r.1)]) (⟨[(66, [.d (D.sl r.2.1), .d (D.int .i64 r.2.2.1), .d (D.int .u64 r.2.2.2)])], []⟩)) := by
  rw [spec_l1Cur_anySurreal_p4] at h
  conv => whnf
  cases h
  exact Done.of [some 0] [1084000] rfl rfl ⟨⟨rfl, rfl⟩, ⟨rfl, ⟨rfl, rfl, rfl, rfl, trivial⟩, trivial⟩, ⟨⟨rfl, Nat.le_of_eq rfl, eq_take rfl⟩, trivial⟩, trivial⟩
def spec_l1Cur_anySurreal_l0 (y114 : Int × Rw × Int × Int) (K4 : Rw → Option (Rw × Rw × Int × Int)) : Nat → Int → Rw → Option (Rw × Rw × Int × Int)
  | 0, _, _ => none
  | n + 1, v121, v122 => (if (0 : Int) < v121 then ((spec_shInt 1).bind fun y135 => ((spec_suTerm v122 y135.1 y135.2).bind fun y137 => (spec_l1Cur_anySurreal_l0 y114 K4 n (IntKind.i64.wrap (v121 - 1)) y137))) else (K4 v122))
set_option maxRecDepth 100000 in
theorem spec_l1Cur_anySurreal_l0_ct {y114 : Int × Rw × Int × Int} {K4 : Rw → Option (Rw × Rw × Int × Int)} {r : Rw × Rw × Int × Int} : ∀ (n : Nat) (v121 : Int) (v122 : Rw), spec_l1Cur_anySurreal_l0 y114 K4 n v121 v122 = some r → LoopOk prog 1 (lp f31 0) (mk 74 [(2, .ptr 128 0), (3, .ptr 192 0), (4, .d (D.int .i64 v121))] [(0, .box 66 [.d (D.sl y114.2.1), .d (D.int .i64 y114.2.2.1), .d (D.int .u64 y114.2.2.2)]), (128, .box 26 [.es]), (192, .box 26 [.os 64000 v122.length]), (64000, .arr 70 false v122)]) (LoopEnd prog f31 1 74 (.agg [.d (D.sl r.1)]) (⟨[(66, [.d (D.sl r.2.1), .d (D.int .i64 r.2.2.1), .d (D.int .u64 r.2.2.2)])], []⟩) (fun i ts os => (i = 4 ∧ ∃ v128 : Rw, K4 v128 = some r ∧ ts = [(2, .ptr 128 0), (3, .ptr 192 0)] ∧ os = [(0, .box 66 [.d (D.sl y114.2.1), .d (D.int .i64 y114.2.2.1), .d (D.int .u64 y114.2.2.2)]), (128, .box 26 [.es]), (192, .box 26 [.os 67001 v128.length]), (67001, .arr 70 false v128)])))
  | 0, _, _, h => by
      rw [spec_l1Cur_anySurreal_l0] at h; cases h
  | n + 1, v121, v122, h => by
      rw [spec_l1Cur_anySurreal_l0] at h
      refine LoopOk.step ?_
      conv => whnf
      refine splD (fun g134 => ?_) (fun g134 => ?_)
      · replace h := iteP h g134
        conv => whnf
        refine Pick.no ?_
        conv => whnf
        obtain ⟨y135, e136, h⟩ := bind_ex h
        refine CallOk.of (spec_shInt_ct e136) ?_
        conv => whnf
        refine Pick.no ?_
        conv => whnf
        refine Take.all (rfl) ?_
        conv => whnf
        obtain ⟨y137, e138, h⟩ := bind_ex h
        refine CallOk.of (spec_suTerm_ct e138) ?_
        conv => whnf
        refine CutK.norm [2, 3, 4] [0, 128, 192, 4608] ?_
        conv => whnf
        exact LoopOk.back (spec_l1Cur_anySurreal_l0_ct  n _ _ h) [some 0, some 128, some 192, some 4608] [] ⟨⟨rfl, rfl⟩, ⟨rfl, ⟨rfl, rfl, rfl, rfl, trivial⟩, ⟨rfl, trivial, trivial⟩, ⟨rfl, ⟨rfl, rfl⟩, trivial⟩, ⟨rfl, rfl, rows_same⟩, trivial⟩, ⟨rfl, rfl⟩, ⟨rfl, rfl⟩, rfl, trivial⟩
      · replace h := iteN h g134
        conv => whnf
        exact ⟨_, _, [some 0, some 128, some 192, some 64000], [], ⟨rfl, _, h, rfl, rfl⟩, ⟨⟨rfl, rfl⟩, ⟨rfl, ⟨rfl, rfl, rfl, rfl, trivial⟩, ⟨rfl, trivial, trivial⟩, ⟨rfl, ⟨rfl, rfl⟩, trivial⟩, ⟨rfl, rfl, rows_same⟩, trivial⟩, ⟨rfl, rfl⟩, ⟨rfl, rfl⟩, trivial⟩⟩
def spec_l1Cur_anySurreal_l1 (k : Nat) (y139 : Int × Rw × Int × Int) (K2 : Rw → Option (Rw × Rw × Int × Int)) : Nat → Int → Rw → Option (Rw × Rw × Int × Int)
  | 0, _, _ => none
  | n + 1, v149, v150 => (if (0 : Int) < v149 then ((spec_suInt v149).bind fun y169 => ((spec_shInt 1000000).bind fun y171 => ((spec_suPut k v150 y169 y171.1 y171.2).bind fun y173 => (cond y173.2 (spec_l1Cur_anySurreal_l1 k y139 K2 n (IntKind.i64.wrap (v149 - 1)) y173.1) (spec_l1Cur_anySurreal_l1 k y139 K2 n (IntKind.i64.wrap (v149 - 1)) ([] : Rw)))))) else (K2 v150))
set_option maxRecDepth 100000 in
theorem spec_l1Cur_anySurreal_l1_ct {k : Nat} {y139 : Int × Rw × Int × Int} {K2 : Rw → Option (Rw × Rw × Int × Int)} {r : Rw × Rw × Int × Int} : ∀ (n : Nat) (v149 : Int) (v150 : Rw), spec_l1Cur_anySurreal_l1 k y139 K2 n v149 v150 = some r → LoopOk prog 1 (lp f31 1) (mk 74 [(2, .ptr 128 0), (3, .ptr 192 0), (5, .d (D.int .i64 v149))] [(0, .box 66 [.d (D.sl y139.2.1), .d (D.int .i64 y139.2.2.1), .d (D.int .u64 y139.2.2.2)]), (128, .box 26 [.es]), (192, .box 26 [.os 70400 v150.length]), (70400, .arr 70 false v150)]) (LoopEnd prog f31 1 74 (.agg [.d (D.sl r.1)]) (⟨[(66, [.d (D.sl r.2.1), .d (D.int .i64 r.2.2.1), .d (D.int .u64 r.2.2.2)])], []⟩) (fun i ts os => (i = 2 ∧ ∃ v159 : Rw, K2 v159 = some r ∧ ts = [(2, .ptr 128 0), (3, .ptr 192 0)] ∧ os = [(0, .box 66 [.d (D.sl y139.2.1), .d (D.int .i64 y139.2.2.1), .d (D.int .u64 y139.2.2.2)]), (128, .box 26 [.es]), (192, .box 26 [.os 73401 v159.length]), (73401, .arr 70 false v159)])))
  | 0, _, _, h => by
      rw [spec_l1Cur_anySurreal_l1] at h; cases h
  | n + 1, v149, v150, h => by
      rw [spec_l1Cur_anySurreal_l1] at h
      refine LoopOk.step ?_
      conv => whnf
      refine splD (fun g168 => ?_) (fun g168 => ?_)
      · replace h := iteP h g168
        conv => whnf
        refine Pick.no ?_
        conv => whnf
        obtain ⟨y169, e170, h⟩ := bind_ex h
        refine CallOk.of (spec_suInt_ct e170) ?_
        conv => whnf
        refine Pick.no ?_
        conv => whnf
        obtain ⟨y171, e172, h⟩ := bind_ex h
        refine CallOk.of (spec_shInt_ct e172) ?_
        conv => whnf
        refine Pick.no ?_
        conv => whnf
        refine Take.all (rfl) ?_
        conv => whnf
        refine Take.all (rfl) ?_
        conv => whnf
        obtain ⟨y173, e174, h⟩ := bind_ex h
        refine splitOn y173.2 (fun g175 => ?_) (fun g175 => ?_)
        · replace h := condT' g175 h
          have c := spec_suPut_cts e174
          rw [g175] at c
          refine CallOk.of c ?_
          clear c
          conv => whnf
          refine splT ?_
          conv => whnf
          refine CutK.norm [2, 3, 5] [0, 128, 192, 2432] ?_
          conv => whnf
          exact LoopOk.back (spec_l1Cur_anySurreal_l1_ct  n _ _ h) [some 0, some 128, some 192, some 2432] [] ⟨⟨rfl, rfl⟩, ⟨rfl, ⟨rfl, rfl, rfl, rfl, trivial⟩, ⟨rfl, trivial, trivial⟩, ⟨rfl, ⟨rfl, rfl⟩, trivial⟩, ⟨rfl, rfl, rows_same⟩, trivial⟩, ⟨rfl, rfl⟩, ⟨rfl, rfl⟩, rfl, trivial⟩
        · replace h := condF' g175 h
          have c := spec_suPut_cts e174
          rw [g175] at c
          refine CallOk.of c ?_
          clear c
          conv => whnf
          refine splF ?_
          conv => whnf
          refine CutK.norm [2, 3, 5] [0, 128, 192] ?_
          conv => whnf
          exact LoopOk.back (spec_l1Cur_anySurreal_l1_ct  n _ _ h) [some 0, some 128, some 192, none] [] ⟨⟨rfl, rfl⟩, ⟨rfl, ⟨rfl, rfl, rfl, rfl, trivial⟩, ⟨rfl, trivial, trivial⟩, ⟨rfl, ⟨rfl, rfl⟩, trivial⟩, rfl, trivial⟩, ⟨rfl, rfl⟩, ⟨rfl, rfl⟩, rfl, trivial⟩
      · replace h := iteN h g168
        conv => whnf
        exact ⟨_, _, [some 0, some 128, some 192, some 70400], [], ⟨rfl, _, h, rfl, rfl⟩, ⟨⟨rfl, rfl⟩, ⟨rfl, ⟨rfl, rfl, rfl, rfl, trivial⟩, ⟨rfl, trivial, trivial⟩, ⟨rfl, ⟨rfl, rfl⟩, trivial⟩, ⟨rfl, rfl, rows_same⟩, trivial⟩, ⟨rfl, rfl⟩, ⟨rfl, rfl⟩, trivial⟩⟩
def spec_l1Cur_anySurreal_p3 (k : Nat) (o27 : Rw) (o28 : Int) (o29 : Int) (o30 : Rw) : Option (Rw × Rw × Int × Int) :=
  ((spec_l1Cur_pick o27 o28 o29 4).bind fun y99 => (if y99.1 = (0 : Int) then ((spec_suInt 9).bind fun y102 => ((spec_shInt 1).bind fun y104 => (if o30.length + 1 ≤ cap then (spec_l1Cur_anySurreal_p4 y99.2.1 y99.2.2.1 y99.2.2.2 (o30 ++ ([[D.sl y102, D.int .i64 y104.1, D.int .i64 y104.2]]))) else none))) else (if y99.1 = (1 : Int) then ((spec_suInt (-1000)).bind fun y108 => ((spec_l1Cur_fraction k y99.2.1 y99.2.2.1 y99.2.2.2).bind fun y110 => (if o30.length + 1 ≤ cap then (spec_l1Cur_anySurreal_p4 y110.2.2.1 y110.2.2.2.1 y110.2.2.2.2 (o30 ++ ([[D.sl y108, D.int .i64 y110.1, D.int .i64 y110.2.1]]))) else none))) else (if y99.1 = (2 : Int) then ((spec_l1Cur_pick y99.2.1 y99.2.2.1 y99.2.2.2 9).bind fun y114 => (spec_l1Cur_anySurreal_l0 y114 (fun (v128 : Rw) => (spec_l1Cur_anySurreal_p4 y114.2.1 y114.2.2.1 y114.2.2.2 v128)) k y114.1 o30)) else ((spec_l1Cur_pick y99.2.1 y99.2.2.1 y99.2.2.2 40).bind fun y139 => (spec_l1Cur_anySurreal_l1 k y139 (fun (v159 : Rw) => (spec_l1Cur_anySurreal_p4 y139.2.1 y139.2.2.1 y139.2.2.2 v159)) k y139.1 o30))))))
set_option maxHeartbeats 4000000 in
set_option maxRecDepth 100000 in
theorem spec_l1Cur_anySurreal_p3_ct {k : Nat} {o27 : Rw} {o28 : Int} {o29 : Int} {o30 : Rw} {r : Rw × Rw × Int × Int} (h : spec_l1Cur_anySurreal_p3 k o27 o28 o29 o30 = some r) : X prog 1 (tlF f31 3) (mk 74 [(0, .ptr 0 0), (2, .ptr 128 0), (3, .ptr 192 0)] [(0, .box 66 [.d (D.sl o27), .d (D.int .i64 o28), .d (D.int .u64 o29)]), (128, .box 26 [.es]), (192, .box 26 [.os 1079000 o30.length]), (1079000, .arr 70 false o30)]) (finK prog f31 1 (.agg [.d (D.sl r.1)]) (⟨[(66, [.d (D.sl r.2.1), .d (D.int .i64 r.2.2.1), .d (D.int .u64 r.2.2.2)])], []⟩)) := by
  rw [spec_l1Cur_anySurreal_p3] at h
  conv => whnf
  refine Pick.no ?_
  conv => whnf
  obtain ⟨y99, e100, h⟩ := bind_ex h
  refine CallOk.of (spec_l1Cur_pick_ct e100) ?_
  conv => whnf
  refine CutK.norm [0, 2, 3, 25] [0, 128, 192, 1079000] ?_
  conv => whnf
  refine splD (fun g101 => ?_) (fun g101 => ?_)
  · replace h := iteP h g101
    conv => whnf
    refine Pick.no ?_
    conv => whnf
    obtain ⟨y102, e103, h⟩ := bind_ex h
    refine CallOk.of (spec_suInt_ct e103) ?_
    conv => whnf
    refine Pick.no ?_
    conv => whnf
    obtain ⟨y104, e105, h⟩ := bind_ex h
    refine CallOk.of (spec_shInt_ct e105) ?_
    conv => whnf
    refine Take.all (rfl) ?_
    conv => whnf
    refine Take.all (rfl) ?_
    conv => whnf
    refine Take.all (by first | rfl | exact List.length_append.symm | (simp; done) | omega) ?_
    conv => whnf
    obtain ⟨g106, h⟩ := req_ex h
    refine Req.of (room (b := 40) (by decide) g106 (wide1 rfl wide0)) ?_
    conv => whnf
    exact CutK.piece (spec_l1Cur_anySurreal_p4_ct  h) [some 0, some 128, some 192, some 3136] [] ⟨⟨rfl, rfl⟩, ⟨rfl, ⟨rfl, rfl, rfl, rfl, trivial⟩, ⟨rfl, trivial, trivial⟩, ⟨rfl, ⟨(by first | rfl | exact List.length_append.symm | (simp; done) | omega), rfl⟩, trivial⟩, ⟨rfl, rfl, rows_same⟩, trivial⟩, ⟨rfl, rfl⟩, ⟨rfl, rfl⟩, trivial⟩
  · replace h := iteN h g101
    conv => whnf
    refine splD (fun g107 => ?_) (fun g107 => ?_)
    · replace h := iteP h g107
      conv => whnf
      refine Pick.no ?_
      conv => whnf
      obtain ⟨y108, e109, h⟩ := bind_ex h
      refine CallOk.of (spec_suInt_ct e109) ?_
      conv => whnf
      refine Pick.no ?_
      conv => whnf
      obtain ⟨y110, e111, h⟩ := bind_ex h
      refine CallOk.of (spec_l1Cur_fraction_ct e111) ?_
      conv => whnf
      refine Take.all (rfl) ?_
      conv => whnf
      refine Take.all (rfl) ?_
      conv => whnf
      refine Take.all (by first | rfl | exact List.length_append.symm | (simp; done) | omega) ?_
      conv => whnf
      obtain ⟨g112, h⟩ := req_ex h
      refine Req.of (room (b := 40) (by decide) g112 (wide1 rfl wide0)) ?_
      conv => whnf
      exact CutK.piece (spec_l1Cur_anySurreal_p4_ct  h) [some 0, some 128, some 192, some 3840] [] ⟨⟨rfl, rfl⟩, ⟨rfl, ⟨rfl, rfl, rfl, rfl, trivial⟩, ⟨rfl, trivial, trivial⟩, ⟨rfl, ⟨(by first | rfl | exact List.length_append.symm | (simp; done) | omega), rfl⟩, trivial⟩, ⟨rfl, rfl, rows_same⟩, trivial⟩, ⟨rfl, rfl⟩, ⟨rfl, rfl⟩, trivial⟩
    · replace h := iteN h g107
      conv => whnf
      refine splD (fun g113 => ?_) (fun g113 => ?_)
      · replace h := iteP h g113
        conv => whnf
        refine Pick.no ?_
        conv => whnf
        obtain ⟨y114, e115, h⟩ := bind_ex h
        refine CallOk.of (spec_l1Cur_pick_ct e115) ?_
        conv => whnf
        refine CutK.norm [2, 3, 4] [0, 128, 192, 1079000] ?_
        conv => whnf
        refine LoopOk.into (spec_l1Cur_anySurreal_l0_ct  _ _ _ h) [some 0, some 128, some 192, some 1079000] [] ⟨⟨rfl, rfl⟩, ⟨rfl, ⟨rfl, rfl, rfl, rfl, trivial⟩, ⟨rfl, trivial, trivial⟩, ⟨rfl, ⟨rfl, rfl⟩, trivial⟩, ⟨rfl, rfl, rows_same⟩, trivial⟩, ⟨rfl, rfl⟩, ⟨rfl, rfl⟩, rfl, trivial⟩ ?_ (fun _ hs => hs)
        rintro i ts os ⟨rfl, v128, h, rfl, rfl⟩
        conv => whnf
        exact CutK.piece (spec_l1Cur_anySurreal_p4_ct  h) [some 0, some 128, some 192, some 67001] [] ⟨⟨rfl, rfl⟩, ⟨rfl, ⟨rfl, rfl, rfl, rfl, trivial⟩, ⟨rfl, trivial, trivial⟩, ⟨rfl, ⟨rfl, rfl⟩, trivial⟩, ⟨rfl, rfl, rows_same⟩, trivial⟩, ⟨rfl, rfl⟩, ⟨rfl, rfl⟩, trivial⟩
      · replace h := iteN h g113
        conv => whnf
        refine Pick.no ?_
        conv => whnf
        obtain ⟨y139, e140, h⟩ := bind_ex h
        refine CallOk.of (spec_l1Cur_pick_ct e140) ?_
        conv => whnf
        refine CutK.norm [2, 3, 5] [0, 128, 192, 1079000] ?_
        conv => whnf
        refine LoopOk.into (spec_l1Cur_anySurreal_l1_ct  _ _ _ h) [some 0, some 128, some 192, some 1079000] [] ⟨⟨rfl, rfl⟩, ⟨rfl, ⟨rfl, rfl, rfl, rfl, trivial⟩, ⟨rfl, trivial, trivial⟩, ⟨rfl, ⟨rfl, rfl⟩, trivial⟩, ⟨rfl, rfl, rows_same⟩, trivial⟩, ⟨rfl, rfl⟩, ⟨rfl, rfl⟩, rfl, trivial⟩ ?_ (fun _ hs => hs)
        rintro i ts os ⟨rfl, v159, h, rfl, rfl⟩
        conv => whnf
        exact CutK.piece (spec_l1Cur_anySurreal_p4_ct  h) [some 0, some 128, some 192, some 73401] [] ⟨⟨rfl, rfl⟩, ⟨rfl, ⟨rfl, rfl, rfl, rfl, trivial⟩, ⟨rfl, trivial, trivial⟩, ⟨rfl, ⟨rfl, rfl⟩, trivial⟩, ⟨rfl, rfl, rows_same⟩, trivial⟩, ⟨rfl, rfl⟩, ⟨rfl, rfl⟩, trivial⟩
def spec_l1Cur_anySurreal_p2 (k : Nat) (o11 : Rw) (o12 : Int) (o13 : Int) (o14 : Rw) : Option (Rw × Rw × Int × Int) :=
  ((spec_l1Cur_one o11 o12 o13 6).bind fun y176 => (if y176.1 = true then ((spec_l1Cur_ordinal k y176.2.1 y176.2.2.1 y176.2.2.2 2).bind fun y179 => ((spec_suFrom k y179.1).bind fun y181 => some (y181, y179.2.1, y179.2.2.1, y179.2.2.2))) else ((spec_l1Cur_one y176.2.1 y176.2.2.1 y176.2.2.2 20).bind fun y183 => (if y183.1 = true then (spec_l1Cur_anySurreal_p3 k y183.2.1 y183.2.2.1 y183.2.2.2 o14) else some (o14, y183.2.1, y183.2.2.1, y183.2.2.2)))))
set_option maxHeartbeats 4000000 in
set_option maxRecDepth 100000 in
theorem spec_l1Cur_anySurreal_p2_ct {k : Nat} {o11 : Rw} {o12 : Int} {o13 : Int} {o14 : Rw} {r : Rw × Rw × Int × Int} (h : spec_l1Cur_anySurreal_p2 k o11 o12 o13 o14 = some r) : X prog 1 (tlF f31 2) (mk 74 [(0, .ptr 0 0), (2, .ptr 128 0), (3, .ptr 192 0)] [(0, .box 66 [.d (D.sl o11), .d (D.int .i64 o12), .d (D.int .u64 o13)]), (128, .box 26 [.es]), (192, .box 26 [.os 1074000 o14.length]), (1074000, .arr 70 false o14)]) (finK prog f31 1 (.agg [.d (D.sl r.1)]) (⟨[(66, [.d (D.sl r.2.1), .d (D.int .i64 r.2.2.1), .d (D.int .u64 r.2.2.2)])], []⟩)) := by
  rw [spec_l1Cur_anySurreal_p2] at h
  conv => whnf
  refine Pick.no ?_
  conv => whnf
  obtain ⟨y176, e177, h⟩ := bind_ex h
  refine CallOk.of (spec_l1Cur_one_ct e177) ?_
  conv => whnf
  refine spl (fun g178 => ?_) (fun g178 => ?_)
  · replace h := iteT h g178
    conv => whnf
    refine CutK.norm [0, 2, 3, 13] [0, 128, 192, 1074000] ?_
    conv => whnf
    refine Pick.no ?_
    conv => whnf
    obtain ⟨y179, e180, h⟩ := bind_ex h
    refine CallOk.of (spec_l1Cur_ordinal_ct e180) ?_
    conv => whnf
    refine Pick.no ?_
    conv => whnf
    refine Take.all (rfl) ?_
    conv => whnf
    obtain ⟨y181, e182, h⟩ := bind_ex h
    refine CallOk.of (spec_suFrom_ct e182) ?_
    conv => whnf
    refine CutK.norm [2] [0, 128, 1152] ?_
    conv => whnf
    cases h
    exact Done.of [some 0] [1152] rfl rfl ⟨⟨rfl, rfl⟩, ⟨rfl, ⟨rfl, rfl, rfl, rfl, trivial⟩, trivial⟩, ⟨⟨rfl, Nat.le_of_eq rfl, eq_take rfl⟩, trivial⟩, trivial⟩
  · replace h := iteF h g178
    conv => whnf
    refine CutK.norm [0, 2, 3, 13] [0, 128, 192, 1074000] ?_
    conv => whnf
    refine Pick.no ?_
    conv => whnf
    obtain ⟨y183, e184, h⟩ := bind_ex h
    refine CallOk.of (spec_l1Cur_one_ct e184) ?_
    conv => whnf
    refine spl (fun g185 => ?_) (fun g185 => ?_)
    · replace h := iteT h g185
      conv => whnf
      refine CutK.norm [0, 2, 3, 19] [0, 128, 192, 1074000] ?_
      conv => whnf
      exact CutK.piece (spec_l1Cur_anySurreal_p3_ct  h) [some 0, some 128, some 192, some 1074000] [] ⟨⟨rfl, rfl⟩, ⟨rfl, ⟨rfl, rfl, rfl, rfl, trivial⟩, ⟨rfl, trivial, trivial⟩, ⟨rfl, ⟨rfl, rfl⟩, trivial⟩, ⟨rfl, rfl, rows_same⟩, trivial⟩, ⟨rfl, rfl⟩, ⟨rfl, rfl⟩, ⟨rfl, rfl⟩, trivial⟩
    · replace h := iteF h g185
      conv => whnf
      refine CutK.norm [0, 2, 3, 19] [0, 128, 192, 1074000] ?_
      conv => whnf
      cases h
      exact Done.of [some 0] [1074000] rfl rfl ⟨⟨rfl, rfl⟩, ⟨rfl, ⟨rfl, rfl, rfl, rfl, trivial⟩, trivial⟩, ⟨⟨rfl, Nat.le_of_eq rfl, eq_take rfl⟩, trivial⟩, trivial⟩
def spec_l1Cur_anySurreal (k : Nat) (a1 : Rw) (a2 : Int) (a3 : Int) : Option (Rw × Rw × Int × Int) :=
  ((spec_l1Cur_among a1 a2 a3 ([[D.int .i64 0], [D.int .i64 1], [D.int .i64 1], [D.int .i64 2], [D.int .i64 3]] : Rw)).bind fun y186 => ((spec_l1Cur_one y186.2.1 y186.2.2.1 y186.2.2.2 2).bind fun y188 => (if y188.1 = true then ((spec_l1Cur_surreal k y188.2.1 y188.2.2.1 y188.2.2.2 y186.1 true).bind fun y191 => (spec_l1Cur_anySurreal_p2 k y191.2.1 y191.2.2.1 y191.2.2.2 y191.1)) else ((spec_l1Cur_surreal k y188.2.1 y188.2.2.1 y188.2.2.2 y186.1 false).bind fun y193 => (spec_l1Cur_anySurreal_p2 k y193.2.1 y193.2.2.1 y193.2.2.2 y193.1)))))
set_option maxHeartbeats 4000000 in
set_option maxRecDepth 100000 in
theorem spec_l1Cur_anySurreal_ct {k : Nat} {a1 : Rw} {a2 : Int} {a3 : Int} {r : Rw × Rw × Int × Int} (h : spec_l1Cur_anySurreal k a1 a2 a3 = some r) : Ct prog 31 [.ptr 0 0] (⟨[(66, [.d (D.sl a1), .d (D.int .i64 a2), .d (D.int .u64 a3)])], []⟩) (.agg [.d (D.sl r.1)]) (⟨[(66, [.d (D.sl r.2.1), .d (D.int .i64 r.2.2.1), .d (D.int .u64 r.2.2.2)])], []⟩) := by
  rw [spec_l1Cur_anySurreal] at h
  refine Ct.of (c := _) mixed func31 ⟨rfl, rfl, rfl⟩ ?_ rfl
  conv => whnf
  refine Pick.no ?_
  conv => whnf
  refine Take.all (by first | rfl | exact List.length_append.symm | (simp; done) | omega) ?_
  conv => whnf
  obtain ⟨y186, e187, h⟩ := bind_ex h
  refine CallOk.of (spec_l1Cur_among_ct e187) ?_
  conv => whnf
  refine Pick.no ?_
  conv => whnf
  obtain ⟨y188, e189, h⟩ := bind_ex h
  refine CallOk.of (spec_l1Cur_one_ct e189) ?_
  conv => whnf
  refine spl (fun g190 => ?_) (fun g190 => ?_)
  · replace h := iteT h g190
    conv => whnf
    refine Pick.no ?_
    conv => whnf
    obtain ⟨y191, e192, h⟩ := bind_ex h
    refine CallOk.of (spec_l1Cur_surreal_ct e192) ?_
    conv => whnf
    exact CutK.piece (spec_l1Cur_anySurreal_p2_ct  h) [some 0, some 128, some 192, some 768] [] ⟨⟨rfl, rfl⟩, ⟨rfl, ⟨rfl, rfl, rfl, rfl, trivial⟩, ⟨rfl, trivial, trivial⟩, ⟨rfl, ⟨rfl, rfl⟩, trivial⟩, ⟨rfl, rfl, rows_same⟩, trivial⟩, ⟨rfl, rfl⟩, ⟨rfl, rfl⟩, ⟨rfl, rfl⟩, trivial⟩
  · replace h := iteF h g190
    conv => whnf
    refine Pick.no ?_
    conv => whnf
    obtain ⟨y193, e194, h⟩ := bind_ex h
    refine CallOk.of (spec_l1Cur_surreal_ct e194) ?_
    conv => whnf
    exact CutK.piece (spec_l1Cur_anySurreal_p2_ct  h) [some 0, some 128, some 192, some 768] [] ⟨⟨rfl, rfl⟩, ⟨rfl, ⟨rfl, rfl, rfl, rfl, trivial⟩, ⟨rfl, trivial, trivial⟩, ⟨rfl, ⟨rfl, rfl⟩, trivial⟩, ⟨rfl, rfl, rows_same⟩, trivial⟩, ⟨rfl, rfl⟩, ⟨rfl, rfl⟩, ⟨rfl, rfl⟩, trivial⟩

def spec_DrawCommonTerms (k : Nat) (a1 : Rw) : Option (Rw × Rw) :=
  ((spec_l1Cur_surreal k a1 0 0 2 true).bind fun y2 => ((spec_l1Cur_surreal k y2.2.1 y2.2.2.1 y2.2.2.2 1 true).bind fun y4 => ((spec_suPlus k y2.1 y4.1).bind fun y6 => (if y6.2 = true then ((spec_l1Cur_one y4.2.1 y4.2.2.1 y4.2.2.2 2).bind fun y9 => (if y9.1 = true then some (y2.1, y6.1) else ((spec_l1Cur_anySurreal k y9.2.1 y9.2.2.1 y9.2.2.2).bind fun y12 => some (y2.1, y12.1)))) else ((spec_l1Cur_anySurreal k y4.2.1 y4.2.2.1 y4.2.2.2).bind fun y14 => some (y2.1, y14.1))))))
set_option maxHeartbeats 4000000 in
set_option maxRecDepth 100000 in
theorem spec_DrawCommonTerms_ct {k : Nat} {a1 : Rw} {r : Rw × Rw} (h : spec_DrawCommonTerms k a1 = some r) : Ct prog 15 [.d (D.sl a1)] (⟨[], []⟩) (.tup [.agg [.d (D.sl r.1)], .agg [.d (D.sl r.2)]]) (⟨[], []⟩) := by
  rw [spec_DrawCommonTerms] at h
  refine Ct.of (c := _) mixed func15 ⟨rfl, rfl, rfl⟩ ?_ rfl
  conv => whnf
  refine Pick.no ?_
  conv => whnf
  obtain ⟨y2, e3, h⟩ := bind_ex h
  refine CallOk.of (spec_l1Cur_surreal_ct e3) ?_
  conv => whnf
  refine CutK.go ?_
  conv => whnf
  refine Pick.no ?_
  conv => whnf
  obtain ⟨y4, e5, h⟩ := bind_ex h
  refine CallOk.of (spec_l1Cur_surreal_ct e5) ?_
  conv => whnf
  refine Pick.no ?_
  conv => whnf
  refine Take.all (rfl) ?_
  conv => whnf
  refine Take.all (rfl) ?_
  conv => whnf
  obtain ⟨y6, e7, h⟩ := bind_ex h
  refine CallOk.of (spec_suPlus_ct e7) ?_
  conv => whnf
  refine spl (fun g8 => ?_) (fun g8 => ?_)
  · replace h := iteT h g8
    conv => whnf
    refine CutK.go ?_
    conv => whnf
    refine Pick.no ?_
    conv => whnf
    obtain ⟨y9, e10, h⟩ := bind_ex h
    refine CallOk.of (spec_l1Cur_one_ct e10) ?_
    conv => whnf
    refine spl (fun g11 => ?_) (fun g11 => ?_)
    · replace h := iteT h g11
      conv => whnf
      refine CutK.go ?_
      conv => whnf
      cases h
      exact Done.of [] [] rfl rfl ⟨⟨rfl, rfl⟩, ⟨rfl, trivial⟩, ⟨⟨⟨Nat.le_of_eq rfl, eq_take rfl⟩, trivial⟩, ⟨rfl, trivial⟩, trivial⟩, trivial⟩
    · replace h := iteF h g11
      conv => whnf
      refine CutK.go ?_
      conv => whnf
      refine CutK.go ?_
      conv => whnf
      refine Pick.no ?_
      conv => whnf
      obtain ⟨y12, e13, h⟩ := bind_ex h
      refine CallOk.of (spec_l1Cur_anySurreal_ct e13) ?_
      conv => whnf
      refine CutK.go ?_
      conv => whnf
      cases h
      exact Done.of [] [] rfl rfl ⟨⟨rfl, rfl⟩, ⟨rfl, trivial⟩, ⟨⟨⟨Nat.le_of_eq rfl, eq_take rfl⟩, trivial⟩, ⟨rfl, trivial⟩, trivial⟩, trivial⟩
  · replace h := iteF h g8
    conv => whnf
    refine CutK.go ?_
    conv => whnf
    refine CutK.go ?_
    conv => whnf
    refine CutK.go ?_
    conv => whnf
    refine Pick.no ?_
    conv => whnf
    obtain ⟨y14, e15, h⟩ := bind_ex h
    refine CallOk.of (spec_l1Cur_anySurreal_ct e15) ?_
    conv => whnf
    refine CutK.go ?_
    conv => whnf
    cases h
    exact Done.of [] [] rfl rfl ⟨⟨rfl, rfl⟩, ⟨rfl, trivial⟩, ⟨⟨⟨Nat.le_of_eq rfl, eq_take rfl⟩, trivial⟩, ⟨rfl, trivial⟩, trivial⟩, trivial⟩

def impl_negative_l0 (a1 : Rw) (K0 : Rw → Option Rw) : Rw → Rw → Option Rw
  | [], v9 => (K0 v9)
  | cs :: rest, v9 => (cell_sii cs fun x25 x26 x27 => (if v9.length + 1 ≤ cap then (impl_negative_l0 a1 K0 rest (v9 ++ ([[D.sl x25, D.int .i64 (IntKind.i64.wrap (0 - x26)), D.int .i64 x27]]))) else none))
set_option maxRecDepth 100000 in
theorem impl_negative_l0_ct {a1 : Rw} {K0 : Rw → Option Rw} {r : Rw} (hx : a1.length ≤ cap) : ∀ (rest : Rw) (v8n : Nat) (v9 : Rw), a1.drop v8n = rest → impl_negative_l0 a1 K0 rest v9 = some r → LoopOk prog 0 (lp f41 0) (mk 32 [(2, .ptr 128 0), (3, .ptr 192 0), (8, .d (D.sl a1)), (9, .d (D.int .i64 (a1.length : Int))), (10, .d (D.int .i64 (v8n : Int)))] [(128, .box 26 [.es]), (192, .box 26 [.os 64000 v9.length]), (64000, .arr 70 false v9)]) (LoopEnd prog f41 0 32 (.agg [.os 8 r.length]) (⟨[], [(70, false, r)]⟩) (fun i ts os => (i = 0 ∧ ∃ v17 : Rw, K0 v17 = some r ∧ ts = [(2, .ptr 128 0), (3, .ptr 192 0)] ∧ os = [(128, .box 26 [.es]), (192, .box 26 [.os 67001 v17.length]), (67001, .arr 70 false v17)])))
  | [], v8n, v9, hd, h => by
      rw [impl_negative_l0] at h
      have hn := drop_nil hd
      refine LoopOk.step ?_
      conv => whnf
      refine splD (fun g => absurd g hn) (fun _ => ?_)
      conv => whnf
      exact ⟨_, _, [some 128, some 192, some 64000], [], ⟨rfl, _, h, rfl, rfl⟩, ⟨⟨rfl, rfl⟩, ⟨rfl, ⟨rfl, trivial, trivial⟩, ⟨rfl, ⟨rfl, rfl⟩, trivial⟩, ⟨rfl, rfl, rows_same⟩, trivial⟩, ⟨rfl, rfl⟩, ⟨rfl, rfl⟩, trivial⟩⟩
  | cs :: rest, v8n, v9, hd, h => by
      rw [impl_negative_l0] at h
      obtain ⟨hrow, hd1, hlt⟩ := drop_cons hd
      refine LoopOk.step ?_
      conv => whnf
      refine splD (fun _ => ?_) (fun g => absurd hlt g)
      conv => whnf
      obtain ⟨x25, x26, x27, e28, h⟩ := cell_sii_ex h
      rw [e28] at hrow
      refine Req.of (Int.natCast_nonneg _) ?_
      refine Row.of _ hrow ?_
      conv => whnf
      refine Take.all (rfl) ?_
      conv => whnf
      refine Take.all (by first | rfl | exact List.length_append.symm | (simp; done) | omega) ?_
      conv => whnf
      obtain ⟨g29, h⟩ := req_ex h
      refine Req.of (room (b := 40) (by decide) g29 (wide1 rfl wide0)) ?_
      conv => whnf
      exact LoopOk.back (impl_negative_l0_ct hx rest (v8n + 1) _ hd1 h) [some 128, some 192, some 1792] [] ⟨⟨rfl, rfl⟩, ⟨rfl, ⟨rfl, trivial, trivial⟩, ⟨rfl, ⟨(by first | rfl | exact List.length_append.symm | (simp; done) | omega), rfl⟩, trivial⟩, ⟨rfl, rfl, rows_same⟩, trivial⟩, ⟨rfl, rfl⟩, ⟨rfl, rfl⟩, rfl, rfl, i64eq (wrap_up hlt hx), trivial⟩
def impl_negative  (a1 : Rw) : Option Rw :=
  (if a1.length ≤ cap then (impl_negative_l0 a1 (fun (v17 : Rw) => some v17) a1 ([] : Rw)) else none)
set_option maxHeartbeats 4000000 in
set_option maxRecDepth 100000 in
theorem impl_negative_ct  {a1 : Rw} {r : Rw} (h : impl_negative a1 = some r) : Ct prog 41 [.agg [.d (D.sl a1)]] (⟨[], []⟩) (.agg [.os 8 r.length]) (⟨[], [(70, false, r)]⟩) := by
  rw [impl_negative] at h
  refine Ct.of (c := _) mixed func41 ⟨rfl, rfl, rfl⟩ ?_ rfl
  conv => whnf
  obtain ⟨g30, h⟩ := req_ex h
  refine LoopOk.into (impl_negative_l0_ct  g30 _ _ _ rfl h) [some 128, some 192, none] [] ⟨⟨rfl, rfl⟩, ⟨rfl, ⟨rfl, trivial, trivial⟩, ⟨rfl, ⟨rfl, rfl⟩, trivial⟩, rfl, trivial⟩, ⟨rfl, rfl⟩, ⟨rfl, rfl⟩, rfl, rfl, rfl, trivial⟩ ?_ (fun _ hs => hs)
  rintro i ts os ⟨rfl, v17, h, rfl, rfl⟩
  conv => whnf
  refine CutK.norm [2, 3] [128, 192, 67001] ?_
  conv => whnf
  cases h
  exact Done.of [some 67001] [] rfl rfl ⟨⟨rfl, rfl⟩, ⟨rfl, ⟨rfl, rfl, rows_same⟩, trivial⟩, ⟨⟨rfl, rfl⟩, trivial⟩, trivial⟩

def impl_AddFractions_1  (a1 : Int) (a2 : Int) (a3 : Int) (a4 : Int) : Option (Int × Int × Int × Int × Int × Int) :=
  some (IntKind.i64.wrap ((IntKind.i64.wrap (a1 * a4)) + (IntKind.i64.wrap (a3 * a2))), IntKind.i64.wrap (a2 * a4), a1, a2, a3, a4)
set_option maxHeartbeats 4000000 in
set_option maxRecDepth 100000 in
theorem impl_AddFractions_1_ct  {a1 : Int} {a2 : Int} {a3 : Int} {a4 : Int} {r : Int × Int × Int × Int × Int × Int} (h : impl_AddFractions_1 a1 a2 a3 a4 = some r) : Ct prog 148 [.ptr 0 0, .ptr 64 0] (⟨[(35, [.d (D.int .i64 a1), .d (D.int .i64 a2)]), (35, [.d (D.int .i64 a3), .d (D.int .i64 a4)])], []⟩) (.tup [.d (D.int .i64 r.1), .d (D.int .i64 r.2.1)]) (⟨[(35, [.d (D.int .i64 r.2.2.1), .d (D.int .i64 r.2.2.2.1)]), (35, [.d (D.int .i64 r.2.2.2.2.1), .d (D.int .i64 r.2.2.2.2.2)])], []⟩) := by
  rw [impl_AddFractions_1] at h
  refine Ct.of (c := _) mixed func148 ⟨rfl, rfl, rfl⟩ ?_ rfl
  conv => whnf
  cases h
  exact Done.of [some 0, some 64] [] rfl rfl ⟨⟨rfl, rfl⟩, ⟨rfl, ⟨rfl, rfl, rfl, trivial⟩, ⟨rfl, rfl, rfl, trivial⟩, trivial⟩, ⟨rfl, rfl, trivial⟩, trivial⟩

def impl_made (k : Nat) (a1 : Int) (a2 : Int) : Option (Int × Int × Bool) :=
  (if a2 = (0 : Int) then some (0, 0, false) else ((impl_gcd k a1 a2).bind fun y4 => (if a2 < (0 : Int) then (if (IntKind.i64.wrap (0 - y4)) ≠ 0 then ((impl_IsFraction k (IntKind.i64.wrap (a1.tdiv (IntKind.i64.wrap (0 - y4)))) (IntKind.i64.wrap (a2.tdiv (IntKind.i64.wrap (0 - y4))))).bind fun y8 => (if y8 = true then some (IntKind.i64.wrap (a1.tdiv (IntKind.i64.wrap (0 - y4))), IntKind.i64.wrap (a2.tdiv (IntKind.i64.wrap (0 - y4))), true) else some (0, 0, false))) else none) else (if y4 ≠ 0 then ((impl_IsFraction k (IntKind.i64.wrap (a1.tdiv y4)) (IntKind.i64.wrap (a2.tdiv y4))).bind fun y12 => (if y12 = true then some (IntKind.i64.wrap (a1.tdiv y4), IntKind.i64.wrap (a2.tdiv y4), true) else some (0, 0, false))) else none))))
set_option maxHeartbeats 4000000 in
set_option maxRecDepth 100000 in
theorem impl_made_ct {k : Nat} {a1 : Int} {a2 : Int} {r : Int × Int × Bool} (h : impl_made k a1 a2 = some r) : Ct prog 161 [.d (D.int .i64 a1), .d (D.int .i64 a2)] (⟨[], []⟩) (.tup [.agg [.d (D.int .i64 r.1), .d (D.int .i64 r.2.1)], .d (D.bool r.2.2)]) (⟨[], []⟩) := by
  rw [impl_made] at h
  refine Ct.of (c := _) mixed func161 ⟨rfl, rfl, rfl⟩ ?_ rfl
  conv => whnf
  refine splD (fun g3 => ?_) (fun g3 => ?_)
  · replace h := iteP h g3
    conv => whnf
    cases h
    exact Done.of [] [] rfl rfl ⟨⟨rfl, rfl⟩, ⟨rfl, trivial⟩, ⟨⟨rfl, rfl, trivial⟩, rfl, trivial⟩, trivial⟩
  · replace h := iteN h g3
    conv => whnf
    refine Pick.no ?_
    conv => whnf
    obtain ⟨y4, e5, h⟩ := bind_ex h
    refine CallOk.of (impl_gcd_ct e5) ?_
    conv => whnf
    refine CutK.go ?_
    conv => whnf
    refine splD (fun g6 => ?_) (fun g6 => ?_)
    · replace h := iteP h g6
      conv => whnf
      obtain ⟨g7, h⟩ := req_ex h
      refine Req.of g7 ?_
      conv => whnf
      refine Req.of g7 ?_
      conv => whnf
      refine Pick.no ?_
      conv => whnf
      obtain ⟨y8, e9, h⟩ := bind_ex h
      refine CallOk.of (impl_IsFraction_ct e9) ?_
      conv => whnf
      refine spl (fun g10 => ?_) (fun g10 => ?_)
      · replace h := iteT h g10
        conv => whnf
        refine CutK.go ?_
        conv => whnf
        refine CutK.go ?_
        conv => whnf
        cases h
        exact Done.of [] [] rfl rfl ⟨⟨rfl, rfl⟩, ⟨rfl, trivial⟩, ⟨⟨rfl, rfl, trivial⟩, rfl, trivial⟩, trivial⟩
      · replace h := iteF h g10
        conv => whnf
        refine CutK.go ?_
        conv => whnf
        cases h
        exact Done.of [] [] rfl rfl ⟨⟨rfl, rfl⟩, ⟨rfl, trivial⟩, ⟨⟨rfl, rfl, trivial⟩, rfl, trivial⟩, trivial⟩
    · replace h := iteN h g6
      conv => whnf
      obtain ⟨g11, h⟩ := req_ex h
      refine Req.of g11 ?_
      conv => whnf
      refine Req.of g11 ?_
      conv => whnf
      refine Pick.no ?_
      conv => whnf
      obtain ⟨y12, e13, h⟩ := bind_ex h
      refine CallOk.of (impl_IsFraction_ct e13) ?_
      conv => whnf
      refine spl (fun g14 => ?_) (fun g14 => ?_)
      · replace h := iteT h g14
        conv => whnf
        refine CutK.go ?_
        conv => whnf
        refine CutK.go ?_
        conv => whnf
        cases h
        exact Done.of [] [] rfl rfl ⟨⟨rfl, rfl⟩, ⟨rfl, trivial⟩, ⟨⟨rfl, rfl, trivial⟩, rfl, trivial⟩, trivial⟩
      · replace h := iteF h g14
        conv => whnf
        refine CutK.go ?_
        conv => whnf
        cases h
        exact Done.of [] [] rfl rfl ⟨⟨rfl, rfl⟩, ⟨rfl, trivial⟩, ⟨⟨rfl, rfl, trivial⟩, rfl, trivial⟩, trivial⟩

def impl_two__AddFractions_1 (k : Nat) (a1 : Int) (a2 : Int) (a3 : Int) (a4 : Int) (a5 : Int) (a6 : Int) (a7 : Int) (a8 : Int) : Option (Int × Int × Bool × Int × Int × Int × Int) :=
  ((impl_IsFraction k a1 a2).bind fun y9 => (if y9 = true then ((impl_IsFraction k a3 a4).bind fun y12 => (if y12 = true then ((impl_AddFractions_1 a5 a6 a7 a8).bind fun y15 => ((impl_made k y15.1 y15.2.1).bind fun y17 => (if y17.2.2 = true then some (y17.1, y17.2.1, true, y15.2.2.1, y15.2.2.2.1, y15.2.2.2.2.1, y15.2.2.2.2.2) else some (y17.1, y17.2.1, false, y15.2.2.1, y15.2.2.2.1, y15.2.2.2.2.1, y15.2.2.2.2.2)))) else some (0, 0, false, a5, a6, a7, a8))) else some (0, 0, false, a5, a6, a7, a8)))
set_option maxHeartbeats 4000000 in
set_option maxRecDepth 100000 in
theorem impl_two__AddFractions_1_ct {k : Nat} {a1 : Int} {a2 : Int} {a3 : Int} {a4 : Int} {a5 : Int} {a6 : Int} {a7 : Int} {a8 : Int} {r : Int × Int × Bool × Int × Int × Int × Int} (h : impl_two__AddFractions_1 k a1 a2 a3 a4 a5 a6 a7 a8 = some r) : Ct prog 147 [.agg [.d (D.int .i64 a1), .d (D.int .i64 a2)], .agg [.d (D.int .i64 a3), .d (D.int .i64 a4)], .fn 148 [.ptr 0 0, .ptr 64 0]] (⟨[(35, [.d (D.int .i64 a5), .d (D.int .i64 a6)]), (35, [.d (D.int .i64 a7), .d (D.int .i64 a8)])], []⟩) (.tup [.agg [.d (D.int .i64 r.1), .d (D.int .i64 r.2.1)], .d (D.bool r.2.2.1)]) (⟨[(35, [.d (D.int .i64 r.2.2.2.1), .d (D.int .i64 r.2.2.2.2.1)]), (35, [.d (D.int .i64 r.2.2.2.2.2.1), .d (D.int .i64 r.2.2.2.2.2.2)])], []⟩) := by
  rw [impl_two__AddFractions_1] at h
  refine Ct.of (c := _) mixed func147 ⟨rfl, rfl, rfl⟩ ?_ rfl
  conv => whnf
  refine Pick.no ?_
  conv => whnf
  obtain ⟨y9, e10, h⟩ := bind_ex h
  refine CallOk.of (impl_IsFraction_ct e10) ?_
  conv => whnf
  refine spl (fun g11 => ?_) (fun g11 => ?_)
  · replace h := iteT h g11
    conv => whnf
    refine Pick.no ?_
    conv => whnf
    obtain ⟨y12, e13, h⟩ := bind_ex h
    refine CallOk.of (impl_IsFraction_ct e13) ?_
    conv => whnf
    refine spl (fun g14 => ?_) (fun g14 => ?_)
    · replace h := iteT h g14
      conv => whnf
      refine CutK.go ?_
      conv => whnf
      refine CutK.go ?_
      conv => whnf
      refine Pick.no ?_
      conv => whnf
      obtain ⟨y15, e16, h⟩ := bind_ex h
      refine CallOk.of (impl_AddFractions_1_ct e16) ?_
      conv => whnf
      refine Pick.no ?_
      conv => whnf
      obtain ⟨y17, e18, h⟩ := bind_ex h
      refine CallOk.of (impl_made_ct e18) ?_
      conv => whnf
      refine spl (fun g19 => ?_) (fun g19 => ?_)
      · replace h := iteT h g19
        conv => whnf
        refine CutK.go ?_
        conv => whnf
        cases h
        exact Done.of [some 0, some 64] [] rfl rfl ⟨⟨rfl, rfl⟩, ⟨rfl, ⟨rfl, rfl, rfl, trivial⟩, ⟨rfl, rfl, rfl, trivial⟩, trivial⟩, ⟨⟨rfl, rfl, trivial⟩, rfl, trivial⟩, trivial⟩
      · replace h := iteF h g19
        conv => whnf
        refine CutK.go ?_
        conv => whnf
        cases h
        exact Done.of [some 0, some 64] [] rfl rfl ⟨⟨rfl, rfl⟩, ⟨rfl, ⟨rfl, rfl, rfl, trivial⟩, ⟨rfl, rfl, rfl, trivial⟩, trivial⟩, ⟨⟨rfl, rfl, trivial⟩, rfl, trivial⟩, trivial⟩
    · replace h := iteF h g14
      conv => whnf
      refine CutK.go ?_
      conv => whnf
      cases h
      exact Done.of [some 0, some 64] [] rfl rfl ⟨⟨rfl, rfl⟩, ⟨rfl, ⟨rfl, rfl, rfl, trivial⟩, ⟨rfl, rfl, rfl, trivial⟩, trivial⟩, ⟨⟨rfl, rfl, trivial⟩, rfl, trivial⟩, trivial⟩
  · replace h := iteF h g11
    conv => whnf
    refine CutK.go ?_
    conv => whnf
    cases h
    exact Done.of [some 0, some 64] [] rfl rfl ⟨⟨rfl, rfl⟩, ⟨rfl, ⟨rfl, rfl, rfl, trivial⟩, ⟨rfl, rfl, rfl, trivial⟩, trivial⟩, ⟨⟨rfl, rfl, trivial⟩, rfl, trivial⟩, trivial⟩

def impl_AddFractions (k : Nat) (a1 : Int) (a2 : Int) (a3 : Int) (a4 : Int) : Option (Int × Int × Bool) :=
  ((impl_two__AddFractions_1 k a1 a2 a3 a4 a1 a2 a3 a4).bind fun y5 => (if y5.2.2.1 = true then some (y5.1, y5.2.1, true) else some (y5.1, y5.2.1, false)))
set_option maxHeartbeats 4000000 in
set_option maxRecDepth 100000 in
theorem impl_AddFractions_ct {k : Nat} {a1 : Int} {a2 : Int} {a3 : Int} {a4 : Int} {r : Int × Int × Bool} (h : impl_AddFractions k a1 a2 a3 a4 = some r) : Ct prog 121 [.agg [.d (D.int .i64 a1), .d (D.int .i64 a2)], .agg [.d (D.int .i64 a3), .d (D.int .i64 a4)]] (⟨[], []⟩) (.tup [.agg [.d (D.int .i64 r.1), .d (D.int .i64 r.2.1)], .d (D.bool r.2.2)]) (⟨[], []⟩) := by
  rw [impl_AddFractions] at h
  refine Ct.of (c := _) mixed func121 ⟨rfl, rfl, rfl⟩ ?_ rfl
  conv => whnf
  refine Pick.no ?_
  conv => whnf
  obtain ⟨y5, e6, h⟩ := bind_ex h
  refine CallOk.of (impl_two__AddFractions_1_ct e6) ?_
  conv => whnf
  refine spl (fun g7 => ?_) (fun g7 => ?_)
  · replace h := iteT h g7
    conv => whnf
    refine CutK.go ?_
    conv => whnf
    cases h
    exact Done.of [] [] rfl rfl ⟨⟨rfl, rfl⟩, ⟨rfl, trivial⟩, ⟨⟨rfl, rfl, trivial⟩, rfl, trivial⟩, trivial⟩
  · replace h := iteF h g7
    conv => whnf
    refine CutK.go ?_
    conv => whnf
    cases h
    exact Done.of [] [] rfl rfl ⟨⟨rfl, rfl⟩, ⟨rfl, trivial⟩, ⟨⟨rfl, rfl, trivial⟩, rfl, trivial⟩, trivial⟩

def impl_sum_p4 (o203 : Rw) : Option (Rw × Bool) :=
  some (o203, true)
set_option maxHeartbeats 4000000 in
set_option maxRecDepth 100000 in
theorem impl_sum_p4_ct {o203 : Rw} {r : Rw × Bool} (h : impl_sum_p4 o203 = some r) : X prog 0 (tlF f84 4) (mk 119 [(4, .ptr 256 0), (6, .ptr 384 0)] [(256, .box 26 [.es]), (384, .box 26 [.os 1084000 o203.length]), (1084000, .arr 70 false o203)]) (finK prog f84 0 (.tup [.agg [.os 8 r.1.length], .d (D.bool r.2)]) (⟨[], [(70, false, r.1)]⟩)) := by
  rw [impl_sum_p4] at h
  conv => whnf
  cases h
  exact Done.of [some 1084000] [] rfl rfl ⟨⟨rfl, rfl⟩, ⟨rfl, ⟨rfl, rfl, rows_same⟩, trivial⟩, ⟨⟨⟨rfl, rfl⟩, trivial⟩, rfl, trivial⟩, trivial⟩
def impl_sum_l0 (k : Nat) (a1 : Rw) (a2 : Rw) (K0 : Rw → Option (Rw × Bool)) : Nat → Int → Rw → Int → Option (Rw × Bool)
  | 0, _, _, _ => none
  | n + 1, v211, v212, v228 => (if v211 < (a1.length : Int) then (if v228 = (a2.length : Int) then (row_sii a1 v211 fun x406 x407 x408 => (if v212.length + 1 ≤ cap then (impl_sum_l0 k a1 a2 K0 n (IntKind.i64.wrap (v211 + 1)) (v212 ++ ([[D.sl x406, D.int .i64 x407, D.int .i64 x408]])) v228) else none)) else (if v211 = (a1.length : Int) then (row_sii a2 v228 fun x413 x414 x415 => (if v212.length + 1 ≤ cap then (impl_sum_l0 k a1 a2 K0 n v211 (v212 ++ ([[D.sl x413, D.int .i64 x414, D.int .i64 x415]])) (IntKind.i64.wrap (v228 + 1))) else none)) else (row_sii a1 v211 fun x419 x420 x421 => (row_sii a2 v228 fun x424 x425 x426 => ((impl_order k x419 x424).bind fun y429 => (if y429 = (1 : Int) then (if v212.length + 1 ≤ cap then (impl_sum_l0 k a1 a2 K0 n (IntKind.i64.wrap (v211 + 1)) (v212 ++ ([[D.sl x419, D.int .i64 x420, D.int .i64 x421]])) v228) else none) else (if y429 = ((-1) : Int) then (if v212.length + 1 ≤ cap then (impl_sum_l0 k a1 a2 K0 n v211 (v212 ++ ([[D.sl x424, D.int .i64 x425, D.int .i64 x426]])) (IntKind.i64.wrap (v228 + 1))) else none) else ((impl_AddFractions k x420 x421 x425 x426).bind fun y435 => (if y435.2.2 = true then (if y435.1 = (0 : Int) then (impl_sum_l0 k a1 a2 K0 n (IntKind.i64.wrap (v211 + 1)) v212 (IntKind.i64.wrap (v228 + 1))) else (if v212.length + 1 ≤ cap then (impl_sum_l0 k a1 a2 K0 n (IntKind.i64.wrap (v211 + 1)) (v212 ++ ([[D.sl x419, D.int .i64 y435.1, D.int .i64 y435.2.1]])) (IntKind.i64.wrap (v228 + 1))) else none)) else some (([] : Rw), false)))))))))) else (if v228 < (a2.length : Int) then (if v228 = (a2.length : Int) then (row_sii a1 v211 fun x442 x443 x444 => (if v212.length + 1 ≤ cap then (impl_sum_l0 k a1 a2 K0 n (IntKind.i64.wrap (v211 + 1)) (v212 ++ ([[D.sl x442, D.int .i64 x443, D.int .i64 x444]])) v228) else none)) else (if v211 = (a1.length : Int) then (row_sii a2 v228 fun x449 x450 x451 => (if v212.length + 1 ≤ cap then (impl_sum_l0 k a1 a2 K0 n v211 (v212 ++ ([[D.sl x449, D.int .i64 x450, D.int .i64 x451]])) (IntKind.i64.wrap (v228 + 1))) else none)) else (row_sii a1 v211 fun x455 x456 x457 => (row_sii a2 v228 fun x460 x461 x462 => ((impl_order k x455 x460).bind fun y465 => (if y465 = (1 : Int) then (if v212.length + 1 ≤ cap then (impl_sum_l0 k a1 a2 K0 n (IntKind.i64.wrap (v211 + 1)) (v212 ++ ([[D.sl x455, D.int .i64 x456, D.int .i64 x457]])) v228) else none) else (if y465 = ((-1) : Int) then (if v212.length + 1 ≤ cap then (impl_sum_l0 k a1 a2 K0 n v211 (v212 ++ ([[D.sl x460, D.int .i64 x461, D.int .i64 x462]])) (IntKind.i64.wrap (v228 + 1))) else none) else ((impl_AddFractions k x456 x457 x461 x462).bind fun y471 => (if y471.2.2 = true then (if y471.1 = (0 : Int) then (impl_sum_l0 k a1 a2 K0 n (IntKind.i64.wrap (v211 + 1)) v212 (IntKind.i64.wrap (v228 + 1))) else (if v212.length + 1 ≤ cap then (impl_sum_l0 k a1 a2 K0 n (IntKind.i64.wrap (v211 + 1)) (v212 ++ ([[D.sl x455, D.int .i64 y471.1, D.int .i64 y471.2.1]])) (IntKind.i64.wrap (v228 + 1))) else none)) else some (([] : Rw), false)))))))))) else (K0 v212)))
set_option maxRecDepth 100000 in
theorem impl_sum_l0_ct {k : Nat} {a1 : Rw} {a2 : Rw} {K0 : Rw → Option (Rw × Bool)} {r : Rw × Bool} : ∀ (n : Nat) (v211 : Int) (v212 : Rw) (v228 : Int), impl_sum_l0 k a1 a2 K0 n v211 v212 v228 = some r → LoopOk prog 0 (lp f84 0) (mk 119 [(2, .ptr 128 0), (3, .ptr 192 0), (4, .ptr 256 0), (6, .ptr 384 0), (7, .d (D.int .i64 v211)), (8, .d (D.int .i64 v228))] [(128, .box 26 [.d (D.sl a1)]), (192, .box 26 [.d (D.sl a2)]), (256, .box 26 [.es]), (384, .box 26 [.os 64000 v212.length]), (64000, .arr 70 false v212)]) (LoopEnd prog f84 0 119 (.tup [.agg [.os 8 r.1.length], .d (D.bool r.2)]) (⟨[], [(70, false, r.1)]⟩) (fun i ts os => (i = 0 ∧ ∃ v331 : Rw, K0 v331 = some r ∧ ts = [(4, .ptr 256 0), (6, .ptr 384 0)] ∧ os = [(256, .box 26 [.es]), (384, .box 26 [.os 67001 v331.length]), (67001, .arr 70 false v331)])))
  | 0, _, _, _, h => by
      rw [impl_sum_l0] at h; cases h
  | n + 1, v211, v212, v228, h => by
      rw [impl_sum_l0] at h
      refine LoopOk.step ?_
      conv => whnf
      refine splD (fun g404 => ?_) (fun g404 => ?_)
      · replace h := iteP h g404
        conv => whnf
        refine splD (fun g405 => ?_) (fun g405 => ?_)
        · replace h := iteP h g405
          conv => whnf
          refine CutK.norm [2, 3, 4, 6, 7, 8, 9] [128, 192, 256, 384, 64000] ?_
          conv => whnf
          refine splD (fun _ => ?_) (fun g => absurd (by decide) g)
          conv => whnf
          obtain ⟨g410, x406, x407, x408, e409, h⟩ := row_sii_ex h
          refine Req.of g410 ?_
          refine Row.of _ e409 ?_
          conv => whnf
          refine Take.all (rfl) ?_
          conv => whnf
          refine Take.all (by first | rfl | exact List.length_append.symm | (simp; done) | omega) ?_
          conv => whnf
          obtain ⟨g411, h⟩ := req_ex h
          refine Req.of (room (b := 40) (by decide) g411 (wide1 rfl wide0)) ?_
          conv => whnf
          exact LoopOk.back (impl_sum_l0_ct  n _ _ _ h) [some 128, some 192, some 256, some 384, some 6400] [] ⟨⟨rfl, rfl⟩, ⟨rfl, ⟨rfl, rfl, trivial⟩, ⟨rfl, rfl, trivial⟩, ⟨rfl, trivial, trivial⟩, ⟨rfl, ⟨(by first | rfl | exact List.length_append.symm | (simp; done) | omega), rfl⟩, trivial⟩, ⟨rfl, rfl, rows_same⟩, trivial⟩, ⟨rfl, rfl⟩, ⟨rfl, rfl⟩, ⟨rfl, rfl⟩, ⟨rfl, rfl⟩, rfl, rfl, trivial⟩
        · replace h := iteN h g405
          conv => whnf
          refine splD (fun g412 => ?_) (fun g412 => ?_)
          · replace h := iteP h g412
            conv => whnf
            refine CutK.norm [2, 3, 4, 6, 7, 8, 9] [128, 192, 256, 384, 64000] ?_
            conv => whnf
            refine splD (fun g => absurd g (by decide)) (fun _ => ?_)
            conv => whnf
            refine splD (fun _ => ?_) (fun g => absurd (by decide) g)
            conv => whnf
            obtain ⟨g417, x413, x414, x415, e416, h⟩ := row_sii_ex h
            refine Req.of g417 ?_
            refine Row.of _ e416 ?_
            conv => whnf
            refine Take.all (rfl) ?_
            conv => whnf
            refine Take.all (by first | rfl | exact List.length_append.symm | (simp; done) | omega) ?_
            conv => whnf
            obtain ⟨g418, h⟩ := req_ex h
            refine Req.of (room (b := 40) (by decide) g418 (wide1 rfl wide0)) ?_
            conv => whnf
            exact LoopOk.back (impl_sum_l0_ct  n _ _ _ h) [some 128, some 192, some 256, some 384, some 7296] [] ⟨⟨rfl, rfl⟩, ⟨rfl, ⟨rfl, rfl, trivial⟩, ⟨rfl, rfl, trivial⟩, ⟨rfl, trivial, trivial⟩, ⟨rfl, ⟨(by first | rfl | exact List.length_append.symm | (simp; done) | omega), rfl⟩, trivial⟩, ⟨rfl, rfl, rows_same⟩, trivial⟩, ⟨rfl, rfl⟩, ⟨rfl, rfl⟩, ⟨rfl, rfl⟩, ⟨rfl, rfl⟩, rfl, rfl, trivial⟩
          · replace h := iteN h g412
            conv => whnf
            obtain ⟨g423, x419, x420, x421, e422, h⟩ := row_sii_ex h
            refine Req.of g423 ?_
            refine Row.of _ e422 ?_
            conv => whnf
            obtain ⟨g428, x424, x425, x426, e427, h⟩ := row_sii_ex h
            refine Req.of g428 ?_
            refine Row.of _ e427 ?_
            conv => whnf
            refine Pick.no ?_
            conv => whnf
            obtain ⟨y429, e430, h⟩ := bind_ex h
            refine CallOk.of (impl_order_ct e430) ?_
            conv => whnf
            refine CutK.norm [2, 3, 4, 6, 7, 8, 9] [128, 192, 256, 384, 64000] ?_
            conv => whnf
            refine splD (fun g431 => ?_) (fun g431 => ?_)
            · replace h := iteP h g431
              conv => whnf
              refine Req.of g423 ?_
              refine Row.of _ e422 ?_
              conv => whnf
              refine Take.all (rfl) ?_
              conv => whnf
              refine Take.all (by first | rfl | exact List.length_append.symm | (simp; done) | omega) ?_
              conv => whnf
              obtain ⟨g432, h⟩ := req_ex h
              refine Req.of (room (b := 40) (by decide) g432 (wide1 rfl wide0)) ?_
              conv => whnf
              exact LoopOk.back (impl_sum_l0_ct  n _ _ _ h) [some 128, some 192, some 256, some 384, some 6400] [] ⟨⟨rfl, rfl⟩, ⟨rfl, ⟨rfl, rfl, trivial⟩, ⟨rfl, rfl, trivial⟩, ⟨rfl, trivial, trivial⟩, ⟨rfl, ⟨(by first | rfl | exact List.length_append.symm | (simp; done) | omega), rfl⟩, trivial⟩, ⟨rfl, rfl, rows_same⟩, trivial⟩, ⟨rfl, rfl⟩, ⟨rfl, rfl⟩, ⟨rfl, rfl⟩, ⟨rfl, rfl⟩, rfl, rfl, trivial⟩
            · replace h := iteN h g431
              conv => whnf
              refine splD (fun g433 => ?_) (fun g433 => ?_)
              · replace h := iteP h g433
                conv => whnf
                refine Req.of g428 ?_
                refine Row.of _ e427 ?_
                conv => whnf
                refine Take.all (rfl) ?_
                conv => whnf
                refine Take.all (by first | rfl | exact List.length_append.symm | (simp; done) | omega) ?_
                conv => whnf
                obtain ⟨g434, h⟩ := req_ex h
                refine Req.of (room (b := 40) (by decide) g434 (wide1 rfl wide0)) ?_
                conv => whnf
                exact LoopOk.back (impl_sum_l0_ct  n _ _ _ h) [some 128, some 192, some 256, some 384, some 7296] [] ⟨⟨rfl, rfl⟩, ⟨rfl, ⟨rfl, rfl, trivial⟩, ⟨rfl, rfl, trivial⟩, ⟨rfl, trivial, trivial⟩, ⟨rfl, ⟨(by first | rfl | exact List.length_append.symm | (simp; done) | omega), rfl⟩, trivial⟩, ⟨rfl, rfl, rows_same⟩, trivial⟩, ⟨rfl, rfl⟩, ⟨rfl, rfl⟩, ⟨rfl, rfl⟩, ⟨rfl, rfl⟩, rfl, rfl, trivial⟩
              · replace h := iteN h g433
                conv => whnf
                refine Req.of g423 ?_
                refine Row.of _ e422 ?_
                conv => whnf
                refine Req.of g428 ?_
                refine Row.of _ e427 ?_
                conv => whnf
                refine Pick.no ?_
                conv => whnf
                obtain ⟨y435, e436, h⟩ := bind_ex h
                refine CallOk.of (impl_AddFractions_ct e436) ?_
                conv => whnf
                refine spl (fun g437 => ?_) (fun g437 => ?_)
                · replace h := iteT h g437
                  conv => whnf
                  refine CutK.norm [2, 3, 4, 6, 7, 8, 10, 11] [128, 192, 256, 384, 640, 64000] ?_
                  conv => whnf
                  refine splN (fun g438 => ?_) (fun g438 => ?_)
                  · replace h := iteN h g438
                    conv => whnf
                    refine Req.of g423 ?_
                    refine Row.of _ e422 ?_
                    conv => whnf
                    refine Take.all (rfl) ?_
                    conv => whnf
                    refine Take.all (by first | rfl | exact List.length_append.symm | (simp; done) | omega) ?_
                    conv => whnf
                    obtain ⟨g439, h⟩ := req_ex h
                    refine Req.of (room (b := 40) (by decide) g439 (wide1 rfl wide0)) ?_
                    conv => whnf
                    exact LoopOk.back (impl_sum_l0_ct  n _ _ _ h) [some 128, some 192, some 256, some 384, some 5376] [] ⟨⟨rfl, rfl⟩, ⟨rfl, ⟨rfl, rfl, trivial⟩, ⟨rfl, rfl, trivial⟩, ⟨rfl, trivial, trivial⟩, ⟨rfl, ⟨(by first | rfl | exact List.length_append.symm | (simp; done) | omega), rfl⟩, trivial⟩, ⟨rfl, rfl, rows_same⟩, trivial⟩, ⟨rfl, rfl⟩, ⟨rfl, rfl⟩, ⟨rfl, rfl⟩, ⟨rfl, rfl⟩, rfl, rfl, trivial⟩
                  · replace h := iteP h g438
                    conv => whnf
                    exact LoopOk.back (impl_sum_l0_ct  n _ _ _ h) [some 128, some 192, some 256, some 384, some 64000] [] ⟨⟨rfl, rfl⟩, ⟨rfl, ⟨rfl, rfl, trivial⟩, ⟨rfl, rfl, trivial⟩, ⟨rfl, trivial, trivial⟩, ⟨rfl, ⟨rfl, rfl⟩, trivial⟩, ⟨rfl, rfl, rows_same⟩, trivial⟩, ⟨rfl, rfl⟩, ⟨rfl, rfl⟩, ⟨rfl, rfl⟩, ⟨rfl, rfl⟩, rfl, rfl, trivial⟩
                · replace h := iteF h g437
                  conv => whnf
                  refine CutK.norm [2, 3, 4, 6, 7, 8, 10, 11] [128, 192, 256, 384, 640, 64000] ?_
                  conv => whnf
                  cases h
                  exact Done.of [none] [] rfl rfl ⟨⟨rfl, rfl⟩, ⟨rfl, rfl, trivial⟩, ⟨⟨⟨rfl, rfl⟩, trivial⟩, rfl, trivial⟩, trivial⟩
      · replace h := iteN h g404
        conv => whnf
        refine splD (fun g440 => ?_) (fun g440 => ?_)
        · replace h := iteP h g440
          conv => whnf
          refine splD (fun g441 => ?_) (fun g441 => ?_)
          · replace h := iteP h g441
            conv => whnf
            refine CutK.norm [2, 3, 4, 6, 7, 8, 9] [128, 192, 256, 384, 64000] ?_
            conv => whnf
            refine splD (fun _ => ?_) (fun g => absurd (by decide) g)
            conv => whnf
            obtain ⟨g446, x442, x443, x444, e445, h⟩ := row_sii_ex h
            refine Req.of g446 ?_
            refine Row.of _ e445 ?_
            conv => whnf
            refine Take.all (rfl) ?_
            conv => whnf
            refine Take.all (by first | rfl | exact List.length_append.symm | (simp; done) | omega) ?_
            conv => whnf
            obtain ⟨g447, h⟩ := req_ex h
            refine Req.of (room (b := 40) (by decide) g447 (wide1 rfl wide0)) ?_
            conv => whnf
            exact LoopOk.back (impl_sum_l0_ct  n _ _ _ h) [some 128, some 192, some 256, some 384, some 6400] [] ⟨⟨rfl, rfl⟩, ⟨rfl, ⟨rfl, rfl, trivial⟩, ⟨rfl, rfl, trivial⟩, ⟨rfl, trivial, trivial⟩, ⟨rfl, ⟨(by first | rfl | exact List.length_append.symm | (simp; done) | omega), rfl⟩, trivial⟩, ⟨rfl, rfl, rows_same⟩, trivial⟩, ⟨rfl, rfl⟩, ⟨rfl, rfl⟩, ⟨rfl, rfl⟩, ⟨rfl, rfl⟩, rfl, rfl, trivial⟩
          · replace h := iteN h g441
            conv => whnf
            refine splD (fun g448 => ?_) (fun g448 => ?_)
            · replace h := iteP h g448
              conv => whnf
              refine CutK.norm [2, 3, 4, 6, 7, 8, 9] [128, 192, 256, 384, 64000] ?_
              conv => whnf
              refine splD (fun g => absurd g (by decide)) (fun _ => ?_)
              conv => whnf
              refine splD (fun _ => ?_) (fun g => absurd (by decide) g)
              conv => whnf
              obtain ⟨g453, x449, x450, x451, e452, h⟩ := row_sii_ex h
              refine Req.of g453 ?_
              refine Row.of _ e452 ?_
              conv => whnf
              refine Take.all (rfl) ?_
              conv => whnf
              refine Take.all (by first | rfl | exact List.length_append.symm | (simp; done) | omega) ?_
              conv => whnf
              obtain ⟨g454, h⟩ := req_ex h
              refine Req.of (room (b := 40) (by decide) g454 (wide1 rfl wide0)) ?_
              conv => whnf
              exact LoopOk.back (impl_sum_l0_ct  n _ _ _ h) [some 128, some 192, some 256, some 384, some 7296] [] ⟨⟨rfl, rfl⟩, ⟨rfl, ⟨rfl, rfl, trivial⟩, ⟨rfl, rfl, trivial⟩, ⟨rfl, trivial, trivial⟩, ⟨rfl, ⟨(by first | rfl | exact List.length_append.symm | (simp; done) | omega), rfl⟩, trivial⟩, ⟨rfl, rfl, rows_same⟩, trivial⟩, ⟨rfl, rfl⟩, ⟨rfl, rfl⟩, ⟨rfl, rfl⟩, ⟨rfl, rfl⟩, rfl, rfl, trivial⟩
            · replace h := iteN h g448
              conv => whnf
              obtain ⟨g459, x455, x456, x457, e458, h⟩ := row_sii_ex h
              refine Req.of g459 ?_
              refine Row.of _ e458 ?_
              conv => whnf
              obtain ⟨g464, x460, x461, x462, e463, h⟩ := row_sii_ex h
              refine Req.of g464 ?_
              refine Row.of _ e463 ?_
              conv => whnf
              refine Pick.no ?_
              conv => whnf
              obtain ⟨y465, e466, h⟩ := bind_ex h
              refine CallOk.of (impl_order_ct e466) ?_
              conv => whnf
              refine CutK.norm [2, 3, 4, 6, 7, 8, 9] [128, 192, 256, 384, 64000] ?_
              conv => whnf
              refine splD (fun g467 => ?_) (fun g467 => ?_)
              · replace h := iteP h g467
                conv => whnf
                refine Req.of g459 ?_
                refine Row.of _ e458 ?_
                conv => whnf
                refine Take.all (rfl) ?_
                conv => whnf
                refine Take.all (by first | rfl | exact List.length_append.symm | (simp; done) | omega) ?_
                conv => whnf
                obtain ⟨g468, h⟩ := req_ex h
                refine Req.of (room (b := 40) (by decide) g468 (wide1 rfl wide0)) ?_
                conv => whnf
                exact LoopOk.back (impl_sum_l0_ct  n _ _ _ h) [some 128, some 192, some 256, some 384, some 6400] [] ⟨⟨rfl, rfl⟩, ⟨rfl, ⟨rfl, rfl, trivial⟩, ⟨rfl, rfl, trivial⟩, ⟨rfl, trivial, trivial⟩, ⟨rfl, ⟨(by first | rfl | exact List.length_append.symm | (simp; done) | omega), rfl⟩, trivial⟩, ⟨rfl, rfl, rows_same⟩, trivial⟩, ⟨rfl, rfl⟩, ⟨rfl, rfl⟩, ⟨rfl, rfl⟩, ⟨rfl, rfl⟩, rfl, rfl, trivial⟩
              · replace h := iteN h g467
                conv => whnf
                refine splD (fun g469 => ?_) (fun g469 => ?_)
                · replace h := iteP h g469
                  conv => whnf
                  refine Req.of g464 ?_
                  refine Row.of _ e463 ?_
                  conv => whnf
                  refine Take.all (rfl) ?_
                  conv => whnf
                  refine Take.all (by first | rfl | exact List.length_append.symm | (simp; done) | omega) ?_
                  conv => whnf
                  obtain ⟨g470, h⟩ := req_ex h
                  refine Req.of (room (b := 40) (by decide) g470 (wide1 rfl wide0)) ?_
                  conv => whnf
                  exact LoopOk.back (impl_sum_l0_ct  n _ _ _ h) [some 128, some 192, some 256, some 384, some 7296] [] ⟨⟨rfl, rfl⟩, ⟨rfl, ⟨rfl, rfl, trivial⟩, ⟨rfl, rfl, trivial⟩, ⟨rfl, trivial, trivial⟩, ⟨rfl, ⟨(by first | rfl | exact List.length_append.symm | (simp; done) | omega), rfl⟩, trivial⟩, ⟨rfl, rfl, rows_same⟩, trivial⟩, ⟨rfl, rfl⟩, ⟨rfl, rfl⟩, ⟨rfl, rfl⟩, ⟨rfl, rfl⟩, rfl, rfl, trivial⟩
                · replace h := iteN h g469
                  conv => whnf
                  refine Req.of g459 ?_
                  refine Row.of _ e458 ?_
                  conv => whnf
                  refine Req.of g464 ?_
                  refine Row.of _ e463 ?_
                  conv => whnf
                  refine Pick.no ?_
                  conv => whnf
                  obtain ⟨y471, e472, h⟩ := bind_ex h
                  refine CallOk.of (impl_AddFractions_ct e472) ?_
                  conv => whnf
                  refine spl (fun g473 => ?_) (fun g473 => ?_)
                  · replace h := iteT h g473
                    conv => whnf
                    refine CutK.norm [2, 3, 4, 6, 7, 8, 10, 11] [128, 192, 256, 384, 640, 64000] ?_
                    conv => whnf
                    refine splN (fun g474 => ?_) (fun g474 => ?_)
                    · replace h := iteN h g474
                      conv => whnf
                      refine Req.of g459 ?_
                      refine Row.of _ e458 ?_
                      conv => whnf
                      refine Take.all (rfl) ?_
                      conv => whnf
                      refine Take.all (by first | rfl | exact List.length_append.symm | (simp; done) | omega) ?_
                      conv => whnf
                      obtain ⟨g475, h⟩ := req_ex h
                      refine Req.of (room (b := 40) (by decide) g475 (wide1 rfl wide0)) ?_
                      conv => whnf
                      exact LoopOk.back (impl_sum_l0_ct  n _ _ _ h) [some 128, some 192, some 256, some 384, some 5376] [] ⟨⟨rfl, rfl⟩, ⟨rfl, ⟨rfl, rfl, trivial⟩, ⟨rfl, rfl, trivial⟩, ⟨rfl, trivial, trivial⟩, ⟨rfl, ⟨(by first | rfl | exact List.length_append.symm | (simp; done) | omega), rfl⟩, trivial⟩, ⟨rfl, rfl, rows_same⟩, trivial⟩, ⟨rfl, rfl⟩, ⟨rfl, rfl⟩, ⟨rfl, rfl⟩, ⟨rfl, rfl⟩, rfl, rfl, trivial⟩
                    · replace h := iteP h g474
                      conv => whnf
                      exact LoopOk.back (impl_sum_l0_ct  n _ _ _ h) [some 128, some 192, some 256, some 384, some 64000] [] ⟨⟨rfl, rfl⟩, ⟨rfl, ⟨rfl, rfl, trivial⟩, ⟨rfl, rfl, trivial⟩, ⟨rfl, trivial, trivial⟩, ⟨rfl, ⟨rfl, rfl⟩, trivial⟩, ⟨rfl, rfl, rows_same⟩, trivial⟩, ⟨rfl, rfl⟩, ⟨rfl, rfl⟩, ⟨rfl, rfl⟩, ⟨rfl, rfl⟩, rfl, rfl, trivial⟩
                  · replace h := iteF h g473
                    conv => whnf
                    refine CutK.norm [2, 3, 4, 6, 7, 8, 10, 11] [128, 192, 256, 384, 640, 64000] ?_
                    conv => whnf
                    cases h
                    exact Done.of [none] [] rfl rfl ⟨⟨rfl, rfl⟩, ⟨rfl, rfl, trivial⟩, ⟨⟨⟨rfl, rfl⟩, trivial⟩, rfl, trivial⟩, trivial⟩
        · replace h := iteN h g440
          conv => whnf
          exact ⟨_, _, [some 256, some 384, some 64000], [], ⟨rfl, _, h, rfl, rfl⟩, ⟨⟨rfl, rfl⟩, ⟨rfl, ⟨rfl, trivial, trivial⟩, ⟨rfl, ⟨rfl, rfl⟩, trivial⟩, ⟨rfl, rfl, rows_same⟩, trivial⟩, ⟨rfl, rfl⟩, ⟨rfl, rfl⟩, trivial⟩⟩
def impl_sum (k : Nat) (a1 : Rw) (a2 : Rw) : Option (Rw × Bool) :=
  (impl_sum_l0 k a1 a2 (fun (v331 : Rw) => (impl_sum_p4 v331)) k 0 ([] : Rw) 0)
set_option maxHeartbeats 4000000 in
set_option maxRecDepth 100000 in
theorem impl_sum_ct {k : Nat} {a1 : Rw} {a2 : Rw} {r : Rw × Bool} (h : impl_sum k a1 a2 = some r) : Ct prog 84 [.agg [.d (D.sl a1)], .agg [.d (D.sl a2)]] (⟨[], []⟩) (.tup [.agg [.os 8 r.1.length], .d (D.bool r.2)]) (⟨[], [(70, false, r.1)]⟩) := by
  rw [impl_sum] at h
  refine Ct.of (c := _) mixed func84 ⟨rfl, rfl, rfl⟩ ?_ rfl
  conv => whnf
  refine LoopOk.into (impl_sum_l0_ct  _ _ _ _ h) [some 128, some 192, some 256, some 384, none] [] ⟨⟨rfl, rfl⟩, ⟨rfl, ⟨rfl, rfl, trivial⟩, ⟨rfl, rfl, trivial⟩, ⟨rfl, trivial, trivial⟩, ⟨rfl, ⟨rfl, rfl⟩, trivial⟩, rfl, trivial⟩, ⟨rfl, rfl⟩, ⟨rfl, rfl⟩, ⟨rfl, rfl⟩, ⟨rfl, rfl⟩, rfl, rfl, trivial⟩ ?_ (fun _ hs => hs)
  rintro i ts os ⟨rfl, v331, h, rfl, rfl⟩
  conv => whnf
  exact CutK.piece (impl_sum_p4_ct  h) [some 256, some 384, some 67001] [] ⟨⟨rfl, rfl⟩, ⟨rfl, ⟨rfl, trivial, trivial⟩, ⟨rfl, ⟨rfl, rfl⟩, trivial⟩, ⟨rfl, rfl, rows_same⟩, trivial⟩, ⟨rfl, rfl⟩, ⟨rfl, rfl⟩, trivial⟩

def impl_cloneSurreal_l0 (rec_impl_cloneSurreal : Rw → Option Rw) (a1 : Rw) (K0 : Rw → Option Rw) : Rw → Rw → Option Rw
  | [], v11 => (K0 v11)
  | cs :: rest, v11 => (cell_sii cs fun x31 x32 x33 => ((rec_impl_cloneSurreal x31).bind fun y35 => (if v11.length + 1 ≤ cap then (impl_cloneSurreal_l0 rec_impl_cloneSurreal a1 K0 rest (v11 ++ ([[D.sl y35, D.int .i64 x32, D.int .i64 x33]]))) else none)))
set_option maxRecDepth 100000 in
theorem impl_cloneSurreal_l0_ct {rec_impl_cloneSurreal : Rw → Option Rw} {a1 : Rw} {K0 : Rw → Option Rw} (hrec_impl_cloneSurreal : ∀ (a1 : Rw) (r : Rw), rec_impl_cloneSurreal a1 = some r → Ct prog 36 [.agg [.d (D.sl a1)]] (⟨[], []⟩) (.agg [.os 8 r.length]) (⟨[], [(70, true, r)]⟩)) {r : Rw} (hx : a1.length ≤ cap) : ∀ (rest : Rw) (v10n : Nat) (v11 : Rw), a1.drop v10n = rest → impl_cloneSurreal_l0 rec_impl_cloneSurreal a1 K0 rest v11 = some r → LoopOk prog 0 (lp f36 0) (mk 27 [(2, .ptr 128 0), (3, .ptr 192 0), (8, .d (D.sl a1)), (9, .d (D.int .i64 (a1.length : Int))), (10, .d (D.int .i64 (v10n : Int)))] [(128, .box 26 [.es]), (192, .box 26 [.os 64000 v11.length]), (64000, .arr 70 true v11)]) (LoopEnd prog f36 0 27 (.agg [.os 8 r.length]) (⟨[], [(70, true, r)]⟩) (fun i ts os => (i = 0 ∧ ∃ v21 : Rw, K0 v21 = some r ∧ ts = [(2, .ptr 128 0), (3, .ptr 192 0)] ∧ os = [(128, .box 26 [.es]), (192, .box 26 [.os 67001 v21.length]), (67001, .arr 70 true v21)])))
  | [], v10n, v11, hd, h => by
      rw [impl_cloneSurreal_l0] at h
      have hn := drop_nil hd
      refine LoopOk.step ?_
      conv => whnf
      refine splD (fun g => absurd g hn) (fun _ => ?_)
      conv => whnf
      exact ⟨_, _, [some 128, some 192, some 64000], [], ⟨rfl, _, h, rfl, rfl⟩, ⟨⟨rfl, rfl⟩, ⟨rfl, ⟨rfl, trivial, trivial⟩, ⟨rfl, ⟨rfl, rfl⟩, trivial⟩, ⟨rfl, rfl, rows_same⟩, trivial⟩, ⟨rfl, rfl⟩, ⟨rfl, rfl⟩, trivial⟩⟩
  | cs :: rest, v10n, v11, hd, h => by
      rw [impl_cloneSurreal_l0] at h
      obtain ⟨hrow, hd1, hlt⟩ := drop_cons hd
      refine LoopOk.step ?_
      conv => whnf
      refine splD (fun _ => ?_) (fun g => absurd hlt g)
      conv => whnf
      obtain ⟨x31, x32, x33, e34, h⟩ := cell_sii_ex h
      rw [e34] at hrow
      refine Req.of (Int.natCast_nonneg _) ?_
      refine Row.of _ hrow ?_
      conv => whnf
      refine Pick.no ?_
      conv => whnf
      obtain ⟨y35, e36, h⟩ := bind_ex h
      refine CallOk.of (hrec_impl_cloneSurreal _ _ e36) ?_
      conv => whnf
      refine Take.all (rfl) ?_
      conv => whnf
      refine Take.all (rfl) ?_
      conv => whnf
      refine Take.all (by first | rfl | exact List.length_append.symm | (simp; done) | omega) ?_
      conv => whnf
      obtain ⟨g37, h⟩ := req_ex h
      refine Req.of (room (b := 40) (by decide) g37 (wide1 rfl wide0)) ?_
      conv => whnf
      refine CutK.go ?_
      conv => whnf
      exact LoopOk.back (impl_cloneSurreal_l0_ct hrec_impl_cloneSurreal hx rest (v10n + 1) _ hd1 h) [some 128, some 192, some 1472] [] ⟨⟨rfl, rfl⟩, ⟨rfl, ⟨rfl, trivial, trivial⟩, ⟨rfl, ⟨(by first | rfl | exact List.length_append.symm | (simp; done) | omega), rfl⟩, trivial⟩, ⟨rfl, rfl, rows_same⟩, trivial⟩, ⟨rfl, rfl⟩, ⟨rfl, rfl⟩, rfl, rfl, i64eq (wrap_up hlt hx), trivial⟩
def impl_cloneSurreal_b (rec_impl_cloneSurreal : Rw → Option Rw) (a1 : Rw) : Option Rw :=
  (if a1.length ≤ cap then (impl_cloneSurreal_l0 rec_impl_cloneSurreal a1 (fun (v21 : Rw) => some v21) a1 ([] : Rw)) else none)
set_option maxHeartbeats 4000000 in
set_option maxRecDepth 100000 in
theorem impl_cloneSurreal_b_ct {rec_impl_cloneSurreal : Rw → Option Rw} (hrec_impl_cloneSurreal : ∀ (a1 : Rw) (r : Rw), rec_impl_cloneSurreal a1 = some r → Ct prog 36 [.agg [.d (D.sl a1)]] (⟨[], []⟩) (.agg [.os 8 r.length]) (⟨[], [(70, true, r)]⟩)) {a1 : Rw} {r : Rw} (h : impl_cloneSurreal_b rec_impl_cloneSurreal a1 = some r) : Ct prog 36 [.agg [.d (D.sl a1)]] (⟨[], []⟩) (.agg [.os 8 r.length]) (⟨[], [(70, true, r)]⟩) := by
  rw [impl_cloneSurreal_b] at h
  refine Ct.of (c := _) mixed func36 ⟨rfl, rfl, rfl⟩ ?_ rfl
  conv => whnf
  obtain ⟨g38, h⟩ := req_ex h
  refine LoopOk.into (impl_cloneSurreal_l0_ct hrec_impl_cloneSurreal g38 _ _ _ rfl h) [some 128, some 192, none] [] ⟨⟨rfl, rfl⟩, ⟨rfl, ⟨rfl, trivial, trivial⟩, ⟨rfl, ⟨rfl, rfl⟩, trivial⟩, rfl, trivial⟩, ⟨rfl, rfl⟩, ⟨rfl, rfl⟩, rfl, rfl, rfl, trivial⟩ ?_ (fun _ hs => hs)
  rintro i ts os ⟨rfl, v21, h, rfl, rfl⟩
  conv => whnf
  refine CutK.go ?_
  conv => whnf
  cases h
  exact Done.of [some 67001] [] rfl rfl ⟨⟨rfl, rfl⟩, ⟨rfl, ⟨rfl, rfl, rows_same⟩, trivial⟩, ⟨⟨rfl, rfl⟩, trivial⟩, trivial⟩
def impl_cloneSurreal : Nat → Rw → Option Rw
  | 0, _ => none
  | k + 1, a1 => impl_cloneSurreal_b (impl_cloneSurreal k) a1
theorem impl_cloneSurreal_ct' : ∀ (k : Nat) (a1 : Rw) (r : Rw), impl_cloneSurreal k a1 = some r → Ct prog 36 [.agg [.d (D.sl a1)]] (⟨[], []⟩) (.agg [.os 8 r.length]) (⟨[], [(70, true, r)]⟩)
  | 0, _, _, h => by rw [impl_cloneSurreal] at h; cases h
  | k + 1, _, _, h => by rw [impl_cloneSurreal] at h; exact impl_cloneSurreal_b_ct (impl_cloneSurreal_ct' k) h
theorem impl_cloneSurreal_ct {k : Nat} {a1 : Rw} {r : Rw} (h : impl_cloneSurreal k a1 = some r) : Ct prog 36 [.agg [.d (D.sl a1)]] (⟨[], []⟩) (.agg [.os 8 r.length]) (⟨[], [(70, true, r)]⟩) := impl_cloneSurreal_ct' k _ _ h

def impl_toldSurreal (k : Nat) (a1 : Rw) (a2 : Bool) : Option (Rw × Bool) :=
  (cond a2 ((impl_IsSurreal k a1).bind fun y3 => (if y3 = true then ((impl_cloneSurreal k a1).bind fun y6 => some (y6, true)) else some (([] : Rw), false))) (some (([] : Rw), false)))
set_option maxHeartbeats 4000000 in
set_option maxRecDepth 100000 in
theorem impl_toldSurreal_ct {k : Nat} {a1 : Rw} {a2 : Bool} {r : Rw × Bool} (h : impl_toldSurreal k a1 a2 = some r) : Ct prog 83 [.agg [.d (D.sl a1)], .d (D.bool a2)] (⟨[], []⟩) (.tup [.agg [.os 8 r.1.length], .d (D.bool r.2)]) (⟨[], [(70, true, r.1)]⟩) := by
  rw [impl_toldSurreal] at h
  refine Ct.of (c := _) mixed func83 ⟨rfl, rfl, rfl⟩ ?_ rfl
  cases a2
  · replace h := condF h
    conv => whnf
    refine CutK.go ?_
    conv => whnf
    cases h
    exact Done.of [none] [] rfl rfl ⟨⟨rfl, rfl⟩, ⟨rfl, rfl, trivial⟩, ⟨⟨⟨rfl, rfl⟩, trivial⟩, rfl, trivial⟩, trivial⟩
  · replace h := condT h
    conv => whnf
    refine Pick.no ?_
    conv => whnf
    obtain ⟨y3, e4, h⟩ := bind_ex h
    refine CallOk.of (impl_IsSurreal_ct e4) ?_
    conv => whnf
    refine spl (fun g5 => ?_) (fun g5 => ?_)
    · replace h := iteT h g5
      conv => whnf
      refine CutK.go ?_
      conv => whnf
      refine CutK.go ?_
      conv => whnf
      refine Pick.no ?_
      conv => whnf
      obtain ⟨y6, e7, h⟩ := bind_ex h
      refine CallOk.of (impl_cloneSurreal_ct e7) ?_
      conv => whnf
      refine CutK.go ?_
      conv => whnf
      cases h
      exact Done.of [some 960] [] rfl rfl ⟨⟨rfl, rfl⟩, ⟨rfl, ⟨rfl, rfl, rows_same⟩, trivial⟩, ⟨⟨⟨rfl, rfl⟩, trivial⟩, rfl, trivial⟩, trivial⟩
    · replace h := iteF h g5
      conv => whnf
      refine CutK.go ?_
      conv => whnf
      cases h
      exact Done.of [none] [] rfl rfl ⟨⟨rfl, rfl⟩, ⟨rfl, rfl, trivial⟩, ⟨⟨⟨rfl, rfl⟩, trivial⟩, rfl, trivial⟩, trivial⟩

def impl_AddSurreals (k : Nat) (a1 : Rw) (a2 : Rw) : Option (Rw × Bool) :=
  ((impl_surreals k a1 a2).bind fun y3 => (if y3 = true then ((impl_sum k a1 a2).bind fun y6 => (if y6.2 = true then ((impl_toldSurreal k y6.1 true).bind fun y9 => (if y9.2 = true then some (y9.1, true) else some (y9.1, false))) else ((impl_toldSurreal k y6.1 false).bind fun y12 => (if y12.2 = true then some (y12.1, true) else some (y12.1, false))))) else some (([] : Rw), false)))
set_option maxHeartbeats 4000000 in
set_option maxRecDepth 100000 in
theorem impl_AddSurreals_ct {k : Nat} {a1 : Rw} {a2 : Rw} {r : Rw × Bool} (h : impl_AddSurreals k a1 a2 = some r) : Ct prog 40 [.agg [.d (D.sl a1)], .agg [.d (D.sl a2)]] (⟨[], []⟩) (.tup [.agg [.os 8 r.1.length], .d (D.bool r.2)]) (⟨[], [(70, true, r.1)]⟩) := by
  rw [impl_AddSurreals] at h
  refine Ct.of (c := _) mixed func40 ⟨rfl, rfl, rfl⟩ ?_ rfl
  conv => whnf
  refine Pick.no ?_
  conv => whnf
  obtain ⟨y3, e4, h⟩ := bind_ex h
  refine CallOk.of (impl_surreals_ct e4) ?_
  conv => whnf
  refine spl (fun g5 => ?_) (fun g5 => ?_)
  · replace h := iteT h g5
    conv => whnf
    refine CutK.go ?_
    conv => whnf
    refine CutK.go ?_
    conv => whnf
    refine Pick.no ?_
    conv => whnf
    obtain ⟨y6, e7, h⟩ := bind_ex h
    refine CallOk.of (impl_sum_ct e7) ?_
    conv => whnf
    refine spl (fun g8 => ?_) (fun g8 => ?_)
    · replace h := iteT h g8
      conv => whnf
      refine Pick.no ?_
      conv => whnf
      refine Take.all (rfl) ?_
      conv => whnf
      obtain ⟨y9, e10, h⟩ := bind_ex h
      refine CallOk.of (impl_toldSurreal_ct e10) ?_
      conv => whnf
      refine spl (fun g11 => ?_) (fun g11 => ?_)
      · replace h := iteT h g11
        conv => whnf
        refine CutK.go ?_
        conv => whnf
        cases h
        exact Done.of [some 1024] [] rfl rfl ⟨⟨rfl, rfl⟩, ⟨rfl, ⟨rfl, rfl, rows_same⟩, trivial⟩, ⟨⟨⟨rfl, rfl⟩, trivial⟩, rfl, trivial⟩, trivial⟩
      · replace h := iteF h g11
        conv => whnf
        refine CutK.go ?_
        conv => whnf
        cases h
        exact Done.of [some 1024] [] rfl rfl ⟨⟨rfl, rfl⟩, ⟨rfl, ⟨rfl, rfl, rows_same⟩, trivial⟩, ⟨⟨⟨rfl, rfl⟩, trivial⟩, rfl, trivial⟩, trivial⟩
    · replace h := iteF h g8
      conv => whnf
      refine Pick.no ?_
      conv => whnf
      refine Take.all (rfl) ?_
      conv => whnf
      obtain ⟨y12, e13, h⟩ := bind_ex h
      refine CallOk.of (impl_toldSurreal_ct e13) ?_
      conv => whnf
      refine spl (fun g14 => ?_) (fun g14 => ?_)
      · replace h := iteT h g14
        conv => whnf
        refine CutK.go ?_
        conv => whnf
        cases h
        exact Done.of [some 1024] [] rfl rfl ⟨⟨rfl, rfl⟩, ⟨rfl, ⟨rfl, rfl, rows_same⟩, trivial⟩, ⟨⟨⟨rfl, rfl⟩, trivial⟩, rfl, trivial⟩, trivial⟩
      · replace h := iteF h g14
        conv => whnf
        refine CutK.go ?_
        conv => whnf
        cases h
        exact Done.of [some 1024] [] rfl rfl ⟨⟨rfl, rfl⟩, ⟨rfl, ⟨rfl, rfl, rows_same⟩, trivial⟩, ⟨⟨⟨rfl, rfl⟩, trivial⟩, rfl, trivial⟩, trivial⟩
  · replace h := iteF h g5
    conv => whnf
    refine CutK.go ?_
    conv => whnf
    cases h
    exact Done.of [none] [] rfl rfl ⟨⟨rfl, rfl⟩, ⟨rfl, rfl, trivial⟩, ⟨⟨⟨rfl, rfl⟩, trivial⟩, rfl, trivial⟩, trivial⟩

def impl_SubtractSurreals (k : Nat) (a1 : Rw) (a2 : Rw) : Option (Rw × Bool) :=
  ((impl_negative a2).bind fun y3 => ((impl_AddSurreals k a1 y3).bind fun y5 => (if y5.2 = true then some (y5.1, true) else some (y5.1, false))))
set_option maxHeartbeats 4000000 in
set_option maxRecDepth 100000 in
theorem impl_SubtractSurreals_ct {k : Nat} {a1 : Rw} {a2 : Rw} {r : Rw × Bool} (h : impl_SubtractSurreals k a1 a2 = some r) : Ct prog 12 [.agg [.d (D.sl a1)], .agg [.d (D.sl a2)]] (⟨[], []⟩) (.tup [.agg [.os 8 r.1.length], .d (D.bool r.2)]) (⟨[], [(70, true, r.1)]⟩) := by
  rw [impl_SubtractSurreals] at h
  refine Ct.of (c := _) mixed func12 ⟨rfl, rfl, rfl⟩ ?_ rfl
  conv => whnf
  refine Pick.no ?_
  conv => whnf
  obtain ⟨y3, e4, h⟩ := bind_ex h
  refine CallOk.of (impl_negative_ct e4) ?_
  conv => whnf
  refine Pick.no ?_
  conv => whnf
  refine Take.all (rfl) ?_
  conv => whnf
  obtain ⟨y5, e6, h⟩ := bind_ex h
  refine CallOk.of (impl_AddSurreals_ct e6) ?_
  conv => whnf
  refine spl (fun g7 => ?_) (fun g7 => ?_)
  · replace h := iteT h g7
    conv => whnf
    refine CutK.go ?_
    conv => whnf
    cases h
    exact Done.of [some 576] [] rfl rfl ⟨⟨rfl, rfl⟩, ⟨rfl, ⟨rfl, rfl, rows_same⟩, trivial⟩, ⟨⟨⟨rfl, rfl⟩, trivial⟩, rfl, trivial⟩, trivial⟩
  · replace h := iteF h g7
    conv => whnf
    refine CutK.go ?_
    conv => whnf
    cases h
    exact Done.of [some 576] [] rfl rfl ⟨⟨rfl, rfl⟩, ⟨rfl, ⟨rfl, rfl, rows_same⟩, trivial⟩, ⟨⟨⟨rfl, rfl⟩, trivial⟩, rfl, trivial⟩, trivial⟩

def impl_LeadingOf (k : Nat) (a1 : Rw) : Option (Rw × Int × Int × Bool) :=
  ((impl_IsSurreal k a1).bind fun y2 => (if y2 = true then (if (a1.length : Int) = (0 : Int) then some (([] : Rw), 0, 0, false) else (row_sii a1 0 fun x6 x7 x8 => ((impl_cloneSurreal k x6).bind fun y11 => some (y11, x7, x8, true)))) else some (([] : Rw), 0, 0, false)))
set_option maxHeartbeats 4000000 in
set_option maxRecDepth 100000 in
theorem impl_LeadingOf_ct {k : Nat} {a1 : Rw} {r : Rw × Int × Int × Bool} (h : impl_LeadingOf k a1 = some r) : Ct prog 13 [.agg [.d (D.sl a1)]] (⟨[], []⟩) (.tup [.agg [.os 8 r.1.length], .agg [.d (D.int .i64 r.2.1), .d (D.int .i64 r.2.2.1)], .d (D.bool r.2.2.2)]) (⟨[], [(70, true, r.1)]⟩) := by
  rw [impl_LeadingOf] at h
  refine Ct.of (c := _) mixed func13 ⟨rfl, rfl, rfl⟩ ?_ rfl
  conv => whnf
  refine Pick.no ?_
  conv => whnf
  obtain ⟨y2, e3, h⟩ := bind_ex h
  refine CallOk.of (impl_IsSurreal_ct e3) ?_
  conv => whnf
  refine spl (fun g4 => ?_) (fun g4 => ?_)
  · replace h := iteT h g4
    conv => whnf
    refine splD (fun g5 => ?_) (fun g5 => ?_)
    · replace h := iteP h g5
      conv => whnf
      refine CutK.go ?_
      conv => whnf
      cases h
      exact Done.of [none] [] rfl rfl ⟨⟨rfl, rfl⟩, ⟨rfl, rfl, trivial⟩, ⟨⟨⟨rfl, rfl⟩, trivial⟩, ⟨rfl, rfl, trivial⟩, rfl, trivial⟩, trivial⟩
    · replace h := iteN h g5
      conv => whnf
      refine CutK.go ?_
      conv => whnf
      refine CutK.go ?_
      conv => whnf
      obtain ⟨g10, x6, x7, x8, e9, h⟩ := row_sii_ex h
      refine Req.of g10 ?_
      refine Row.of _ e9 ?_
      conv => whnf
      refine Pick.no ?_
      conv => whnf
      obtain ⟨y11, e12, h⟩ := bind_ex h
      refine CallOk.of (impl_cloneSurreal_ct e12) ?_
      conv => whnf
      refine Req.of g10 ?_
      refine Row.of _ e9 ?_
      conv => whnf
      refine CutK.go ?_
      conv => whnf
      cases h
      exact Done.of [some 1344] [] rfl rfl ⟨⟨rfl, rfl⟩, ⟨rfl, ⟨rfl, rfl, rows_same⟩, trivial⟩, ⟨⟨⟨rfl, rfl⟩, trivial⟩, ⟨rfl, rfl, trivial⟩, rfl, trivial⟩, trivial⟩
  · replace h := iteF h g4
    conv => whnf
    refine CutK.go ?_
    conv => whnf
    cases h
    exact Done.of [none] [] rfl rfl ⟨⟨rfl, rfl⟩, ⟨rfl, rfl, trivial⟩, ⟨⟨⟨rfl, rfl⟩, trivial⟩, ⟨rfl, rfl, trivial⟩, rfl, trivial⟩, trivial⟩

def impl_CompareSurreals (k : Nat) (a1 : Rw) (a2 : Rw) : Option (Int × Bool) :=
  ((impl_surreals k a1 a2).bind fun y3 => (if y3 = true then ((impl_order k a1 a2).bind fun y6 => some (y6, true)) else some (0, false)))
set_option maxHeartbeats 4000000 in
set_option maxRecDepth 100000 in
theorem impl_CompareSurreals_ct {k : Nat} {a1 : Rw} {a2 : Rw} {r : Int × Bool} (h : impl_CompareSurreals k a1 a2 = some r) : Ct prog 14 [.agg [.d (D.sl a1)], .agg [.d (D.sl a2)]] (⟨[], []⟩) (.tup [.d (D.int .i64 r.1), .d (D.bool r.2)]) (⟨[], []⟩) := by
  rw [impl_CompareSurreals] at h
  refine Ct.of (c := _) mixed func14 ⟨rfl, rfl, rfl⟩ ?_ rfl
  conv => whnf
  refine Pick.no ?_
  conv => whnf
  obtain ⟨y3, e4, h⟩ := bind_ex h
  refine CallOk.of (impl_surreals_ct e4) ?_
  conv => whnf
  refine spl (fun g5 => ?_) (fun g5 => ?_)
  · replace h := iteT h g5
    conv => whnf
    refine CutK.go ?_
    conv => whnf
    refine CutK.go ?_
    conv => whnf
    refine Pick.no ?_
    conv => whnf
    obtain ⟨y6, e7, h⟩ := bind_ex h
    refine CallOk.of (impl_order_ct e7) ?_
    conv => whnf
    refine CutK.go ?_
    conv => whnf
    cases h
    exact Done.of [] [] rfl rfl ⟨⟨rfl, rfl⟩, ⟨rfl, trivial⟩, ⟨rfl, rfl, trivial⟩, trivial⟩
  · replace h := iteF h g5
    conv => whnf
    refine CutK.go ?_
    conv => whnf
    cases h
    exact Done.of [] [] rfl rfl ⟨⟨rfl, rfl⟩, ⟨rfl, trivial⟩, ⟨rfl, rfl, trivial⟩, trivial⟩

def laws_sameSurreal_l0 (rec_laws_sameSurreal : Rw → Rw → Option Bool) (a1 : Rw) (a2 : Rw) (K0 : Option Bool) : Rw → Nat → Option Bool
  | [], v19n => (K0)
  | cs :: rest, v19n => (cell_sii cs fun x35 x36 x37 => (row_sii a2 (v19n : Int) fun x39 x40 x41 => (if (!(decide (x36 = x40) && (decide (x37 = x41) && true))) = true then some false else ((rec_laws_sameSurreal x35 x39).bind fun y45 => (if y45 = true then (laws_sameSurreal_l0 rec_laws_sameSurreal a1 a2 K0 rest (v19n + 1)) else some false)))))
set_option maxRecDepth 100000 in
theorem laws_sameSurreal_l0_ct {rec_laws_sameSurreal : Rw → Rw → Option Bool} {a1 : Rw} {a2 : Rw} {K0 : Option Bool} (hrec_laws_sameSurreal : ∀ (a1 : Rw) (a2 : Rw) (r : Bool), rec_laws_sameSurreal a1 a2 = some r → Ct prog 10 [.agg [.d (D.sl a1)], .agg [.d (D.sl a2)]] (⟨[], []⟩) (.d (D.bool r)) (⟨[], []⟩)) {r : Bool} (hx : a1.length ≤ cap) : ∀ (rest : Rw) (v19n : Nat), a1.drop v19n = rest → laws_sameSurreal_l0 rec_laws_sameSurreal a1 a2 K0 rest v19n = some r → LoopOk prog 0 (lp f10 0) (mk 44 [(3, .ptr 192 0), (15, .d (D.sl a1)), (16, .d (D.int .i64 (a1.length : Int))), (17, .d (D.int .i64 (v19n : Int)))] [(192, .box 26 [.d (D.sl a2)])]) (LoopEnd prog f10 0 44 (.d (D.bool r)) (⟨[], []⟩) (fun i ts os => (i = 0 ∧ K0 = some r ∧ ts = [] ∧ os = [])))
  | [], v19n, hd, h => by
      rw [laws_sameSurreal_l0] at h
      have hn := drop_nil hd
      refine LoopOk.step ?_
      conv => whnf
      refine splD (fun g => absurd g hn) (fun _ => ?_)
      conv => whnf
      exact ⟨_, _, [], [], ⟨rfl, h, rfl, rfl⟩, ⟨⟨rfl, rfl⟩, ⟨rfl, trivial⟩, trivial⟩⟩
  | cs :: rest, v19n, hd, h => by
      rw [laws_sameSurreal_l0] at h
      obtain ⟨hrow, hd1, hlt⟩ := drop_cons hd
      refine LoopOk.step ?_
      conv => whnf
      refine splD (fun _ => ?_) (fun g => absurd hlt g)
      conv => whnf
      obtain ⟨x35, x36, x37, e38, h⟩ := cell_sii_ex h
      rw [e38] at hrow
      refine Req.of (Int.natCast_nonneg _) ?_
      refine Row.of _ hrow ?_
      conv => whnf
      obtain ⟨g43, x39, x40, x41, e42, h⟩ := row_sii_ex h
      refine Req.of g43 ?_
      refine Row.of _ e42 ?_
      conv => whnf
      refine Req.of ⟨by kernel_rfl, by kernel_rfl⟩ ?_
      conv => whnf
      refine spl (fun g44 => ?_) (fun g44 => ?_)
      · replace h := iteT h g44
        conv => whnf
        refine CutK.norm [3, 15, 16, 17, 42] [192] ?_
        conv => whnf
        cases h
        exact Done.of [] [] rfl rfl ⟨⟨rfl, rfl⟩, ⟨rfl, trivial⟩, rfl, trivial⟩
      · replace h := iteF h g44
        conv => whnf
        refine Req.of g43 ?_
        refine Row.of _ e42 ?_
        conv => whnf
        refine Pick.no ?_
        conv => whnf
        obtain ⟨y45, e46, h⟩ := bind_ex h
        refine CallOk.of (hrec_laws_sameSurreal _ _ _ e46) ?_
        conv => whnf
        refine spl (fun g47 => ?_) (fun g47 => ?_)
        · replace h := iteT h g47
          conv => whnf
          refine CutK.norm [3, 15, 16, 17, 42] [192] ?_
          conv => whnf
          refine CutK.norm [3, 15, 16, 17] [192] ?_
          conv => whnf
          exact LoopOk.back (laws_sameSurreal_l0_ct hrec_laws_sameSurreal hx rest (v19n + 1)  hd1 h) [some 192] [] ⟨⟨rfl, rfl⟩, ⟨rfl, ⟨rfl, rfl, trivial⟩, trivial⟩, ⟨rfl, rfl⟩, rfl, rfl, i64eq (wrap_up hlt hx), trivial⟩
        · replace h := iteF h g47
          conv => whnf
          refine CutK.norm [3, 15, 16, 17, 42] [192] ?_
          conv => whnf
          cases h
          exact Done.of [] [] rfl rfl ⟨⟨rfl, rfl⟩, ⟨rfl, trivial⟩, rfl, trivial⟩
def laws_sameSurreal_b (rec_laws_sameSurreal : Rw → Rw → Option Bool) (a1 : Rw) (a2 : Rw) : Option Bool :=
  (if (a1.length : Int) = (a2.length : Int) then (if a1.length ≤ cap then (laws_sameSurreal_l0 rec_laws_sameSurreal a1 a2 (some true) a1 0) else none) else some false)
set_option maxHeartbeats 4000000 in
set_option maxRecDepth 100000 in
theorem laws_sameSurreal_b_ct {rec_laws_sameSurreal : Rw → Rw → Option Bool} (hrec_laws_sameSurreal : ∀ (a1 : Rw) (a2 : Rw) (r : Bool), rec_laws_sameSurreal a1 a2 = some r → Ct prog 10 [.agg [.d (D.sl a1)], .agg [.d (D.sl a2)]] (⟨[], []⟩) (.d (D.bool r)) (⟨[], []⟩)) {a1 : Rw} {a2 : Rw} {r : Bool} (h : laws_sameSurreal_b rec_laws_sameSurreal a1 a2 = some r) : Ct prog 10 [.agg [.d (D.sl a1)], .agg [.d (D.sl a2)]] (⟨[], []⟩) (.d (D.bool r)) (⟨[], []⟩) := by
  rw [laws_sameSurreal_b] at h
  refine Ct.of (c := _) mixed func10 ⟨rfl, rfl, rfl⟩ ?_ rfl
  conv => whnf
  refine splN (fun g3 => ?_) (fun g3 => ?_)
  · replace h := iteN h g3
    conv => whnf
    cases h
    exact Done.of [] [] rfl rfl ⟨⟨rfl, rfl⟩, ⟨rfl, trivial⟩, rfl, trivial⟩
  · replace h := iteP h g3
    conv => whnf
    obtain ⟨g48, h⟩ := req_ex h
    refine LoopOk.into (laws_sameSurreal_l0_ct hrec_laws_sameSurreal g48 _ _  rfl h) [some 192] [] ⟨⟨rfl, rfl⟩, ⟨rfl, ⟨rfl, rfl, trivial⟩, trivial⟩, ⟨rfl, rfl⟩, rfl, rfl, rfl, trivial⟩ ?_ (fun _ hs => hs)
    rintro i ts os ⟨rfl, h, rfl, rfl⟩
    conv => whnf
    refine CutK.norm [] [] ?_
    conv => whnf
    cases h
    exact Done.of [] [] rfl rfl ⟨⟨rfl, rfl⟩, ⟨rfl, trivial⟩, rfl, trivial⟩
def laws_sameSurreal : Nat → Rw → Rw → Option Bool
  | 0, _, _ => none
  | k + 1, a1, a2 => laws_sameSurreal_b (laws_sameSurreal k) a1 a2
theorem laws_sameSurreal_ct' : ∀ (k : Nat) (a1 : Rw) (a2 : Rw) (r : Bool), laws_sameSurreal k a1 a2 = some r → Ct prog 10 [.agg [.d (D.sl a1)], .agg [.d (D.sl a2)]] (⟨[], []⟩) (.d (D.bool r)) (⟨[], []⟩)
  | 0, _, _, _, h => by rw [laws_sameSurreal] at h; cases h
  | k + 1, _, _, _, h => by rw [laws_sameSurreal] at h; exact laws_sameSurreal_b_ct (laws_sameSurreal_ct' k) h
theorem laws_sameSurreal_ct {k : Nat} {a1 : Rw} {a2 : Rw} {r : Bool} (h : laws_sameSurreal k a1 a2 = some r) : Ct prog 10 [.agg [.d (D.sl a1)], .agg [.d (D.sl a2)]] (⟨[], []⟩) (.d (D.bool r)) (⟨[], []⟩) := laws_sameSurreal_ct' k _ _ _ h

def spec_suOwn_l0 (rec_spec_suOwn : Rw → Option Rw) (a1 : Rw) (K0 : Rw → Option Rw) : Rw → Rw → Option Rw
  | [], v11 => (K0 v11)
  | cs :: rest, v11 => (cell_sii cs fun x31 x32 x33 => ((rec_spec_suOwn x31).bind fun y35 => (if v11.length + 1 ≤ cap then (spec_suOwn_l0 rec_spec_suOwn a1 K0 rest (v11 ++ ([[D.sl y35, D.int .i64 x32, D.int .i64 x33]]))) else none)))
set_option maxRecDepth 100000 in
theorem spec_suOwn_l0_ct {rec_spec_suOwn : Rw → Option Rw} {a1 : Rw} {K0 : Rw → Option Rw} (hrec_spec_suOwn : ∀ (a1 : Rw) (r : Rw), rec_spec_suOwn a1 = some r → Ct prog 39 [.agg [.d (D.sl a1)]] (⟨[], []⟩) (.agg [.os 8 r.length]) (⟨[], [(70, true, r)]⟩)) {r : Rw} (hx : a1.length ≤ cap) : ∀ (rest : Rw) (v10n : Nat) (v11 : Rw), a1.drop v10n = rest → spec_suOwn_l0 rec_spec_suOwn a1 K0 rest v11 = some r → LoopOk prog 0 (lp f39 0) (mk 27 [(2, .ptr 128 0), (3, .ptr 192 0), (8, .d (D.sl a1)), (9, .d (D.int .i64 (a1.length : Int))), (10, .d (D.int .i64 (v10n : Int)))] [(128, .box 26 [.es]), (192, .box 26 [.os 64000 v11.length]), (64000, .arr 70 true v11)]) (LoopEnd prog f39 0 27 (.agg [.os 8 r.length]) (⟨[], [(70, true, r)]⟩) (fun i ts os => (i = 0 ∧ ∃ v21 : Rw, K0 v21 = some r ∧ ts = [(2, .ptr 128 0), (3, .ptr 192 0)] ∧ os = [(128, .box 26 [.es]), (192, .box 26 [.os 67001 v21.length]), (67001, .arr 70 true v21)])))
  | [], v10n, v11, hd, h => by
      rw [spec_suOwn_l0] at h
      have hn := drop_nil hd
      refine LoopOk.step ?_
      conv => whnf
      refine splD (fun g => absurd g hn) (fun _ => ?_)
      conv => whnf
      exact ⟨_, _, [some 128, some 192, some 64000], [], ⟨rfl, _, h, rfl, rfl⟩, ⟨⟨rfl, rfl⟩, ⟨rfl, ⟨rfl, trivial, trivial⟩, ⟨rfl, ⟨rfl, rfl⟩, trivial⟩, ⟨rfl, rfl, rows_same⟩, trivial⟩, ⟨rfl, rfl⟩, ⟨rfl, rfl⟩, trivial⟩⟩
  | cs :: rest, v10n, v11, hd, h => by
      rw [spec_suOwn_l0] at h
      obtain ⟨hrow, hd1, hlt⟩ := drop_cons hd
      refine LoopOk.step ?_
      conv => whnf
      refine splD (fun _ => ?_) (fun g => absurd hlt g)
      conv => whnf
      obtain ⟨x31, x32, x33, e34, h⟩ := cell_sii_ex h
      rw [e34] at hrow
      refine Req.of (Int.natCast_nonneg _) ?_
      refine Row.of _ hrow ?_
      conv => whnf
      refine Pick.no ?_
      conv => whnf
      obtain ⟨y35, e36, h⟩ := bind_ex h
      refine CallOk.of (hrec_spec_suOwn _ _ e36) ?_
      conv => whnf
      refine Take.all (rfl) ?_
      conv => whnf
      refine Take.all (rfl) ?_
      conv => whnf
      refine Take.all (by first | rfl | exact List.length_append.symm | (simp; done) | omega) ?_
      conv => whnf
      obtain ⟨g37, h⟩ := req_ex h
      refine Req.of (room (b := 40) (by decide) g37 (wide1 rfl wide0)) ?_
      conv => whnf
      refine CutK.go ?_
      conv => whnf
      exact LoopOk.back (spec_suOwn_l0_ct hrec_spec_suOwn hx rest (v10n + 1) _ hd1 h) [some 128, some 192, some 1472] [] ⟨⟨rfl, rfl⟩, ⟨rfl, ⟨rfl, trivial, trivial⟩, ⟨rfl, ⟨(by first | rfl | exact List.length_append.symm | (simp; done) | omega), rfl⟩, trivial⟩, ⟨rfl, rfl, rows_same⟩, trivial⟩, ⟨rfl, rfl⟩, ⟨rfl, rfl⟩, rfl, rfl, i64eq (wrap_up hlt hx), trivial⟩
def spec_suOwn_b (rec_spec_suOwn : Rw → Option Rw) (a1 : Rw) : Option Rw :=
  (if a1.length ≤ cap then (spec_suOwn_l0 rec_spec_suOwn a1 (fun (v21 : Rw) => some v21) a1 ([] : Rw)) else none)
set_option maxHeartbeats 4000000 in
set_option maxRecDepth 100000 in
theorem spec_suOwn_b_ct {rec_spec_suOwn : Rw → Option Rw} (hrec_spec_suOwn : ∀ (a1 : Rw) (r : Rw), rec_spec_suOwn a1 = some r → Ct prog 39 [.agg [.d (D.sl a1)]] (⟨[], []⟩) (.agg [.os 8 r.length]) (⟨[], [(70, true, r)]⟩)) {a1 : Rw} {r : Rw} (h : spec_suOwn_b rec_spec_suOwn a1 = some r) : Ct prog 39 [.agg [.d (D.sl a1)]] (⟨[], []⟩) (.agg [.os 8 r.length]) (⟨[], [(70, true, r)]⟩) := by
  rw [spec_suOwn_b] at h
  refine Ct.of (c := _) mixed func39 ⟨rfl, rfl, rfl⟩ ?_ rfl
  conv => whnf
  obtain ⟨g38, h⟩ := req_ex h
  refine LoopOk.into (spec_suOwn_l0_ct hrec_spec_suOwn g38 _ _ _ rfl h) [some 128, some 192, none] [] ⟨⟨rfl, rfl⟩, ⟨rfl, ⟨rfl, trivial, trivial⟩, ⟨rfl, ⟨rfl, rfl⟩, trivial⟩, rfl, trivial⟩, ⟨rfl, rfl⟩, ⟨rfl, rfl⟩, rfl, rfl, rfl, trivial⟩ ?_ (fun _ hs => hs)
  rintro i ts os ⟨rfl, v21, h, rfl, rfl⟩
  conv => whnf
  refine CutK.go ?_
  conv => whnf
  cases h
  exact Done.of [some 67001] [] rfl rfl ⟨⟨rfl, rfl⟩, ⟨rfl, ⟨rfl, rfl, rows_same⟩, trivial⟩, ⟨⟨rfl, rfl⟩, trivial⟩, trivial⟩
def spec_suOwn : Nat → Rw → Option Rw
  | 0, _ => none
  | k + 1, a1 => spec_suOwn_b (spec_suOwn k) a1
theorem spec_suOwn_ct' : ∀ (k : Nat) (a1 : Rw) (r : Rw), spec_suOwn k a1 = some r → Ct prog 39 [.agg [.d (D.sl a1)]] (⟨[], []⟩) (.agg [.os 8 r.length]) (⟨[], [(70, true, r)]⟩)
  | 0, _, _, h => by rw [spec_suOwn] at h; cases h
  | k + 1, _, _, h => by rw [spec_suOwn] at h; exact spec_suOwn_b_ct (spec_suOwn_ct' k) h
theorem spec_suOwn_ct {k : Nat} {a1 : Rw} {r : Rw} (h : spec_suOwn k a1 = some r) : Ct prog 39 [.agg [.d (D.sl a1)]] (⟨[], []⟩) (.agg [.os 8 r.length]) (⟨[], [(70, true, r)]⟩) := spec_suOwn_ct' k _ _ h

def spec_CutSurreal_l0 (k : Nat) (a1 : Rw) (a2 : Rw) (K0 : Rw → Option (Rw × Bool)) : Rw → Rw → Option (Rw × Bool)
  | [], v19 => (K0 v19)
  | cs :: rest, v19 => (cell_sii cs fun x41 x42 x43 => ((spec_suCmp k x41 a2).bind fun y45 => (if (0 : Int) < y45 then (if v19.length + 1 ≤ cap then (spec_CutSurreal_l0 k a1 a2 K0 rest (v19 ++ ([[D.sl x41, D.int .i64 x42, D.int .i64 x43]]))) else none) else (spec_CutSurreal_l0 k a1 a2 K0 rest v19))))
set_option maxRecDepth 100000 in
theorem spec_CutSurreal_l0_ct {k : Nat} {a1 : Rw} {a2 : Rw} {K0 : Rw → Option (Rw × Bool)} {r : Rw × Bool} (hx : a1.length ≤ cap) : ∀ (rest : Rw) (v18n : Nat) (v19 : Rw), a1.drop v18n = rest → spec_CutSurreal_l0 k a1 a2 K0 rest v19 = some r → LoopOk prog 0 (lp f9 0) (mk 40 [(3, .ptr 192 0), (4, .ptr 256 0), (6, .ptr 384 0), (20, .d (D.sl a1)), (21, .d (D.int .i64 (a1.length : Int))), (22, .d (D.int .i64 (v18n : Int)))] [(192, .box 26 [.d (D.sl a2)]), (256, .box 26 [.es]), (384, .box 26 [.os 64000 v19.length]), (64000, .arr 70 false v19)]) (LoopEnd prog f9 0 40 (.tup [.agg [.os 8 r.1.length], .d (D.bool r.2)]) (⟨[], [(70, true, r.1)]⟩) (fun i ts os => (i = 0 ∧ ∃ v30 : Rw, K0 v30 = some r ∧ ts = [(4, .ptr 256 0), (6, .ptr 384 0)] ∧ os = [(256, .box 26 [.es]), (384, .box 26 [.os 67001 v30.length]), (67001, .arr 70 false v30)])))
  | [], v18n, v19, hd, h => by
      rw [spec_CutSurreal_l0] at h
      have hn := drop_nil hd
      refine LoopOk.step ?_
      conv => whnf
      refine splD (fun g => absurd g hn) (fun _ => ?_)
      conv => whnf
      exact ⟨_, _, [some 256, some 384, some 64000], [], ⟨rfl, _, h, rfl, rfl⟩, ⟨⟨rfl, rfl⟩, ⟨rfl, ⟨rfl, trivial, trivial⟩, ⟨rfl, ⟨rfl, rfl⟩, trivial⟩, ⟨rfl, rfl, rows_same⟩, trivial⟩, ⟨rfl, rfl⟩, ⟨rfl, rfl⟩, trivial⟩⟩
  | cs :: rest, v18n, v19, hd, h => by
      rw [spec_CutSurreal_l0] at h
      obtain ⟨hrow, hd1, hlt⟩ := drop_cons hd
      refine LoopOk.step ?_
      conv => whnf
      refine splD (fun _ => ?_) (fun g => absurd hlt g)
      conv => whnf
      obtain ⟨x41, x42, x43, e44, h⟩ := cell_sii_ex h
      rw [e44] at hrow
      refine Req.of (Int.natCast_nonneg _) ?_
      refine Row.of _ hrow ?_
      conv => whnf
      refine Pick.no ?_
      conv => whnf
      obtain ⟨y45, e46, h⟩ := bind_ex h
      refine CallOk.of (spec_suCmp_ct e46) ?_
      conv => whnf
      refine splD (fun g47 => ?_) (fun g47 => ?_)
      · replace h := iteP h g47
        conv => whnf
        refine CutK.norm [3, 4, 6, 8, 20, 21, 22, 30] [192, 256, 384, 512, 64000] ?_
        conv => whnf
        refine Take.all (rfl) ?_
        conv => whnf
        refine Take.all (by first | rfl | exact List.length_append.symm | (simp; done) | omega) ?_
        conv => whnf
        obtain ⟨g48, h⟩ := req_ex h
        refine Req.of (room (b := 40) (by decide) g48 (wide1 rfl wide0)) ?_
        conv => whnf
        refine CutK.norm [3, 4, 6, 20, 21, 22] [192, 256, 384, 2240] ?_
        conv => whnf
        exact LoopOk.back (spec_CutSurreal_l0_ct hx rest (v18n + 1) _ hd1 h) [some 192, some 256, some 384, some 2240] [] ⟨⟨rfl, rfl⟩, ⟨rfl, ⟨rfl, rfl, trivial⟩, ⟨rfl, trivial, trivial⟩, ⟨rfl, ⟨(by first | rfl | exact List.length_append.symm | (simp; done) | omega), rfl⟩, trivial⟩, ⟨rfl, rfl, rows_same⟩, trivial⟩, ⟨rfl, rfl⟩, ⟨rfl, rfl⟩, ⟨rfl, rfl⟩, rfl, rfl, i64eq (wrap_up hlt hx), trivial⟩
      · replace h := iteN h g47
        conv => whnf
        refine CutK.norm [3, 4, 6, 8, 20, 21, 22, 30] [192, 256, 384, 512, 64000] ?_
        conv => whnf
        refine CutK.norm [3, 4, 6, 20, 21, 22] [192, 256, 384, 64000] ?_
        conv => whnf
        exact LoopOk.back (spec_CutSurreal_l0_ct hx rest (v18n + 1) _ hd1 h) [some 192, some 256, some 384, some 64000] [] ⟨⟨rfl, rfl⟩, ⟨rfl, ⟨rfl, rfl, trivial⟩, ⟨rfl, trivial, trivial⟩, ⟨rfl, ⟨rfl, rfl⟩, trivial⟩, ⟨rfl, rfl, rows_same⟩, trivial⟩, ⟨rfl, rfl⟩, ⟨rfl, rfl⟩, ⟨rfl, rfl⟩, rfl, rfl, i64eq (wrap_up hlt hx), trivial⟩
def spec_CutSurreal (k : Nat) (a1 : Rw) (a2 : Rw) : Option (Rw × Bool) :=
  ((spec_suGood k a1).bind fun y3 => (if y3 = true then ((spec_suGood k a2).bind fun y6 => (if y6 = true then (if a1.length ≤ cap then (spec_CutSurreal_l0 k a1 a2 (fun (v30 : Rw) => ((spec_suOwn k v30).bind fun y50 => some (y50, true))) a1 ([] : Rw)) else none) else some (([] : Rw), false))) else some (([] : Rw), false)))
set_option maxHeartbeats 4000000 in
set_option maxRecDepth 100000 in
theorem spec_CutSurreal_ct {k : Nat} {a1 : Rw} {a2 : Rw} {r : Rw × Bool} (h : spec_CutSurreal k a1 a2 = some r) : Ct prog 9 [.agg [.d (D.sl a1)], .agg [.d (D.sl a2)]] (⟨[], []⟩) (.tup [.agg [.os 8 r.1.length], .d (D.bool r.2)]) (⟨[], [(70, true, r.1)]⟩) := by
  rw [spec_CutSurreal] at h
  refine Ct.of (c := _) mixed func9 ⟨rfl, rfl, rfl⟩ ?_ rfl
  conv => whnf
  refine Pick.no ?_
  conv => whnf
  obtain ⟨y3, e4, h⟩ := bind_ex h
  refine CallOk.of (spec_suGood_ct e4) ?_
  conv => whnf
  refine spl (fun g5 => ?_) (fun g5 => ?_)
  · replace h := iteT h g5
    conv => whnf
    refine Pick.no ?_
    conv => whnf
    obtain ⟨y6, e7, h⟩ := bind_ex h
    refine CallOk.of (spec_suGood_ct e7) ?_
    conv => whnf
    refine spl (fun g8 => ?_) (fun g8 => ?_)
    · replace h := iteT h g8
      conv => whnf
      refine CutK.norm [2, 3, 4, 16] [128, 192, 256] ?_
      conv => whnf
      refine CutK.norm [2, 3, 4] [128, 192, 256] ?_
      conv => whnf
      obtain ⟨g49, h⟩ := req_ex h
      refine LoopOk.into (spec_CutSurreal_l0_ct  g49 _ _ _ rfl h) [some 192, some 256, some 384, none] [] ⟨⟨rfl, rfl⟩, ⟨rfl, ⟨rfl, rfl, trivial⟩, ⟨rfl, trivial, trivial⟩, ⟨rfl, ⟨rfl, rfl⟩, trivial⟩, rfl, trivial⟩, ⟨rfl, rfl⟩, ⟨rfl, rfl⟩, ⟨rfl, rfl⟩, rfl, rfl, rfl, trivial⟩ ?_ (fun _ hs => hs)
      rintro i ts os ⟨rfl, v30, h, rfl, rfl⟩
      conv => whnf
      refine CutK.norm [4, 6] [256, 384, 67001] ?_
      conv => whnf
      refine Pick.no ?_
      conv => whnf
      refine Take.all (rfl) ?_
      conv => whnf
      obtain ⟨y50, e51, h⟩ := bind_ex h
      refine CallOk.of (spec_suOwn_ct e51) ?_
      conv => whnf
      refine CutK.norm [4, 5] [256, 2496] ?_
      conv => whnf
      cases h
      exact Done.of [some 2496] [] rfl rfl ⟨⟨rfl, rfl⟩, ⟨rfl, ⟨rfl, rfl, rows_same⟩, trivial⟩, ⟨⟨⟨rfl, rfl⟩, trivial⟩, rfl, trivial⟩, trivial⟩
    · replace h := iteF h g8
      conv => whnf
      refine CutK.norm [2, 3, 4, 16] [128, 192, 256] ?_
      conv => whnf
      cases h
      exact Done.of [none] [] rfl rfl ⟨⟨rfl, rfl⟩, ⟨rfl, rfl, trivial⟩, ⟨⟨⟨rfl, rfl⟩, trivial⟩, rfl, trivial⟩, trivial⟩
  · replace h := iteF h g5
    conv => whnf
    refine CutK.norm [2, 3, 4, 16] [128, 192, 256] ?_
    conv => whnf
    cases h
    exact Done.of [none] [] rfl rfl ⟨⟨rfl, rfl⟩, ⟨rfl, rfl, trivial⟩, ⟨⟨⟨rfl, rfl⟩, trivial⟩, rfl, trivial⟩, trivial⟩

def impl_CutSurreal_l0 (k : Nat) (a1 : Rw) (a2 : Rw) (K0 : Int → Option (Rw × Bool)) : Rw → Nat → Option (Rw × Bool)
  | [], v15n => (K0 (v15n : Int))
  | cs :: rest, v15n => (cell_sii cs fun x35 x36 x37 => ((impl_order k x35 a2).bind fun y39 => (if (0 : Int) < y39 then (impl_CutSurreal_l0 k a1 a2 K0 rest (v15n + 1)) else (K0 (v15n : Int)))))
set_option maxRecDepth 100000 in
theorem impl_CutSurreal_l0_ct {k : Nat} {a1 : Rw} {a2 : Rw} {K0 : Int → Option (Rw × Bool)} {r : Rw × Bool} (hx : a1.length ≤ cap) : ∀ (rest : Rw) (v15n : Nat), a1.drop v15n = rest → impl_CutSurreal_l0 k a1 a2 K0 rest v15n = some r → LoopOk prog 0 (lp f8 0) (mk 36 [(2, .ptr 128 0), (3, .ptr 192 0), (4, .ptr 256 0), (6, .d (D.int .i64 (v15n : Int)))] [(128, .box 26 [.d (D.sl a1)]), (192, .box 26 [.d (D.sl a2)]), (256, .box 26 [.es])]) (LoopEnd prog f8 0 36 (.tup [.agg [.os 8 r.1.length], .d (D.bool r.2)]) (⟨[], [(70, true, r.1)]⟩) (fun i ts os => (i = 0 ∧ ∃ v25 : Int, K0 v25 = some r ∧ ts = [(2, .ptr 128 0), (4, .ptr 256 0), (6, .d (D.int .i64 v25))] ∧ os = [(128, .box 26 [.d (D.sl a1)]), (256, .box 26 [.es])])))
  | [], v15n, hd, h => by
      rw [impl_CutSurreal_l0] at h
      have hn := drop_nil hd
      refine LoopOk.step ?_
      conv => whnf
      refine splD (fun g => absurd g hn) (fun _ => ?_)
      conv => whnf
      refine CutK.norm [2, 3, 4, 6, 27] [128, 192, 256] ?_
      conv => whnf
      exact ⟨_, _, [some 128, some 256], [], ⟨rfl, _, h, rfl, rfl⟩, ⟨⟨rfl, rfl⟩, ⟨rfl, ⟨rfl, rfl, trivial⟩, ⟨rfl, trivial, trivial⟩, trivial⟩, ⟨rfl, rfl⟩, ⟨rfl, rfl⟩, rfl, trivial⟩⟩
  | cs :: rest, v15n, hd, h => by
      rw [impl_CutSurreal_l0] at h
      obtain ⟨hrow, hd1, hlt⟩ := drop_cons hd
      refine LoopOk.step ?_
      conv => whnf
      refine splD (fun _ => ?_) (fun g => absurd hlt g)
      conv => whnf
      obtain ⟨x35, x36, x37, e38, h⟩ := cell_sii_ex h
      rw [e38] at hrow
      refine Req.of (Int.natCast_nonneg _) ?_
      refine Row.of _ hrow ?_
      conv => whnf
      refine Pick.no ?_
      conv => whnf
      obtain ⟨y39, e40, h⟩ := bind_ex h
      refine CallOk.of (impl_order_ct e40) ?_
      conv => whnf
      refine splD (fun g41 => ?_) (fun g41 => ?_)
      · replace h := iteP h g41
        conv => whnf
        refine CutK.norm [2, 3, 4, 6, 27] [128, 192, 256] ?_
        conv => whnf
        refine CutK.norm [2, 3, 4, 6] [128, 192, 256] ?_
        conv => whnf
        exact LoopOk.back (impl_CutSurreal_l0_ct hx rest (v15n + 1)  hd1 h) [some 128, some 192, some 256] [] ⟨⟨rfl, rfl⟩, ⟨rfl, ⟨rfl, rfl, trivial⟩, ⟨rfl, rfl, trivial⟩, ⟨rfl, trivial, trivial⟩, trivial⟩, ⟨rfl, rfl⟩, ⟨rfl, rfl⟩, ⟨rfl, rfl⟩, i64eq (wrap_up hlt hx), trivial⟩
      · replace h := iteN h g41
        conv => whnf
        refine CutK.norm [2, 3, 4, 6, 27] [128, 192, 256] ?_
        conv => whnf
        exact ⟨_, _, [some 128, some 256], [], ⟨rfl, _, h, rfl, rfl⟩, ⟨⟨rfl, rfl⟩, ⟨rfl, ⟨rfl, rfl, trivial⟩, ⟨rfl, trivial, trivial⟩, trivial⟩, ⟨rfl, rfl⟩, ⟨rfl, rfl⟩, rfl, trivial⟩⟩
def impl_CutSurreal (k : Nat) (a1 : Rw) (a2 : Rw) : Option (Rw × Bool) :=
  ((impl_surreals k a1 a2).bind fun y3 => (if y3 = true then (if a1.length ≤ cap then (impl_CutSurreal_l0 k a1 a2 (fun (v25 : Int) => (if 0 ≤ v25 ∧ v25 ≤ (a1.length : Int) ∧ (∀ cs ∈ a1, cs.length = 3) then ((impl_cloneSurreal k (a1.take (v25 : Int).toNat)).bind fun y44 => some (y44, true)) else none)) a1 0) else none) else some (([] : Rw), false)))
set_option maxHeartbeats 4000000 in
set_option maxRecDepth 100000 in
theorem impl_CutSurreal_ct {k : Nat} {a1 : Rw} {a2 : Rw} {r : Rw × Bool} (h : impl_CutSurreal k a1 a2 = some r) : Ct prog 8 [.agg [.d (D.sl a1)], .agg [.d (D.sl a2)]] (⟨[], []⟩) (.tup [.agg [.os 8 r.1.length], .d (D.bool r.2)]) (⟨[], [(70, true, r.1)]⟩) := by
  rw [impl_CutSurreal] at h
  refine Ct.of (c := _) mixed func8 ⟨rfl, rfl, rfl⟩ ?_ rfl
  conv => whnf
  refine Pick.no ?_
  conv => whnf
  obtain ⟨y3, e4, h⟩ := bind_ex h
  refine CallOk.of (impl_surreals_ct e4) ?_
  conv => whnf
  refine spl (fun g5 => ?_) (fun g5 => ?_)
  · replace h := iteT h g5
    conv => whnf
    refine CutK.norm [2, 3, 4, 10] [128, 192, 256] ?_
    conv => whnf
    refine CutK.norm [2, 3, 4] [128, 192, 256] ?_
    conv => whnf
    obtain ⟨g42, h⟩ := req_ex h
    refine LoopOk.into (impl_CutSurreal_l0_ct  g42 _ _  rfl h) [some 128, some 192, some 256] [] ⟨⟨rfl, rfl⟩, ⟨rfl, ⟨rfl, rfl, trivial⟩, ⟨rfl, rfl, trivial⟩, ⟨rfl, trivial, trivial⟩, trivial⟩, ⟨rfl, rfl⟩, ⟨rfl, rfl⟩, ⟨rfl, rfl⟩, rfl, trivial⟩ ?_ (fun _ hs => hs)
    rintro i ts os ⟨rfl, v25, h, rfl, rfl⟩
    conv => whnf
    refine CutK.norm [2, 4, 6] [128, 256] ?_
    conv => whnf
    obtain ⟨g43, h⟩ := req_ex h
    refine Req.of g43 ?_
    conv => whnf
    refine Pick.no ?_
    conv => whnf
    obtain ⟨y44, e45, h⟩ := bind_ex h
    refine CallOk.of (impl_cloneSurreal_ct e45) ?_
    conv => whnf
    refine CutK.norm [4, 5] [256, 2240] ?_
    conv => whnf
    cases h
    exact Done.of [some 2240] [] rfl rfl ⟨⟨rfl, rfl⟩, ⟨rfl, ⟨rfl, rfl, rows_same⟩, trivial⟩, ⟨⟨⟨rfl, rfl⟩, trivial⟩, rfl, trivial⟩, trivial⟩
  · replace h := iteF h g5
    conv => whnf
    refine CutK.norm [2, 3, 4, 10] [128, 192, 256] ?_
    conv => whnf
    cases h
    exact Done.of [none] [] rfl rfl ⟨⟨rfl, rfl⟩, ⟨rfl, rfl, trivial⟩, ⟨⟨⟨rfl, rfl⟩, trivial⟩, rfl, trivial⟩, trivial⟩

def spec_DrawCutSurreal (k : Nat) (a1 : Rw) : Option (Rw × Rw) :=
  ((spec_l1Cur_anySurreal k a1 0 0).bind fun y2 => ((spec_l1Cur_one y2.2.1 y2.2.2.1 y2.2.2.2 2).bind fun y4 => (if y4.1 = true then (if (0 : Int) < (y2.1.length : Int) then ((spec_l1Cur_pick y4.2.1 y4.2.2.1 y4.2.2.2 (y2.1.length : Int)).bind fun y8 => (row_sii y2.1 y8.1 fun x10 x11 x12 => some (y2.1, x10))) else ((spec_l1Cur_anySurreal k y4.2.1 y4.2.2.1 y4.2.2.2).bind fun y15 => some (y2.1, y15.1))) else ((spec_l1Cur_anySurreal k y4.2.1 y4.2.2.1 y4.2.2.2).bind fun y17 => some (y2.1, y17.1)))))
set_option maxHeartbeats 4000000 in
set_option maxRecDepth 100000 in
theorem spec_DrawCutSurreal_ct {k : Nat} {a1 : Rw} {r : Rw × Rw} (h : spec_DrawCutSurreal k a1 = some r) : Ct prog 7 [.d (D.sl a1)] (⟨[], []⟩) (.tup [.agg [.d (D.sl r.1)], .agg [.d (D.sl r.2)]]) (⟨[], []⟩) := by
  rw [spec_DrawCutSurreal] at h
  refine Ct.of (c := _) mixed func7 ⟨rfl, rfl, rfl⟩ ?_ rfl
  conv => whnf
  refine Pick.no ?_
  conv => whnf
  obtain ⟨y2, e3, h⟩ := bind_ex h
  refine CallOk.of (spec_l1Cur_anySurreal_ct e3) ?_
  conv => whnf
  refine CutK.norm [2, 3, 4, 5] [128, 192, 320, 512] ?_
  conv => whnf
  refine Pick.no ?_
  conv => whnf
  obtain ⟨y4, e5, h⟩ := bind_ex h
  refine CallOk.of (spec_l1Cur_one_ct e5) ?_
  conv => whnf
  refine spl (fun g6 => ?_) (fun g6 => ?_)
  · replace h := iteT h g6
    conv => whnf
    refine splD (fun g7 => ?_) (fun g7 => ?_)
    · replace h := iteP h g7
      conv => whnf
      refine CutK.norm [2, 3, 4, 5, 18] [128, 192, 320, 512] ?_
      conv => whnf
      refine Pick.no ?_
      conv => whnf
      obtain ⟨y8, e9, h⟩ := bind_ex h
      refine CallOk.of (spec_l1Cur_pick_ct e9) ?_
      conv => whnf
      obtain ⟨g14, x10, x11, x12, e13, h⟩ := row_sii_ex h
      refine Req.of g14 ?_
      refine Row.of _ e13 ?_
      conv => whnf
      refine CutK.norm [2, 3] [128, 192] ?_
      conv => whnf
      cases h
      exact Done.of [] [] rfl rfl ⟨⟨rfl, rfl⟩, ⟨rfl, trivial⟩, ⟨⟨rfl, trivial⟩, ⟨rfl, trivial⟩, trivial⟩, trivial⟩
    · replace h := iteN h g7
      conv => whnf
      refine CutK.norm [2, 3, 4, 5, 18] [128, 192, 320, 512] ?_
      conv => whnf
      refine CutK.norm [2, 3, 4, 5] [128, 192, 320, 512] ?_
      conv => whnf
      refine Pick.no ?_
      conv => whnf
      obtain ⟨y15, e16, h⟩ := bind_ex h
      refine CallOk.of (spec_l1Cur_anySurreal_ct e16) ?_
      conv => whnf
      refine CutK.norm [2, 3] [128, 192] ?_
      conv => whnf
      cases h
      exact Done.of [] [] rfl rfl ⟨⟨rfl, rfl⟩, ⟨rfl, trivial⟩, ⟨⟨rfl, trivial⟩, ⟨rfl, trivial⟩, trivial⟩, trivial⟩
  · replace h := iteF h g6
    conv => whnf
    refine CutK.norm [2, 3, 4, 5, 18] [128, 192, 320, 512] ?_
    conv => whnf
    refine CutK.norm [2, 3, 4, 5] [128, 192, 320, 512] ?_
    conv => whnf
    refine Pick.no ?_
    conv => whnf
    obtain ⟨y17, e18, h⟩ := bind_ex h
    refine CallOk.of (spec_l1Cur_anySurreal_ct e18) ?_
    conv => whnf
    refine CutK.norm [2, 3] [128, 192] ?_
    conv => whnf
    cases h
    exact Done.of [] [] rfl rfl ⟨⟨rfl, rfl⟩, ⟨rfl, trivial⟩, ⟨⟨rfl, trivial⟩, ⟨rfl, trivial⟩, trivial⟩, trivial⟩

def laws_big  (a1 : Rw) (a2 : Rw) : Option Bool :=
  (if (1048576 : Int) < (a1.length : Int) then some true else (if (IntKind.i64.wrap (1048576 - (a1.length : Int))) < (a2.length : Int) then some true else some false))
set_option maxHeartbeats 4000000 in
set_option maxRecDepth 100000 in
theorem laws_big_ct  {a1 : Rw} {a2 : Rw} {r : Bool} (h : laws_big a1 a2 = some r) : Ct prog 6 [.d (D.sl a1), .d (D.sl a2)] (⟨[], []⟩) (.d (D.bool r)) (⟨[], []⟩) := by
  rw [laws_big] at h
  refine Ct.of (c := _) mixed func6 ⟨rfl, rfl, rfl⟩ ?_ rfl
  conv => whnf
  refine splD (fun g3 => ?_) (fun g3 => ?_)
  · replace h := iteP h g3
    conv => whnf
    cases h
    exact Done.of [] [] rfl rfl ⟨⟨rfl, rfl⟩, ⟨rfl, trivial⟩, rfl, trivial⟩
  · replace h := iteN h g3
    conv => whnf
    refine splD (fun g4 => ?_) (fun g4 => ?_)
    · replace h := iteP h g4
      conv => whnf
      cases h
      exact Done.of [] [] rfl rfl ⟨⟨rfl, rfl⟩, ⟨rfl, trivial⟩, rfl, trivial⟩
    · replace h := iteN h g4
      conv => whnf
      cases h
      exact Done.of [] [] rfl rfl ⟨⟨rfl, rfl⟩, ⟨rfl, trivial⟩, rfl, trivial⟩
end
end Go.Proofs.Try
