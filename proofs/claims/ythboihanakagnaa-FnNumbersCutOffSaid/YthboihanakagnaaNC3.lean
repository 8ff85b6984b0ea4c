/- Printed by program (axgen): pure functions, and that the Go functions compute them. -/
import Derived.Test.YthboihanakagnaaNC2
set_option linter.unusedVariables false
set_option linter.unusedSimpArgs false
namespace Go.Proofs.Try
open Go Go.AX
noncomputable section
def laws_FnNumbersCutOff_p10 (o76 : Int) (o77 : Int) (v78 : Bool) (v82 : Bool) : Option Bool :=
  (cond v78 (cond v82 (if o76 = o77 then some true else some false) (some false)) (cond v82 (some false) (if o76 = o77 then some true else some false)))
set_option maxHeartbeats 4000000 in
set_option maxRecDepth 100000 in
theorem laws_FnNumbersCutOff_p10_ct {o76 : Int} {o77 : Int} {v78 : Bool} {v82 : Bool} {r : Bool} (h : laws_FnNumbersCutOff_p10 o76 o77 v78 v82 = some r) : X prog 0 (tlF f3 10) (mk 143 [(22, .d (D.int .i64 o76)), (23, .d (D.bool v82)), (24, .d (D.int .i64 o77)), (25, .d (D.bool v78))] []) (finK prog f3 0 (.d (D.bool r)) (⟨[], []⟩)) := by
  rw [laws_FnNumbersCutOff_p10] at h
  cases v78
  · replace h := condF h
    cases v82
    · replace h := condF h
      conv => whnf
      refine splT ?_
      conv => whnf
      refine splD (fun g85 => ?_) (fun g85 => ?_)
      · replace h := iteP h g85
        conv => whnf
        cases h
        exact Done.of [] [] rfl rfl ⟨⟨rfl, rfl⟩, ⟨rfl, trivial⟩, rfl, trivial⟩
      · replace h := iteN h g85
        conv => whnf
        cases h
        exact Done.of [] [] rfl rfl ⟨⟨rfl, rfl⟩, ⟨rfl, trivial⟩, rfl, trivial⟩
    · replace h := condT h
      conv => whnf
      refine splF ?_
      conv => whnf
      cases h
      exact Done.of [] [] rfl rfl ⟨⟨rfl, rfl⟩, ⟨rfl, trivial⟩, rfl, trivial⟩
  · replace h := condT h
    cases v82
    · replace h := condF h
      conv => whnf
      refine splF ?_
      conv => whnf
      cases h
      exact Done.of [] [] rfl rfl ⟨⟨rfl, rfl⟩, ⟨rfl, trivial⟩, rfl, trivial⟩
    · replace h := condT h
      conv => whnf
      refine splT ?_
      conv => whnf
      refine splD (fun g86 => ?_) (fun g86 => ?_)
      · replace h := iteP h g86
        conv => whnf
        cases h
        exact Done.of [] [] rfl rfl ⟨⟨rfl, rfl⟩, ⟨rfl, trivial⟩, rfl, trivial⟩
      · replace h := iteN h g86
        conv => whnf
        cases h
        exact Done.of [] [] rfl rfl ⟨⟨rfl, rfl⟩, ⟨rfl, trivial⟩, rfl, trivial⟩
def laws_FnNumbersCutOff_p9 (k : Nat) (o69 : Int) (o70 : Rw) (o71 : Rw) (v72 : Bool) : Option Bool :=
  (cond v72 ((spec_CommonTerms k o70 o71).bind fun y90 => (if y90.2 = true then (laws_FnNumbersCutOff_p10 o69 y90.1 true true) else (laws_FnNumbersCutOff_p10 o69 y90.1 false true))) ((spec_CommonTerms k o70 o71).bind fun y87 => (if y87.2 = true then (laws_FnNumbersCutOff_p10 o69 y87.1 true false) else (laws_FnNumbersCutOff_p10 o69 y87.1 false false))))
set_option maxHeartbeats 4000000 in
set_option maxRecDepth 100000 in
theorem laws_FnNumbersCutOff_p9_ct {k : Nat} {o69 : Int} {o70 : Rw} {o71 : Rw} {v72 : Bool} {r : Bool} (h : laws_FnNumbersCutOff_p9 k o69 o70 o71 v72 = some r) : X prog 0 (tlF f3 9) (mk 143 [(20, .ptr 1280 0), (21, .ptr 1344 0), (22, .d (D.int .i64 o69)), (23, .d (D.bool v72))] [(1280, .box 26 [.d (D.sl o70)]), (1344, .box 26 [.d (D.sl o71)])]) (finK prog f3 0 (.d (D.bool r)) (⟨[], []⟩)) := by
  rw [laws_FnNumbersCutOff_p9] at h
  cases v72
  · replace h := condF h
    conv => whnf
    refine Pick.no ?_
    conv => whnf
    obtain ⟨y87, e88, h⟩ := bind_ex h
    refine CallOk.of (spec_CommonTerms_ct e88) ?_
    conv => whnf
    refine spl (fun g89 => ?_) (fun g89 => ?_)
    · replace h := iteT h g89
      conv => whnf
      exact CutK.piece (laws_FnNumbersCutOff_p10_ct  h) [] [] ⟨⟨rfl, rfl⟩, ⟨rfl, trivial⟩, rfl, rfl, rfl, rfl, trivial⟩
    · replace h := iteF h g89
      conv => whnf
      exact CutK.piece (laws_FnNumbersCutOff_p10_ct  h) [] [] ⟨⟨rfl, rfl⟩, ⟨rfl, trivial⟩, rfl, rfl, rfl, rfl, trivial⟩
  · replace h := condT h
    conv => whnf
    refine Pick.no ?_
    conv => whnf
    obtain ⟨y90, e91, h⟩ := bind_ex h
    refine CallOk.of (spec_CommonTerms_ct e91) ?_
    conv => whnf
    refine spl (fun g92 => ?_) (fun g92 => ?_)
    · replace h := iteT h g92
      conv => whnf
      exact CutK.piece (laws_FnNumbersCutOff_p10_ct  h) [] [] ⟨⟨rfl, rfl⟩, ⟨rfl, trivial⟩, rfl, rfl, rfl, rfl, trivial⟩
    · replace h := iteF h g92
      conv => whnf
      exact CutK.piece (laws_FnNumbersCutOff_p10_ct  h) [] [] ⟨⟨rfl, rfl⟩, ⟨rfl, trivial⟩, rfl, rfl, rfl, rfl, trivial⟩
def laws_FnNumbersCutOff_p8 (k : Nat) (o64 : Rw) (o65 : Rw) : Option Bool :=
  ((impl_CommonTerms k o64 o65).bind fun y93 => (if y93.2 = true then (laws_FnNumbersCutOff_p9 k y93.1 o64 o65 true) else (laws_FnNumbersCutOff_p9 k y93.1 o64 o65 false)))
set_option maxHeartbeats 4000000 in
set_option maxRecDepth 100000 in
theorem laws_FnNumbersCutOff_p8_ct {k : Nat} {o64 : Rw} {o65 : Rw} {r : Bool} (h : laws_FnNumbersCutOff_p8 k o64 o65 = some r) : X prog 0 (tlF f3 8) (mk 143 [(20, .ptr 1280 0), (21, .ptr 1344 0)] [(1280, .box 26 [.d (D.sl o64)]), (1344, .box 26 [.d (D.sl o65)])]) (finK prog f3 0 (.d (D.bool r)) (⟨[], []⟩)) := by
  rw [laws_FnNumbersCutOff_p8] at h
  conv => whnf
  refine Pick.no ?_
  conv => whnf
  obtain ⟨y93, e94, h⟩ := bind_ex h
  refine CallOk.of (impl_CommonTerms_ct e94) ?_
  conv => whnf
  refine spl (fun g95 => ?_) (fun g95 => ?_)
  · replace h := iteT h g95
    conv => whnf
    exact CutK.piece (laws_FnNumbersCutOff_p9_ct  h) [some 1280, some 1344] [] ⟨⟨rfl, rfl⟩, ⟨rfl, ⟨rfl, rfl, trivial⟩, ⟨rfl, rfl, trivial⟩, trivial⟩, ⟨rfl, rfl⟩, ⟨rfl, rfl⟩, rfl, rfl, trivial⟩
  · replace h := iteF h g95
    conv => whnf
    exact CutK.piece (laws_FnNumbersCutOff_p9_ct  h) [some 1280, some 1344] [] ⟨⟨rfl, rfl⟩, ⟨rfl, ⟨rfl, rfl, trivial⟩, ⟨rfl, rfl, trivial⟩, trivial⟩, ⟨rfl, rfl⟩, ⟨rfl, rfl⟩, rfl, rfl, trivial⟩
def laws_FnNumbersCutOff_p7 (k : Nat) (a2 : Rw) : Option Bool :=
  ((spec_DrawCommonTerms k a2).bind fun y96 => (laws_FnNumbersCutOff_p8 k y96.1 y96.2))
set_option maxHeartbeats 4000000 in
set_option maxRecDepth 100000 in
theorem laws_FnNumbersCutOff_p7_ct {k : Nat} {a2 : Rw} {r : Bool} (h : laws_FnNumbersCutOff_p7 k a2 = some r) : X prog 0 (tlF f3 7) (mk 143 [(1, .d (D.sl a2))] []) (finK prog f3 0 (.d (D.bool r)) (⟨[], []⟩)) := by
  rw [laws_FnNumbersCutOff_p7] at h
  conv => whnf
  refine Pick.no ?_
  conv => whnf
  obtain ⟨y96, e97, h⟩ := bind_ex h
  refine CallOk.of (spec_DrawCommonTerms_ct e97) ?_
  conv => whnf
  exact CutK.piece (laws_FnNumbersCutOff_p8_ct  h) [some 1280, some 1344] [] ⟨⟨rfl, rfl⟩, ⟨rfl, ⟨rfl, rfl, trivial⟩, ⟨rfl, rfl, trivial⟩, trivial⟩, ⟨rfl, rfl⟩, ⟨rfl, rfl⟩, trivial⟩
def laws_FnNumbersCutOff_p6 (k : Nat) (a2 : Rw) (o32 : Rw) (o33 : Rw) (o34 : Rw) (v38 : Bool) : Option Bool :=
  (cond v38 ((impl_CommonTerms k o32 o34).bind fun y98 => (if y98.2 = true then ((impl_SubtractSurreals k o32 o34).bind fun y101 => (if y101.2 = true then (if y98.1 = (o34.length : Int) then (if (IntKind.i64.wrap ((y101.1.length : Int) + y98.1)) = (o32.length : Int) then (if (0 : Int) < (y101.1.length : Int) then ((impl_LeadingOf k y101.1).bind fun y107 => (if y107.2.2.2 = true then ((impl_CompareSurreals k y107.1 o33).bind fun y110 => (if y110.2 = true then (if (0 : Int) < y110.1 then some false else (laws_FnNumbersCutOff_p7 k a2)) else some false)) else ((impl_CompareSurreals k y107.1 o33).bind fun y114 => (if y114.2 = true then some false else some false)))) else (laws_FnNumbersCutOff_p7 k a2)) else some false) else some false) else (if y98.1 = (o34.length : Int) then some false else some false))) else ((impl_SubtractSurreals k o32 o34).bind fun y118 => (if y118.2 = true then some false else some false)))) (laws_FnNumbersCutOff_p7 k a2))
set_option maxHeartbeats 4000000 in
set_option maxRecDepth 100000 in
theorem laws_FnNumbersCutOff_p6_ct {k : Nat} {a2 : Rw} {o32 : Rw} {o33 : Rw} {o34 : Rw} {v38 : Bool} {r : Bool} (h : laws_FnNumbersCutOff_p6 k a2 o32 o33 o34 v38 = some r) : X prog 0 (tlF f3 6) (mk 143 [(1, .d (D.sl a2)), (5, .ptr 320 0), (6, .ptr 384 0), (7, .ptr 448 0), (8, .d (D.bool v38))] [(320, .box 26 [.d (D.sl o32)]), (384, .box 26 [.d (D.sl o33)]), (448, .box 26 [.os 1094000 o34.length]), (1094000, .arr 70 true o34)]) (finK prog f3 0 (.d (D.bool r)) (⟨[], []⟩)) := by
  rw [laws_FnNumbersCutOff_p6] at h
  cases v38
  · replace h := condF h
    conv => whnf
    exact CutK.piece (laws_FnNumbersCutOff_p7_ct  h) [] [] ⟨⟨rfl, rfl⟩, ⟨rfl, trivial⟩, rfl, trivial⟩
  · replace h := condT h
    conv => whnf
    refine Pick.no ?_
    conv => whnf
    refine Take.all (rfl) ?_
    conv => whnf
    obtain ⟨y98, e99, h⟩ := bind_ex h
    refine CallOk.of (impl_CommonTerms_ct e99) ?_
    conv => whnf
    refine spl (fun g100 => ?_) (fun g100 => ?_)
    · replace h := iteT h g100
      conv => whnf
      refine CutK.norm [1, 5, 6, 7, 11, 12] [320, 384, 448, 1094000] ?_
      conv => whnf
      refine Pick.no ?_
      conv => whnf
      refine Take.all (rfl) ?_
      conv => whnf
      obtain ⟨y101, e102, h⟩ := bind_ex h
      refine CallOk.of (impl_SubtractSurreals_ct e102) ?_
      conv => whnf
      refine spl (fun g103 => ?_) (fun g103 => ?_)
      · replace h := iteT h g103
        conv => whnf
        refine CutK.norm [1, 5, 6, 7, 11, 12, 13, 14] [320, 384, 448, 832, 4160, 1094000] ?_
        conv => whnf
        refine splN (fun g104 => ?_) (fun g104 => ?_)
        · replace h := iteN h g104
          conv => whnf
          cases h
          exact Done.of [] [] rfl rfl ⟨⟨rfl, rfl⟩, ⟨rfl, trivial⟩, rfl, trivial⟩
        · replace h := iteP h g104
          conv => whnf
          refine splN (fun g105 => ?_) (fun g105 => ?_)
          · replace h := iteN h g105
            conv => whnf
            cases h
            exact Done.of [] [] rfl rfl ⟨⟨rfl, rfl⟩, ⟨rfl, trivial⟩, rfl, trivial⟩
          · replace h := iteP h g105
            conv => whnf
            refine splD (fun g106 => ?_) (fun g106 => ?_)
            · replace h := iteP h g106
              conv => whnf
              refine Pick.no ?_
              conv => whnf
              refine Take.all (rfl) ?_
              conv => whnf
              obtain ⟨y107, e108, h⟩ := bind_ex h
              refine CallOk.of (impl_LeadingOf_ct e108) ?_
              conv => whnf
              refine spl (fun g109 => ?_) (fun g109 => ?_)
              · replace h := iteT h g109
                conv => whnf
                refine CutK.norm [1, 6, 15, 17] [384, 960, 6272] ?_
                conv => whnf
                refine Pick.no ?_
                conv => whnf
                refine Take.all (rfl) ?_
                conv => whnf
                obtain ⟨y110, e111, h⟩ := bind_ex h
                refine CallOk.of (impl_CompareSurreals_ct e111) ?_
                conv => whnf
                refine spl (fun g112 => ?_) (fun g112 => ?_)
                · replace h := iteT h g112
                  conv => whnf
                  refine CutK.norm [1, 17, 18, 19] [] ?_
                  conv => whnf
                  refine splD (fun g113 => ?_) (fun g113 => ?_)
                  · replace h := iteP h g113
                    conv => whnf
                    cases h
                    exact Done.of [] [] rfl rfl ⟨⟨rfl, rfl⟩, ⟨rfl, trivial⟩, rfl, trivial⟩
                  · replace h := iteN h g113
                    conv => whnf
                    exact CutK.piece (laws_FnNumbersCutOff_p7_ct  h) [] [] ⟨⟨rfl, rfl⟩, ⟨rfl, trivial⟩, rfl, trivial⟩
                · replace h := iteF h g112
                  conv => whnf
                  refine CutK.norm [1, 17, 18, 19] [] ?_
                  conv => whnf
                  cases h
                  exact Done.of [] [] rfl rfl ⟨⟨rfl, rfl⟩, ⟨rfl, trivial⟩, rfl, trivial⟩
              · replace h := iteF h g109
                conv => whnf
                refine CutK.norm [1, 6, 15, 17] [384, 960, 6272] ?_
                conv => whnf
                refine Pick.no ?_
                conv => whnf
                refine Take.all (rfl) ?_
                conv => whnf
                obtain ⟨y114, e115, h⟩ := bind_ex h
                refine CallOk.of (impl_CompareSurreals_ct e115) ?_
                conv => whnf
                refine spl (fun g116 => ?_) (fun g116 => ?_)
                · replace h := iteT h g116
                  conv => whnf
                  refine CutK.norm [1, 17, 18, 19] [] ?_
                  conv => whnf
                  cases h
                  exact Done.of [] [] rfl rfl ⟨⟨rfl, rfl⟩, ⟨rfl, trivial⟩, rfl, trivial⟩
                · replace h := iteF h g116
                  conv => whnf
                  refine CutK.norm [1, 17, 18, 19] [] ?_
                  conv => whnf
                  cases h
                  exact Done.of [] [] rfl rfl ⟨⟨rfl, rfl⟩, ⟨rfl, trivial⟩, rfl, trivial⟩
            · replace h := iteN h g106
              conv => whnf
              exact CutK.piece (laws_FnNumbersCutOff_p7_ct  h) [] [] ⟨⟨rfl, rfl⟩, ⟨rfl, trivial⟩, rfl, trivial⟩
      · replace h := iteF h g103
        conv => whnf
        refine CutK.norm [1, 5, 6, 7, 11, 12, 13, 14] [320, 384, 448, 832, 4160, 1094000] ?_
        conv => whnf
        refine splN (fun g117 => ?_) (fun g117 => ?_)
        · replace h := iteN h g117
          conv => whnf
          cases h
          exact Done.of [] [] rfl rfl ⟨⟨rfl, rfl⟩, ⟨rfl, trivial⟩, rfl, trivial⟩
        · replace h := iteP h g117
          conv => whnf
          cases h
          exact Done.of [] [] rfl rfl ⟨⟨rfl, rfl⟩, ⟨rfl, trivial⟩, rfl, trivial⟩
    · replace h := iteF h g100
      conv => whnf
      refine CutK.norm [1, 5, 6, 7, 11, 12] [320, 384, 448, 1094000] ?_
      conv => whnf
      refine Pick.no ?_
      conv => whnf
      refine Take.all (rfl) ?_
      conv => whnf
      obtain ⟨y118, e119, h⟩ := bind_ex h
      refine CallOk.of (impl_SubtractSurreals_ct e119) ?_
      conv => whnf
      refine spl (fun g120 => ?_) (fun g120 => ?_)
      · replace h := iteT h g120
        conv => whnf
        refine CutK.norm [1, 5, 6, 7, 11, 12, 13, 14] [320, 384, 448, 832, 4160, 1094000] ?_
        conv => whnf
        cases h
        exact Done.of [] [] rfl rfl ⟨⟨rfl, rfl⟩, ⟨rfl, trivial⟩, rfl, trivial⟩
      · replace h := iteF h g120
        conv => whnf
        refine CutK.norm [1, 5, 6, 7, 11, 12, 13, 14] [320, 384, 448, 832, 4160, 1094000] ?_
        conv => whnf
        cases h
        exact Done.of [] [] rfl rfl ⟨⟨rfl, rfl⟩, ⟨rfl, trivial⟩, rfl, trivial⟩
def laws_FnNumbersCutOff_p5 (k : Nat) (a2 : Rw) (o20 : Rw) (o21 : Rw) (o22 : Rw) (o23 : Rw) (v24 : Bool) (v28 : Bool) : Option Bool :=
  (cond v24 (cond v28 ((laws_sameSurreal k o22 o23).bind fun y124 => (if y124 = true then (laws_FnNumbersCutOff_p6 k a2 o20 o21 o22 true) else some false)) (some false)) (cond v28 (some false) ((laws_sameSurreal k o22 o23).bind fun y121 => (if y121 = true then (laws_FnNumbersCutOff_p6 k a2 o20 o21 o22 false) else some false))))
set_option maxHeartbeats 4000000 in
set_option maxRecDepth 100000 in
theorem laws_FnNumbersCutOff_p5_ct {k : Nat} {a2 : Rw} {o20 : Rw} {o21 : Rw} {o22 : Rw} {o23 : Rw} {v24 : Bool} {v28 : Bool} {r : Bool} (h : laws_FnNumbersCutOff_p5 k a2 o20 o21 o22 o23 v24 v28 = some r) : X prog 0 (tlF f3 5) (mk 143 [(1, .d (D.sl a2)), (5, .ptr 320 0), (6, .ptr 384 0), (7, .ptr 448 0), (8, .d (D.bool v28)), (9, .ptr 576 0), (10, .d (D.bool v24))] [(320, .box 26 [.d (D.sl o20)]), (384, .box 26 [.d (D.sl o21)]), (448, .box 26 [.os 1089000 o22.length]), (576, .box 26 [.os 1089001 o23.length]), (1089000, .arr 70 true o22), (1089001, .arr 70 true o23)]) (finK prog f3 0 (.d (D.bool r)) (⟨[], []⟩)) := by
  rw [laws_FnNumbersCutOff_p5] at h
  cases v24
  · replace h := condF h
    cases v28
    · replace h := condF h
      conv => whnf
      refine splF ?_
      conv => whnf
      refine Pick.no ?_
      conv => whnf
      refine Take.all (rfl) ?_
      conv => whnf
      refine Take.all (rfl) ?_
      conv => whnf
      obtain ⟨y121, e122, h⟩ := bind_ex h
      refine CallOk.of (laws_sameSurreal_ct e122) ?_
      conv => whnf
      refine spl (fun g123 => ?_) (fun g123 => ?_)
      · replace h := iteT h g123
        conv => whnf
        refine CutK.norm [1, 5, 6, 7, 8, 54] [320, 384, 448, 1089000] ?_
        conv => whnf
        exact CutK.piece (laws_FnNumbersCutOff_p6_ct  h) [some 320, some 384, some 448, some 1089000] [] ⟨⟨rfl, rfl⟩, ⟨rfl, ⟨rfl, rfl, trivial⟩, ⟨rfl, rfl, trivial⟩, ⟨rfl, ⟨rfl, rfl⟩, trivial⟩, ⟨rfl, rfl, rows_same⟩, trivial⟩, rfl, ⟨rfl, rfl⟩, ⟨rfl, rfl⟩, ⟨rfl, rfl⟩, rfl, trivial⟩
      · replace h := iteF h g123
        conv => whnf
        refine CutK.norm [1, 5, 6, 7, 8, 54] [320, 384, 448, 1089000] ?_
        conv => whnf
        cases h
        exact Done.of [] [] rfl rfl ⟨⟨rfl, rfl⟩, ⟨rfl, trivial⟩, rfl, trivial⟩
    · replace h := condT h
      conv => whnf
      refine splT ?_
      conv => whnf
      refine CutK.norm [1, 5, 6, 7, 8, 54] [320, 384, 448, 1089000] ?_
      conv => whnf
      cases h
      exact Done.of [] [] rfl rfl ⟨⟨rfl, rfl⟩, ⟨rfl, trivial⟩, rfl, trivial⟩
  · replace h := condT h
    cases v28
    · replace h := condF h
      conv => whnf
      refine splT ?_
      conv => whnf
      refine CutK.norm [1, 5, 6, 7, 8, 54] [320, 384, 448, 1089000] ?_
      conv => whnf
      cases h
      exact Done.of [] [] rfl rfl ⟨⟨rfl, rfl⟩, ⟨rfl, trivial⟩, rfl, trivial⟩
    · replace h := condT h
      conv => whnf
      refine splF ?_
      conv => whnf
      refine Pick.no ?_
      conv => whnf
      refine Take.all (rfl) ?_
      conv => whnf
      refine Take.all (rfl) ?_
      conv => whnf
      obtain ⟨y124, e125, h⟩ := bind_ex h
      refine CallOk.of (laws_sameSurreal_ct e125) ?_
      conv => whnf
      refine spl (fun g126 => ?_) (fun g126 => ?_)
      · replace h := iteT h g126
        conv => whnf
        refine CutK.norm [1, 5, 6, 7, 8, 54] [320, 384, 448, 1089000] ?_
        conv => whnf
        exact CutK.piece (laws_FnNumbersCutOff_p6_ct  h) [some 320, some 384, some 448, some 1089000] [] ⟨⟨rfl, rfl⟩, ⟨rfl, ⟨rfl, rfl, trivial⟩, ⟨rfl, rfl, trivial⟩, ⟨rfl, ⟨rfl, rfl⟩, trivial⟩, ⟨rfl, rfl, rows_same⟩, trivial⟩, rfl, ⟨rfl, rfl⟩, ⟨rfl, rfl⟩, ⟨rfl, rfl⟩, rfl, trivial⟩
      · replace h := iteF h g126
        conv => whnf
        refine CutK.norm [1, 5, 6, 7, 8, 54] [320, 384, 448, 1089000] ?_
        conv => whnf
        cases h
        exact Done.of [] [] rfl rfl ⟨⟨rfl, rfl⟩, ⟨rfl, trivial⟩, rfl, trivial⟩
def laws_FnNumbersCutOff_p4 (k : Nat) (a2 : Rw) (o13 : Rw) (o14 : Rw) (o15 : Rw) (v16 : Bool) : Option Bool :=
  (cond v16 ((spec_CutSurreal k o13 o14).bind fun y130 => (if y130.2 = true then (laws_FnNumbersCutOff_p5 k a2 o13 o14 o15 y130.1 true true) else (laws_FnNumbersCutOff_p5 k a2 o13 o14 o15 y130.1 false true))) ((spec_CutSurreal k o13 o14).bind fun y127 => (if y127.2 = true then (laws_FnNumbersCutOff_p5 k a2 o13 o14 o15 y127.1 true false) else (laws_FnNumbersCutOff_p5 k a2 o13 o14 o15 y127.1 false false))))
set_option maxHeartbeats 4000000 in
set_option maxRecDepth 100000 in
theorem laws_FnNumbersCutOff_p4_ct {k : Nat} {a2 : Rw} {o13 : Rw} {o14 : Rw} {o15 : Rw} {v16 : Bool} {r : Bool} (h : laws_FnNumbersCutOff_p4 k a2 o13 o14 o15 v16 = some r) : X prog 0 (tlF f3 4) (mk 143 [(1, .d (D.sl a2)), (5, .ptr 320 0), (6, .ptr 384 0), (7, .ptr 448 0), (8, .d (D.bool v16))] [(320, .box 26 [.d (D.sl o13)]), (384, .box 26 [.d (D.sl o14)]), (448, .box 26 [.os 1084000 o15.length]), (1084000, .arr 70 true o15)]) (finK prog f3 0 (.d (D.bool r)) (⟨[], []⟩)) := by
  rw [laws_FnNumbersCutOff_p4] at h
  cases v16
  · replace h := condF h
    conv => whnf
    refine Pick.no ?_
    conv => whnf
    obtain ⟨y127, e128, h⟩ := bind_ex h
    refine CallOk.of (spec_CutSurreal_ct e128) ?_
    conv => whnf
    refine spl (fun g129 => ?_) (fun g129 => ?_)
    · replace h := iteT h g129
      conv => whnf
      exact CutK.piece (laws_FnNumbersCutOff_p5_ct  h) [some 320, some 384, some 448, some 576, some 1084000, some 2752] [] ⟨⟨rfl, rfl⟩, ⟨rfl, ⟨rfl, rfl, trivial⟩, ⟨rfl, rfl, trivial⟩, ⟨rfl, ⟨rfl, rfl⟩, trivial⟩, ⟨rfl, ⟨rfl, rfl⟩, trivial⟩, ⟨rfl, rfl, rows_same⟩, ⟨rfl, rfl, rows_same⟩, trivial⟩, rfl, ⟨rfl, rfl⟩, ⟨rfl, rfl⟩, ⟨rfl, rfl⟩, rfl, ⟨rfl, rfl⟩, rfl, trivial⟩
    · replace h := iteF h g129
      conv => whnf
      exact CutK.piece (laws_FnNumbersCutOff_p5_ct  h) [some 320, some 384, some 448, some 576, some 1084000, some 2752] [] ⟨⟨rfl, rfl⟩, ⟨rfl, ⟨rfl, rfl, trivial⟩, ⟨rfl, rfl, trivial⟩, ⟨rfl, ⟨rfl, rfl⟩, trivial⟩, ⟨rfl, ⟨rfl, rfl⟩, trivial⟩, ⟨rfl, rfl, rows_same⟩, ⟨rfl, rfl, rows_same⟩, trivial⟩, rfl, ⟨rfl, rfl⟩, ⟨rfl, rfl⟩, ⟨rfl, rfl⟩, rfl, ⟨rfl, rfl⟩, rfl, trivial⟩
  · replace h := condT h
    conv => whnf
    refine Pick.no ?_
    conv => whnf
    obtain ⟨y130, e131, h⟩ := bind_ex h
    refine CallOk.of (spec_CutSurreal_ct e131) ?_
    conv => whnf
    refine spl (fun g132 => ?_) (fun g132 => ?_)
    · replace h := iteT h g132
      conv => whnf
      exact CutK.piece (laws_FnNumbersCutOff_p5_ct  h) [some 320, some 384, some 448, some 576, some 1084000, some 2752] [] ⟨⟨rfl, rfl⟩, ⟨rfl, ⟨rfl, rfl, trivial⟩, ⟨rfl, rfl, trivial⟩, ⟨rfl, ⟨rfl, rfl⟩, trivial⟩, ⟨rfl, ⟨rfl, rfl⟩, trivial⟩, ⟨rfl, rfl, rows_same⟩, ⟨rfl, rfl, rows_same⟩, trivial⟩, rfl, ⟨rfl, rfl⟩, ⟨rfl, rfl⟩, ⟨rfl, rfl⟩, rfl, ⟨rfl, rfl⟩, rfl, trivial⟩
    · replace h := iteF h g132
      conv => whnf
      exact CutK.piece (laws_FnNumbersCutOff_p5_ct  h) [some 320, some 384, some 448, some 576, some 1084000, some 2752] [] ⟨⟨rfl, rfl⟩, ⟨rfl, ⟨rfl, rfl, trivial⟩, ⟨rfl, rfl, trivial⟩, ⟨rfl, ⟨rfl, rfl⟩, trivial⟩, ⟨rfl, ⟨rfl, rfl⟩, trivial⟩, ⟨rfl, rfl, rows_same⟩, ⟨rfl, rfl, rows_same⟩, trivial⟩, rfl, ⟨rfl, rfl⟩, ⟨rfl, rfl⟩, ⟨rfl, rfl⟩, rfl, ⟨rfl, rfl⟩, rfl, trivial⟩
def laws_FnNumbersCutOff_p3 (k : Nat) (a2 : Rw) (o8 : Rw) (o9 : Rw) : Option Bool :=
  ((impl_CutSurreal k o8 o9).bind fun y133 => (if y133.2 = true then (laws_FnNumbersCutOff_p4 k a2 o8 o9 y133.1 true) else (laws_FnNumbersCutOff_p4 k a2 o8 o9 y133.1 false)))
set_option maxHeartbeats 4000000 in
set_option maxRecDepth 100000 in
theorem laws_FnNumbersCutOff_p3_ct {k : Nat} {a2 : Rw} {o8 : Rw} {o9 : Rw} {r : Bool} (h : laws_FnNumbersCutOff_p3 k a2 o8 o9 = some r) : X prog 0 (tlF f3 3) (mk 143 [(1, .d (D.sl a2)), (5, .ptr 320 0), (6, .ptr 384 0)] [(320, .box 26 [.d (D.sl o8)]), (384, .box 26 [.d (D.sl o9)])]) (finK prog f3 0 (.d (D.bool r)) (⟨[], []⟩)) := by
  rw [laws_FnNumbersCutOff_p3] at h
  conv => whnf
  refine Pick.no ?_
  conv => whnf
  obtain ⟨y133, e134, h⟩ := bind_ex h
  refine CallOk.of (impl_CutSurreal_ct e134) ?_
  conv => whnf
  refine spl (fun g135 => ?_) (fun g135 => ?_)
  · replace h := iteT h g135
    conv => whnf
    exact CutK.piece (laws_FnNumbersCutOff_p4_ct  h) [some 320, some 384, some 448, some 2368] [] ⟨⟨rfl, rfl⟩, ⟨rfl, ⟨rfl, rfl, trivial⟩, ⟨rfl, rfl, trivial⟩, ⟨rfl, ⟨rfl, rfl⟩, trivial⟩, ⟨rfl, rfl, rows_same⟩, trivial⟩, rfl, ⟨rfl, rfl⟩, ⟨rfl, rfl⟩, ⟨rfl, rfl⟩, rfl, trivial⟩
  · replace h := iteF h g135
    conv => whnf
    exact CutK.piece (laws_FnNumbersCutOff_p4_ct  h) [some 320, some 384, some 448, some 2368] [] ⟨⟨rfl, rfl⟩, ⟨rfl, ⟨rfl, rfl, trivial⟩, ⟨rfl, rfl, trivial⟩, ⟨rfl, ⟨rfl, rfl⟩, trivial⟩, ⟨rfl, rfl, rows_same⟩, trivial⟩, rfl, ⟨rfl, rfl⟩, ⟨rfl, rfl⟩, ⟨rfl, rfl⟩, rfl, trivial⟩
def laws_FnNumbersCutOff_p2 (k : Nat) (a1 : Rw) (a2 : Rw) : Option Bool :=
  ((spec_DrawCutSurreal k a1).bind fun y136 => (laws_FnNumbersCutOff_p3 k a2 y136.1 y136.2))
set_option maxHeartbeats 4000000 in
set_option maxRecDepth 100000 in
theorem laws_FnNumbersCutOff_p2_ct {k : Nat} {a1 : Rw} {a2 : Rw} {r : Bool} (h : laws_FnNumbersCutOff_p2 k a1 a2 = some r) : X prog 0 (tlF f3 2) (mk 143 [(0, .d (D.sl a1)), (1, .d (D.sl a2))] []) (finK prog f3 0 (.d (D.bool r)) (⟨[], []⟩)) := by
  rw [laws_FnNumbersCutOff_p2] at h
  conv => whnf
  refine Pick.no ?_
  conv => whnf
  obtain ⟨y136, e137, h⟩ := bind_ex h
  refine CallOk.of (spec_DrawCutSurreal_ct e137) ?_
  conv => whnf
  exact CutK.piece (laws_FnNumbersCutOff_p3_ct  h) [some 320, some 384] [] ⟨⟨rfl, rfl⟩, ⟨rfl, ⟨rfl, rfl, trivial⟩, ⟨rfl, rfl, trivial⟩, trivial⟩, rfl, ⟨rfl, rfl⟩, ⟨rfl, rfl⟩, trivial⟩
def laws_FnNumbersCutOff (k : Nat) (a1 : Rw) (a2 : Rw) : Option Bool :=
  ((laws_big a1 a2).bind fun y138 => (if y138 = true then some true else (laws_FnNumbersCutOff_p2 k a1 a2)))
set_option maxHeartbeats 4000000 in
set_option maxRecDepth 100000 in
theorem laws_FnNumbersCutOff_ct {k : Nat} {a1 : Rw} {a2 : Rw} {r : Bool} (h : laws_FnNumbersCutOff k a1 a2 = some r) : Ct prog 3 [.d (D.sl a1), .d (D.sl a2)] (⟨[], []⟩) (.d (D.bool r)) (⟨[], []⟩) := by
  rw [laws_FnNumbersCutOff] at h
  refine Ct.of (c := _) mixed func3 ⟨rfl, rfl, rfl⟩ ?_ rfl
  conv => whnf
  refine Pick.no ?_
  conv => whnf
  obtain ⟨y138, e139, h⟩ := bind_ex h
  refine CallOk.of (laws_big_ct e139) ?_
  conv => whnf
  refine spl (fun g140 => ?_) (fun g140 => ?_)
  · replace h := iteT h g140
    conv => whnf
    refine CutK.norm [0, 1, 28] [] ?_
    conv => whnf
    cases h
    exact Done.of [] [] rfl rfl ⟨⟨rfl, rfl⟩, ⟨rfl, trivial⟩, rfl, trivial⟩
  · replace h := iteF h g140
    conv => whnf
    refine CutK.norm [0, 1, 28] [] ?_
    conv => whnf
    exact CutK.piece (laws_FnNumbersCutOff_p2_ct  h) [] [] ⟨⟨rfl, rfl⟩, ⟨rfl, trivial⟩, rfl, rfl, trivial⟩
end
end Go.Proofs.Try
