/- Printed by program (axgen): pure functions, and that the Go functions compute them. -/
import Derived.Test.YthpgpgkigkobbaaDlG0
set_option linter.unusedVariables false
set_option linter.unusedSimpArgs false
namespace Go.Proofs.Try
open Go Go.AX
noncomputable section
def laws_FnDescentsLower_p12 (o62 : Int) (o63 : Int) (o64 : Int) (o65 : Int) (o66 : Int) (v67 : Bool) (v71 : Bool) : Option Bool :=
  (cond v67 (cond v71 (if o65 < (0 : Int) then (if o66 = o63 then (if o62 ≤ o63 then (if o62 ≤ o64 then some true else some false) else some false) else some false) else some false) (some false)) (cond v71 (some false) (some false)))
set_option maxHeartbeats 4000000 in
set_option maxRecDepth 100000 in
theorem laws_FnDescentsLower_p12_ct {o62 : Int} {o63 : Int} {o64 : Int} {o65 : Int} {o66 : Int} {v67 : Bool} {v71 : Bool} {r : Bool} (h : laws_FnDescentsLower_p12 o62 o63 o64 o65 o66 v67 v71 = some r) : X prog 0 (tlF f4 12) (mk 118 [(6, .d (D.int .i64 o62)), (8, .d (D.int .i64 o63)), (13, .d (D.int .i64 o64)), (15, .d (D.int .i64 o65)), (16, .d (D.bool v71)), (17, .d (D.int .i64 o66)), (18, .d (D.bool v67))] []) (finK prog f4 0 (.d (D.bool r)) (⟨[], []⟩)) := by
  rw [laws_FnDescentsLower_p12] at h
  cases v67
  · replace h := condF h
    cases v71
    · replace h := condF h
      conv => whnf
      cases h
      exact Done.of [] [] rfl rfl ⟨⟨rfl, rfl⟩, ⟨rfl, trivial⟩, rfl, trivial⟩
    · replace h := condT h
      conv => whnf
      cases h
      exact Done.of [] [] rfl rfl ⟨⟨rfl, rfl⟩, ⟨rfl, trivial⟩, rfl, trivial⟩
  · replace h := condT h
    cases v71
    · replace h := condF h
      conv => whnf
      cases h
      exact Done.of [] [] rfl rfl ⟨⟨rfl, rfl⟩, ⟨rfl, trivial⟩, rfl, trivial⟩
    · replace h := condT h
      conv => whnf
      refine splD (fun g76 => ?_) (fun g76 => ?_)
      · replace h := iteP h g76
        conv => whnf
        refine splD (fun g77 => ?_) (fun g77 => ?_)
        · replace h := iteP h g77
          conv => whnf
          refine splD (fun g78 => ?_) (fun g78 => ?_)
          · replace h := iteP h g78
            conv => whnf
            refine splD (fun g79 => ?_) (fun g79 => ?_)
            · replace h := iteP h g79
              conv => whnf
              cases h
              exact Done.of [] [] rfl rfl ⟨⟨rfl, rfl⟩, ⟨rfl, trivial⟩, rfl, trivial⟩
            · replace h := iteN h g79
              conv => whnf
              cases h
              exact Done.of [] [] rfl rfl ⟨⟨rfl, rfl⟩, ⟨rfl, trivial⟩, rfl, trivial⟩
          · replace h := iteN h g78
            conv => whnf
            cases h
            exact Done.of [] [] rfl rfl ⟨⟨rfl, rfl⟩, ⟨rfl, trivial⟩, rfl, trivial⟩
        · replace h := iteN h g77
          conv => whnf
          cases h
          exact Done.of [] [] rfl rfl ⟨⟨rfl, rfl⟩, ⟨rfl, trivial⟩, rfl, trivial⟩
      · replace h := iteN h g76
        conv => whnf
        cases h
        exact Done.of [] [] rfl rfl ⟨⟨rfl, rfl⟩, ⟨rfl, trivial⟩, rfl, trivial⟩
def laws_FnDescentsLower_p11 (k : Nat) (o52 : Int) (o53 : Int) (o54 : Int) (o55 : Int) (o56 : Int) (o57 : Rw) (v58 : Bool) : Option Bool :=
  (cond v58 ((impl_HardyValue k o57 o55 (IntKind.i64.wrap (o53 - 1))).bind fun y83 => (if y83.2 = true then (laws_FnDescentsLower_p12 o52 o54 o55 o56 y83.1 true true) else (laws_FnDescentsLower_p12 o52 o54 o55 o56 y83.1 false true))) ((impl_HardyValue k o57 o55 (IntKind.i64.wrap (o53 - 1))).bind fun y80 => (if y80.2 = true then (laws_FnDescentsLower_p12 o52 o54 o55 o56 y80.1 true false) else (laws_FnDescentsLower_p12 o52 o54 o55 o56 y80.1 false false))))
set_option maxHeartbeats 4000000 in
set_option maxRecDepth 100000 in
theorem laws_FnDescentsLower_p11_ct {k : Nat} {o52 : Int} {o53 : Int} {o54 : Int} {o55 : Int} {o56 : Int} {o57 : Rw} {v58 : Bool} {r : Bool} (h : laws_FnDescentsLower_p11 k o52 o53 o54 o55 o56 o57 v58 = some r) : X prog 0 (tlF f4 11) (mk 118 [(6, .d (D.int .i64 o52)), (7, .d (D.int .i64 o53)), (8, .d (D.int .i64 o54)), (12, .ptr 768 0), (13, .d (D.int .i64 o55)), (15, .d (D.int .i64 o56)), (16, .d (D.bool v58))] [(768, .box 28 [.os 1119000 o57.length]), (1119000, .arr 77 true o57)]) (finK prog f4 0 (.d (D.bool r)) (⟨[], []⟩)) := by
  rw [laws_FnDescentsLower_p11] at h
  cases v58
  · replace h := condF h
    conv => whnf
    refine Take.all (rfl) ?_
    conv => whnf
    obtain ⟨y80, e81, h⟩ := bind_ex h
    refine CallOk.of (impl_HardyValue_ct e81) ?_
    conv => whnf
    refine spl (fun g82 => ?_) (fun g82 => ?_)
    · replace h := iteT h g82
      conv => whnf
      exact CutK.piece (laws_FnDescentsLower_p12_ct  h) [] [] ⟨⟨rfl, rfl⟩, ⟨rfl, trivial⟩, rfl, rfl, rfl, rfl, rfl, rfl, rfl, trivial⟩
    · replace h := iteF h g82
      conv => whnf
      exact CutK.piece (laws_FnDescentsLower_p12_ct  h) [] [] ⟨⟨rfl, rfl⟩, ⟨rfl, trivial⟩, rfl, rfl, rfl, rfl, rfl, rfl, rfl, trivial⟩
  · replace h := condT h
    conv => whnf
    refine Take.all (rfl) ?_
    conv => whnf
    obtain ⟨y83, e84, h⟩ := bind_ex h
    refine CallOk.of (impl_HardyValue_ct e84) ?_
    conv => whnf
    refine spl (fun g85 => ?_) (fun g85 => ?_)
    · replace h := iteT h g85
      conv => whnf
      exact CutK.piece (laws_FnDescentsLower_p12_ct  h) [] [] ⟨⟨rfl, rfl⟩, ⟨rfl, trivial⟩, rfl, rfl, rfl, rfl, rfl, rfl, rfl, trivial⟩
    · replace h := iteF h g85
      conv => whnf
      exact CutK.piece (laws_FnDescentsLower_p12_ct  h) [] [] ⟨⟨rfl, rfl⟩, ⟨rfl, trivial⟩, rfl, rfl, rfl, rfl, rfl, rfl, rfl, trivial⟩
def laws_FnDescentsLower_p8 (k : Nat) (o37 : Int) (o38 : Int) (o39 : Int) (o40 : Int) (o41 : Rw) (o42 : Rw) (v43 : Bool) : Option Bool :=
  (cond v43 (if (1000 : Int) < o40 then (if (o42.length : Int) = (0 : Int) then (if o39 = o40 then some true else some false) else some false) else ((impl_CompareOrdinals k o42 o41).bind fun y91 => (if y91.2 = true then (laws_FnDescentsLower_p11 k o37 o38 o39 o40 y91.1 o42 true) else (laws_FnDescentsLower_p11 k o37 o38 o39 o40 y91.1 o42 false)))) (if (o41.length : Int) = (0 : Int) then (if o39 = o37 then some true else some false) else some false))
set_option maxHeartbeats 4000000 in
set_option maxRecDepth 100000 in
theorem laws_FnDescentsLower_p8_ct {k : Nat} {o37 : Int} {o38 : Int} {o39 : Int} {o40 : Int} {o41 : Rw} {o42 : Rw} {v43 : Bool} {r : Bool} (h : laws_FnDescentsLower_p8 k o37 o38 o39 o40 o41 o42 v43 = some r) : X prog 0 (tlF f4 8) (mk 118 [(5, .ptr 320 0), (6, .d (D.int .i64 o37)), (7, .d (D.int .i64 o38)), (8, .d (D.int .i64 o39)), (12, .ptr 768 0), (13, .d (D.int .i64 o40)), (14, .d (D.bool v43))] [(320, .box 28 [.d (D.sl o41)]), (768, .box 28 [.os 1104000 o42.length]), (1104000, .arr 77 true o42)]) (finK prog f4 0 (.d (D.bool r)) (⟨[], []⟩)) := by
  rw [laws_FnDescentsLower_p8] at h
  cases v43
  · replace h := condF h
    conv => whnf
    refine splD (fun g86 => ?_) (fun g86 => ?_)
    · replace h := iteP h g86
      conv => whnf
      refine splD (fun g87 => ?_) (fun g87 => ?_)
      · replace h := iteP h g87
        conv => whnf
        cases h
        exact Done.of [] [] rfl rfl ⟨⟨rfl, rfl⟩, ⟨rfl, trivial⟩, rfl, trivial⟩
      · replace h := iteN h g87
        conv => whnf
        cases h
        exact Done.of [] [] rfl rfl ⟨⟨rfl, rfl⟩, ⟨rfl, trivial⟩, rfl, trivial⟩
    · replace h := iteN h g86
      conv => whnf
      cases h
      exact Done.of [] [] rfl rfl ⟨⟨rfl, rfl⟩, ⟨rfl, trivial⟩, rfl, trivial⟩
  · replace h := condT h
    conv => whnf
    refine splD (fun g88 => ?_) (fun g88 => ?_)
    · replace h := iteP h g88
      conv => whnf
      refine splD (fun g89 => ?_) (fun g89 => ?_)
      · replace h := iteP h g89
        conv => whnf
        refine splD (fun g90 => ?_) (fun g90 => ?_)
        · replace h := iteP h g90
          conv => whnf
          cases h
          exact Done.of [] [] rfl rfl ⟨⟨rfl, rfl⟩, ⟨rfl, trivial⟩, rfl, trivial⟩
        · replace h := iteN h g90
          conv => whnf
          cases h
          exact Done.of [] [] rfl rfl ⟨⟨rfl, rfl⟩, ⟨rfl, trivial⟩, rfl, trivial⟩
      · replace h := iteN h g89
        conv => whnf
        cases h
        exact Done.of [] [] rfl rfl ⟨⟨rfl, rfl⟩, ⟨rfl, trivial⟩, rfl, trivial⟩
    · replace h := iteN h g88
      conv => whnf
      refine Take.all (rfl) ?_
      conv => whnf
      obtain ⟨y91, e92, h⟩ := bind_ex h
      refine CallOk.of (impl_CompareOrdinals_ct e92) ?_
      conv => whnf
      refine spl (fun g93 => ?_) (fun g93 => ?_)
      · replace h := iteT h g93
        conv => whnf
        exact CutK.piece (laws_FnDescentsLower_p11_ct  h) [some 768, some 1104000] [] ⟨⟨rfl, rfl⟩, ⟨rfl, ⟨rfl, ⟨rfl, rfl⟩, trivial⟩, ⟨rfl, rfl, rows_same⟩, trivial⟩, rfl, rfl, rfl, ⟨rfl, rfl⟩, rfl, rfl, rfl, trivial⟩
      · replace h := iteF h g93
        conv => whnf
        exact CutK.piece (laws_FnDescentsLower_p11_ct  h) [some 768, some 1104000] [] ⟨⟨rfl, rfl⟩, ⟨rfl, ⟨rfl, ⟨rfl, rfl⟩, trivial⟩, ⟨rfl, rfl, rows_same⟩, trivial⟩, rfl, rfl, rfl, ⟨rfl, rfl⟩, rfl, rfl, rfl, trivial⟩
def laws_FnDescentsLower_p5 (k : Nat) (o22 : Int) (o23 : Int) (o24 : Int) (o25 : Int) (o26 : Rw) (v27 : Bool) (v31 : Bool) : Option Bool :=
  (cond v27 (cond v31 (if o24 = o25 then ((impl_DescendOnce k o26 o22).bind fun y96 => (if y96.2.2 = true then (laws_FnDescentsLower_p8 k o22 o23 o24 y96.2.1 o26 y96.1 true) else (laws_FnDescentsLower_p8 k o22 o23 o24 y96.2.1 o26 y96.1 false))) else some false) (some false)) (cond v31 (some false) (if o24 = o25 then some true else some false)))
set_option maxHeartbeats 4000000 in
set_option maxRecDepth 100000 in
theorem laws_FnDescentsLower_p5_ct {k : Nat} {o22 : Int} {o23 : Int} {o24 : Int} {o25 : Int} {o26 : Rw} {v27 : Bool} {v31 : Bool} {r : Bool} (h : laws_FnDescentsLower_p5 k o22 o23 o24 o25 o26 v27 v31 = some r) : X prog 0 (tlF f4 5) (mk 118 [(5, .ptr 320 0), (6, .d (D.int .i64 o22)), (7, .d (D.int .i64 o23)), (8, .d (D.int .i64 o24)), (9, .d (D.bool v31)), (10, .d (D.int .i64 o25)), (11, .d (D.bool v27))] [(320, .box 28 [.d (D.sl o26)])]) (finK prog f4 0 (.d (D.bool r)) (⟨[], []⟩)) := by
  rw [laws_FnDescentsLower_p5] at h
  cases v27
  · replace h := condF h
    cases v31
    · replace h := condF h
      conv => whnf
      refine splF ?_
      conv => whnf
      refine splN (fun g94 => ?_) (fun g94 => ?_)
      · replace h := iteN h g94
        conv => whnf
        cases h
        exact Done.of [] [] rfl rfl ⟨⟨rfl, rfl⟩, ⟨rfl, trivial⟩, rfl, trivial⟩
      · replace h := iteP h g94
        conv => whnf
        cases h
        exact Done.of [] [] rfl rfl ⟨⟨rfl, rfl⟩, ⟨rfl, trivial⟩, rfl, trivial⟩
    · replace h := condT h
      conv => whnf
      refine splT ?_
      conv => whnf
      cases h
      exact Done.of [] [] rfl rfl ⟨⟨rfl, rfl⟩, ⟨rfl, trivial⟩, rfl, trivial⟩
  · replace h := condT h
    cases v31
    · replace h := condF h
      conv => whnf
      refine splT ?_
      conv => whnf
      cases h
      exact Done.of [] [] rfl rfl ⟨⟨rfl, rfl⟩, ⟨rfl, trivial⟩, rfl, trivial⟩
    · replace h := condT h
      conv => whnf
      refine splF ?_
      conv => whnf
      refine splN (fun g95 => ?_) (fun g95 => ?_)
      · replace h := iteN h g95
        conv => whnf
        cases h
        exact Done.of [] [] rfl rfl ⟨⟨rfl, rfl⟩, ⟨rfl, trivial⟩, rfl, trivial⟩
      · replace h := iteP h g95
        conv => whnf
        obtain ⟨y96, e97, h⟩ := bind_ex h
        refine CallOk.of (impl_DescendOnce_ct e97) ?_
        conv => whnf
        refine spl (fun g98 => ?_) (fun g98 => ?_)
        · replace h := iteT h g98
          conv => whnf
          exact CutK.piece (laws_FnDescentsLower_p8_ct  h) [some 320, some 768, some 3520] [] ⟨⟨rfl, rfl⟩, ⟨rfl, ⟨rfl, rfl, trivial⟩, ⟨rfl, ⟨rfl, rfl⟩, trivial⟩, ⟨rfl, rfl, rows_same⟩, trivial⟩, ⟨rfl, rfl⟩, rfl, rfl, rfl, ⟨rfl, rfl⟩, rfl, rfl, trivial⟩
        · replace h := iteF h g98
          conv => whnf
          exact CutK.piece (laws_FnDescentsLower_p8_ct  h) [some 320, some 768, some 3520] [] ⟨⟨rfl, rfl⟩, ⟨rfl, ⟨rfl, rfl, trivial⟩, ⟨rfl, ⟨rfl, rfl⟩, trivial⟩, ⟨rfl, rfl, rows_same⟩, trivial⟩, ⟨rfl, rfl⟩, rfl, rfl, rfl, ⟨rfl, rfl⟩, rfl, rfl, trivial⟩
def laws_FnDescentsLower_p4 (k : Nat) (o14 : Int) (o15 : Int) (o16 : Int) (o17 : Rw) (v18 : Bool) : Option Bool :=
  (cond v18 ((spec_HardyValue k o17 o14 o15).bind fun y102 => (if y102.2 = true then (laws_FnDescentsLower_p5 k o14 o15 o16 y102.1 o17 true true) else (laws_FnDescentsLower_p5 k o14 o15 o16 y102.1 o17 false true))) ((spec_HardyValue k o17 o14 o15).bind fun y99 => (if y99.2 = true then (laws_FnDescentsLower_p5 k o14 o15 o16 y99.1 o17 true false) else (laws_FnDescentsLower_p5 k o14 o15 o16 y99.1 o17 false false))))
set_option maxHeartbeats 4000000 in
set_option maxRecDepth 100000 in
theorem laws_FnDescentsLower_p4_ct {k : Nat} {o14 : Int} {o15 : Int} {o16 : Int} {o17 : Rw} {v18 : Bool} {r : Bool} (h : laws_FnDescentsLower_p4 k o14 o15 o16 o17 v18 = some r) : X prog 0 (tlF f4 4) (mk 118 [(5, .ptr 320 0), (6, .d (D.int .i64 o14)), (7, .d (D.int .i64 o15)), (8, .d (D.int .i64 o16)), (9, .d (D.bool v18))] [(320, .box 28 [.d (D.sl o17)])]) (finK prog f4 0 (.d (D.bool r)) (⟨[], []⟩)) := by
  rw [laws_FnDescentsLower_p4] at h
  cases v18
  · replace h := condF h
    conv => whnf
    obtain ⟨y99, e100, h⟩ := bind_ex h
    refine CallOk.of (spec_HardyValue_ct e100) ?_
    conv => whnf
    refine spl (fun g101 => ?_) (fun g101 => ?_)
    · replace h := iteT h g101
      conv => whnf
      exact CutK.piece (laws_FnDescentsLower_p5_ct  h) [some 320] [] ⟨⟨rfl, rfl⟩, ⟨rfl, ⟨rfl, rfl, trivial⟩, trivial⟩, ⟨rfl, rfl⟩, rfl, rfl, rfl, rfl, rfl, rfl, trivial⟩
    · replace h := iteF h g101
      conv => whnf
      exact CutK.piece (laws_FnDescentsLower_p5_ct  h) [some 320] [] ⟨⟨rfl, rfl⟩, ⟨rfl, ⟨rfl, rfl, trivial⟩, trivial⟩, ⟨rfl, rfl⟩, rfl, rfl, rfl, rfl, rfl, rfl, trivial⟩
  · replace h := condT h
    conv => whnf
    obtain ⟨y102, e103, h⟩ := bind_ex h
    refine CallOk.of (spec_HardyValue_ct e103) ?_
    conv => whnf
    refine spl (fun g104 => ?_) (fun g104 => ?_)
    · replace h := iteT h g104
      conv => whnf
      exact CutK.piece (laws_FnDescentsLower_p5_ct  h) [some 320] [] ⟨⟨rfl, rfl⟩, ⟨rfl, ⟨rfl, rfl, trivial⟩, trivial⟩, ⟨rfl, rfl⟩, rfl, rfl, rfl, rfl, rfl, rfl, trivial⟩
    · replace h := iteF h g104
      conv => whnf
      exact CutK.piece (laws_FnDescentsLower_p5_ct  h) [some 320] [] ⟨⟨rfl, rfl⟩, ⟨rfl, ⟨rfl, rfl, trivial⟩, trivial⟩, ⟨rfl, rfl⟩, rfl, rfl, rfl, rfl, rfl, rfl, trivial⟩
def laws_FnDescentsLower_p3 (k : Nat) (o8 : Int) (o9 : Int) (o10 : Rw) : Option Bool :=
  ((impl_HardyValue k o10 o8 o9).bind fun y105 => (if y105.2 = true then (laws_FnDescentsLower_p4 k o8 o9 y105.1 o10 true) else (laws_FnDescentsLower_p4 k o8 o9 y105.1 o10 false)))
set_option maxHeartbeats 4000000 in
set_option maxRecDepth 100000 in
theorem laws_FnDescentsLower_p3_ct {k : Nat} {o8 : Int} {o9 : Int} {o10 : Rw} {r : Bool} (h : laws_FnDescentsLower_p3 k o8 o9 o10 = some r) : X prog 0 (tlF f4 3) (mk 118 [(5, .ptr 320 0), (6, .d (D.int .i64 o8)), (7, .d (D.int .i64 o9))] [(320, .box 28 [.d (D.sl o10)])]) (finK prog f4 0 (.d (D.bool r)) (⟨[], []⟩)) := by
  rw [laws_FnDescentsLower_p3] at h
  conv => whnf
  obtain ⟨y105, e106, h⟩ := bind_ex h
  refine CallOk.of (impl_HardyValue_ct e106) ?_
  conv => whnf
  refine spl (fun g107 => ?_) (fun g107 => ?_)
  · replace h := iteT h g107
    conv => whnf
    exact CutK.piece (laws_FnDescentsLower_p4_ct  h) [some 320] [] ⟨⟨rfl, rfl⟩, ⟨rfl, ⟨rfl, rfl, trivial⟩, trivial⟩, ⟨rfl, rfl⟩, rfl, rfl, rfl, rfl, trivial⟩
  · replace h := iteF h g107
    conv => whnf
    exact CutK.piece (laws_FnDescentsLower_p4_ct  h) [some 320] [] ⟨⟨rfl, rfl⟩, ⟨rfl, ⟨rfl, rfl, trivial⟩, trivial⟩, ⟨rfl, rfl⟩, rfl, rfl, rfl, rfl, trivial⟩
def laws_FnDescentsLower_p2 (k : Nat) (a1 : Rw) : Option Bool :=
  ((spec_DrawHardyValue k a1).bind fun y108 => (laws_FnDescentsLower_p3 k y108.2.1 y108.2.2 y108.1))
set_option maxHeartbeats 4000000 in
set_option maxRecDepth 100000 in
theorem laws_FnDescentsLower_p2_ct {k : Nat} {a1 : Rw} {r : Bool} (h : laws_FnDescentsLower_p2 k a1 = some r) : X prog 0 (tlF f4 2) (mk 118 [(0, .d (D.sl a1))] []) (finK prog f4 0 (.d (D.bool r)) (⟨[], []⟩)) := by
  rw [laws_FnDescentsLower_p2] at h
  conv => whnf
  obtain ⟨y108, e109, h⟩ := bind_ex h
  refine CallOk.of (spec_DrawHardyValue_ct e109) ?_
  conv => whnf
  exact CutK.piece (laws_FnDescentsLower_p3_ct  h) [some 320] [] ⟨⟨rfl, rfl⟩, ⟨rfl, ⟨rfl, rfl, trivial⟩, trivial⟩, ⟨rfl, rfl⟩, rfl, rfl, trivial⟩
def laws_FnDescentsLower (k : Nat) (a1 : Rw) (a2 : Rw) : Option Bool :=
  ((laws_big a1 a2).bind fun y110 => (if y110 = true then some true else (laws_FnDescentsLower_p2 k a1)))
set_option maxHeartbeats 4000000 in
set_option maxRecDepth 100000 in
theorem laws_FnDescentsLower_ct {k : Nat} {a1 : Rw} {a2 : Rw} {r : Bool} (h : laws_FnDescentsLower k a1 a2 = some r) : Ct prog 4 [.d (D.sl a1), .d (D.sl a2)] (⟨[], []⟩) (.d (D.bool r)) (⟨[], []⟩) := by
  rw [laws_FnDescentsLower] at h
  refine Ct.of (c := _) mixed func4 ⟨rfl, rfl, rfl⟩ ?_ rfl
  conv => whnf
  obtain ⟨y110, e111, h⟩ := bind_ex h
  refine CallOk.of (laws_big_ct e111) ?_
  conv => whnf
  refine spl (fun g112 => ?_) (fun g112 => ?_)
  · replace h := iteT h g112
    conv => whnf
    refine CutK.norm [0, 21] [] ?_
    conv => whnf
    cases h
    exact Done.of [] [] rfl rfl ⟨⟨rfl, rfl⟩, ⟨rfl, trivial⟩, rfl, trivial⟩
  · replace h := iteF h g112
    conv => whnf
    refine CutK.norm [0, 21] [] ?_
    conv => whnf
    exact CutK.piece (laws_FnDescentsLower_p2_ct  h) [] [] ⟨⟨rfl, rfl⟩, ⟨rfl, trivial⟩, rfl, trivial⟩
end
end Go.Proofs.Try
