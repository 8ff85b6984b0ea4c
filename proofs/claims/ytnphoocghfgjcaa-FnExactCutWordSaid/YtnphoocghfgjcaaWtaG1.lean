/- Printed by program (axgen): pure functions, and that the Go functions compute them. -/
import Derived.Test.YtnphoocghfgjcaaWtaG0
set_option linter.unusedVariables false
set_option linter.unusedSimpArgs false
namespace Go.Proofs.Try
open Go Go.AX
noncomputable section
def laws_FnExactLetterAt_p13  : Option Bool :=
  some true
set_option maxHeartbeats 4000000 in
set_option maxRecDepth 100000 in
theorem laws_FnExactLetterAt_p13_ct  {r : Bool} (h : laws_FnExactLetterAt_p13 = some r) : X prog 0 (tlF f6 13) (mk 58 [] []) (finK prog f6 0 (.d (D.bool r)) (⟨[], []⟩)) := by
  rw [laws_FnExactLetterAt_p13] at h
  conv => whnf
  cases h
  exact Done.of [] [] rfl rfl ⟨⟨rfl, rfl⟩, ⟨rfl, trivial⟩, rfl, trivial⟩
def laws_FnExactLetterAt_p12 (k : Nat) (a2 : Rw) (o53 : Rw) : Option Bool :=
  ((laws_toOrdinal k a2).bind fun y67 => ((laws_eqOrdinal k o53 y67).bind fun y69 => (if y69 = true then (laws_FnExactLetterAt_p13) else some false)))
set_option maxHeartbeats 4000000 in
set_option maxRecDepth 100000 in
theorem laws_FnExactLetterAt_p12_ct {k : Nat} {a2 : Rw} {o53 : Rw} {r : Bool} (h : laws_FnExactLetterAt_p12 k a2 o53 = some r) : X prog 0 (tlF f6 12) (mk 58 [(3, .ptr 192 0), (9, .ptr 576 0)] [(192, .box 49 [.d (D.sl a2)]), (576, .box 28 [.os 1124000 o53.length]), (1124000, .arr 119 true o53)]) (finK prog f6 0 (.d (D.bool r)) (⟨[], []⟩)) := by
  rw [laws_FnExactLetterAt_p12] at h
  conv => whnf
  obtain ⟨y67, e68, h⟩ := bind_ex h
  refine CallOk.of (laws_toOrdinal_ct e68) ?_
  conv => whnf
  refine Take.all (rfl) ?_
  conv => whnf
  refine Take.all (rfl) ?_
  conv => whnf
  obtain ⟨y69, e70, h⟩ := bind_ex h
  refine CallOk.of (laws_eqOrdinal_ct e70) ?_
  conv => whnf
  refine spl (fun g71 => ?_) (fun g71 => ?_)
  · replace h := iteT h g71
    conv => whnf
    refine CutK.norm [57] [] ?_
    conv => whnf
    exact CutK.piece (laws_FnExactLetterAt_p13_ct  h) [] [] ⟨⟨rfl, rfl⟩, ⟨rfl, trivial⟩, trivial⟩
  · replace h := iteF h g71
    conv => whnf
    refine CutK.norm [57] [] ?_
    conv => whnf
    cases h
    exact Done.of [] [] rfl rfl ⟨⟨rfl, rfl⟩, ⟨rfl, trivial⟩, rfl, trivial⟩
def laws_FnExactLetterAt_p10 (k : Nat) (a1 : Rw) (a2 : Rw) (o38 : Int) (o39 : Int) (o40 : Rw) (o41 : Rw) (v42 : Bool) (v46 : Bool) : Option Bool :=
  (cond v42 (cond v46 (if o39 = o38 then ((laws_toWord k a1).bind fun y81 => ((laws_eqWord k o40 y81).bind fun y83 => (if y83 = true then (laws_FnExactLetterAt_p12 k a2 o41) else some false))) else some false) (if o39 = o38 then some false else some false)) (cond v46 (if o39 = o38 then some false else some false) (if o39 = o38 then ((laws_toWord k a1).bind fun y73 => ((laws_eqWord k o40 y73).bind fun y75 => (if y75 = true then (laws_FnExactLetterAt_p12 k a2 o41) else some false))) else some false)))
set_option maxHeartbeats 4000000 in
set_option maxRecDepth 100000 in
theorem laws_FnExactLetterAt_p10_ct {k : Nat} {a1 : Rw} {a2 : Rw} {o38 : Int} {o39 : Int} {o40 : Rw} {o41 : Rw} {v42 : Bool} {v46 : Bool} {r : Bool} (h : laws_FnExactLetterAt_p10 k a1 a2 o38 o39 o40 o41 v42 v46 = some r) : X prog 0 (tlF f6 10) (mk 58 [(2, .ptr 128 0), (3, .ptr 192 0), (6, .d (D.int .i64 o38)), (7, .d (D.bool v46)), (8, .ptr 512 0), (9, .ptr 576 0), (10, .d (D.int .i64 o39)), (11, .d (D.bool v42))] [(128, .box 46 [.d (D.sl a1)]), (192, .box 49 [.d (D.sl a2)]), (512, .box 56 [.os 1114000 o40.length]), (576, .box 28 [.os 1114001 o41.length]), (1114000, .arr 111 true o40), (1114001, .arr 119 true o41)]) (finK prog f6 0 (.d (D.bool r)) (⟨[], []⟩)) := by
  rw [laws_FnExactLetterAt_p10] at h
  cases v42
  · replace h := condF h
    cases v46
    · replace h := condF h
      conv => whnf
      refine splN (fun g72 => ?_) (fun g72 => ?_)
      · replace h := iteN h g72
        conv => whnf
        cases h
        exact Done.of [] [] rfl rfl ⟨⟨rfl, rfl⟩, ⟨rfl, trivial⟩, rfl, trivial⟩
      · replace h := iteP h g72
        conv => whnf
        refine splF ?_
        conv => whnf
        obtain ⟨y73, e74, h⟩ := bind_ex h
        refine CallOk.of (laws_toWord_ct e74) ?_
        conv => whnf
        refine Take.all (rfl) ?_
        conv => whnf
        refine Take.all (rfl) ?_
        conv => whnf
        obtain ⟨y75, e76, h⟩ := bind_ex h
        refine CallOk.of (laws_eqWord_ct e76) ?_
        conv => whnf
        refine spl (fun g77 => ?_) (fun g77 => ?_)
        · replace h := iteT h g77
          conv => whnf
          refine CutK.norm [3, 9, 52] [192, 576, 1114001] ?_
          conv => whnf
          exact CutK.piece (laws_FnExactLetterAt_p12_ct  h) [some 192, some 576, some 1114001] [] ⟨⟨rfl, rfl⟩, ⟨rfl, ⟨rfl, rfl, trivial⟩, ⟨rfl, ⟨rfl, rfl⟩, trivial⟩, ⟨rfl, rfl, rows_same⟩, trivial⟩, ⟨rfl, rfl⟩, ⟨rfl, rfl⟩, trivial⟩
        · replace h := iteF h g77
          conv => whnf
          refine CutK.norm [3, 9, 52] [192, 576, 1114001] ?_
          conv => whnf
          cases h
          exact Done.of [] [] rfl rfl ⟨⟨rfl, rfl⟩, ⟨rfl, trivial⟩, rfl, trivial⟩
    · replace h := condT h
      conv => whnf
      refine splN (fun g78 => ?_) (fun g78 => ?_)
      · replace h := iteN h g78
        conv => whnf
        cases h
        exact Done.of [] [] rfl rfl ⟨⟨rfl, rfl⟩, ⟨rfl, trivial⟩, rfl, trivial⟩
      · replace h := iteP h g78
        conv => whnf
        refine splT ?_
        conv => whnf
        cases h
        exact Done.of [] [] rfl rfl ⟨⟨rfl, rfl⟩, ⟨rfl, trivial⟩, rfl, trivial⟩
  · replace h := condT h
    cases v46
    · replace h := condF h
      conv => whnf
      refine splN (fun g79 => ?_) (fun g79 => ?_)
      · replace h := iteN h g79
        conv => whnf
        cases h
        exact Done.of [] [] rfl rfl ⟨⟨rfl, rfl⟩, ⟨rfl, trivial⟩, rfl, trivial⟩
      · replace h := iteP h g79
        conv => whnf
        refine splT ?_
        conv => whnf
        cases h
        exact Done.of [] [] rfl rfl ⟨⟨rfl, rfl⟩, ⟨rfl, trivial⟩, rfl, trivial⟩
    · replace h := condT h
      conv => whnf
      refine splN (fun g80 => ?_) (fun g80 => ?_)
      · replace h := iteN h g80
        conv => whnf
        cases h
        exact Done.of [] [] rfl rfl ⟨⟨rfl, rfl⟩, ⟨rfl, trivial⟩, rfl, trivial⟩
      · replace h := iteP h g80
        conv => whnf
        refine splF ?_
        conv => whnf
        obtain ⟨y81, e82, h⟩ := bind_ex h
        refine CallOk.of (laws_toWord_ct e82) ?_
        conv => whnf
        refine Take.all (rfl) ?_
        conv => whnf
        refine Take.all (rfl) ?_
        conv => whnf
        obtain ⟨y83, e84, h⟩ := bind_ex h
        refine CallOk.of (laws_eqWord_ct e84) ?_
        conv => whnf
        refine spl (fun g85 => ?_) (fun g85 => ?_)
        · replace h := iteT h g85
          conv => whnf
          refine CutK.norm [3, 9, 52] [192, 576, 1114001] ?_
          conv => whnf
          exact CutK.piece (laws_FnExactLetterAt_p12_ct  h) [some 192, some 576, some 1114001] [] ⟨⟨rfl, rfl⟩, ⟨rfl, ⟨rfl, rfl, trivial⟩, ⟨rfl, ⟨rfl, rfl⟩, trivial⟩, ⟨rfl, rfl, rows_same⟩, trivial⟩, ⟨rfl, rfl⟩, ⟨rfl, rfl⟩, trivial⟩
        · replace h := iteF h g85
          conv => whnf
          refine CutK.norm [3, 9, 52] [192, 576, 1114001] ?_
          conv => whnf
          cases h
          exact Done.of [] [] rfl rfl ⟨⟨rfl, rfl⟩, ⟨rfl, trivial⟩, rfl, trivial⟩
def laws_FnExactLetterAt_p9 (k : Nat) (a1 : Rw) (a2 : Rw) (o29 : Int) (o30 : Rw) (o31 : Rw) (v34 : Bool) : Option Bool :=
  (cond v34 ((impl_LetterAt k o30 o31).bind fun y89 => (if y89.2 = true then (laws_FnExactLetterAt_p10 k a1 a2 o29 y89.1 o30 o31 true true) else (laws_FnExactLetterAt_p10 k a1 a2 o29 y89.1 o30 o31 false true))) ((impl_LetterAt k o30 o31).bind fun y86 => (if y86.2 = true then (laws_FnExactLetterAt_p10 k a1 a2 o29 y86.1 o30 o31 true false) else (laws_FnExactLetterAt_p10 k a1 a2 o29 y86.1 o30 o31 false false))))
set_option maxHeartbeats 4000000 in
set_option maxRecDepth 100000 in
theorem laws_FnExactLetterAt_p9_ct {k : Nat} {a1 : Rw} {a2 : Rw} {o29 : Int} {o30 : Rw} {o31 : Rw} {v34 : Bool} {r : Bool} (h : laws_FnExactLetterAt_p9 k a1 a2 o29 o30 o31 v34 = some r) : X prog 0 (tlF f6 9) (mk 58 [(2, .ptr 128 0), (3, .ptr 192 0), (6, .d (D.int .i64 o29)), (7, .d (D.bool v34)), (8, .ptr 512 0), (9, .ptr 576 0)] [(128, .box 46 [.d (D.sl a1)]), (192, .box 49 [.d (D.sl a2)]), (512, .box 56 [.os 1109000 o30.length]), (576, .box 28 [.os 1109001 o31.length]), (1109000, .arr 111 true o30), (1109001, .arr 119 true o31)]) (finK prog f6 0 (.d (D.bool r)) (⟨[], []⟩)) := by
  rw [laws_FnExactLetterAt_p9] at h
  cases v34
  · replace h := condF h
    conv => whnf
    refine Take.all (rfl) ?_
    conv => whnf
    refine Take.all (rfl) ?_
    conv => whnf
    obtain ⟨y86, e87, h⟩ := bind_ex h
    refine CallOk.of (impl_LetterAt_ct e87) ?_
    conv => whnf
    refine spl (fun g88 => ?_) (fun g88 => ?_)
    · replace h := iteT h g88
      conv => whnf
      exact CutK.piece (laws_FnExactLetterAt_p10_ct  h) [some 128, some 192, some 512, some 576, some 1109000, some 1109001] [] ⟨⟨rfl, rfl⟩, ⟨rfl, ⟨rfl, rfl, trivial⟩, ⟨rfl, rfl, trivial⟩, ⟨rfl, ⟨rfl, rfl⟩, trivial⟩, ⟨rfl, ⟨rfl, rfl⟩, trivial⟩, ⟨rfl, rfl, rows_same⟩, ⟨rfl, rfl, rows_same⟩, trivial⟩, ⟨rfl, rfl⟩, ⟨rfl, rfl⟩, rfl, rfl, ⟨rfl, rfl⟩, ⟨rfl, rfl⟩, rfl, rfl, trivial⟩
    · replace h := iteF h g88
      conv => whnf
      exact CutK.piece (laws_FnExactLetterAt_p10_ct  h) [some 128, some 192, some 512, some 576, some 1109000, some 1109001] [] ⟨⟨rfl, rfl⟩, ⟨rfl, ⟨rfl, rfl, trivial⟩, ⟨rfl, rfl, trivial⟩, ⟨rfl, ⟨rfl, rfl⟩, trivial⟩, ⟨rfl, ⟨rfl, rfl⟩, trivial⟩, ⟨rfl, rfl, rows_same⟩, ⟨rfl, rfl, rows_same⟩, trivial⟩, ⟨rfl, rfl⟩, ⟨rfl, rfl⟩, rfl, rfl, ⟨rfl, rfl⟩, ⟨rfl, rfl⟩, rfl, rfl, trivial⟩
  · replace h := condT h
    conv => whnf
    refine Take.all (rfl) ?_
    conv => whnf
    refine Take.all (rfl) ?_
    conv => whnf
    obtain ⟨y89, e90, h⟩ := bind_ex h
    refine CallOk.of (impl_LetterAt_ct e90) ?_
    conv => whnf
    refine spl (fun g91 => ?_) (fun g91 => ?_)
    · replace h := iteT h g91
      conv => whnf
      exact CutK.piece (laws_FnExactLetterAt_p10_ct  h) [some 128, some 192, some 512, some 576, some 1109000, some 1109001] [] ⟨⟨rfl, rfl⟩, ⟨rfl, ⟨rfl, rfl, trivial⟩, ⟨rfl, rfl, trivial⟩, ⟨rfl, ⟨rfl, rfl⟩, trivial⟩, ⟨rfl, ⟨rfl, rfl⟩, trivial⟩, ⟨rfl, rfl, rows_same⟩, ⟨rfl, rfl, rows_same⟩, trivial⟩, ⟨rfl, rfl⟩, ⟨rfl, rfl⟩, rfl, rfl, ⟨rfl, rfl⟩, ⟨rfl, rfl⟩, rfl, rfl, trivial⟩
    · replace h := iteF h g91
      conv => whnf
      exact CutK.piece (laws_FnExactLetterAt_p10_ct  h) [some 128, some 192, some 512, some 576, some 1109000, some 1109001] [] ⟨⟨rfl, rfl⟩, ⟨rfl, ⟨rfl, rfl, trivial⟩, ⟨rfl, rfl, trivial⟩, ⟨rfl, ⟨rfl, rfl⟩, trivial⟩, ⟨rfl, ⟨rfl, rfl⟩, trivial⟩, ⟨rfl, rfl, rows_same⟩, ⟨rfl, rfl, rows_same⟩, trivial⟩, ⟨rfl, rfl⟩, ⟨rfl, rfl⟩, rfl, rfl, ⟨rfl, rfl⟩, ⟨rfl, rfl⟩, rfl, rfl, trivial⟩
def laws_FnExactLetterAt_p8 (k : Nat) (a1 : Rw) (a2 : Rw) (o22 : Int) (o23 : Rw) (v26 : Bool) : Option Bool :=
  (cond v26 ((laws_toOrdinal k a2).bind fun y94 => (laws_FnExactLetterAt_p9 k a1 a2 o22 o23 y94 true)) ((laws_toOrdinal k a2).bind fun y92 => (laws_FnExactLetterAt_p9 k a1 a2 o22 o23 y92 false)))
set_option maxHeartbeats 4000000 in
set_option maxRecDepth 100000 in
theorem laws_FnExactLetterAt_p8_ct {k : Nat} {a1 : Rw} {a2 : Rw} {o22 : Int} {o23 : Rw} {v26 : Bool} {r : Bool} (h : laws_FnExactLetterAt_p8 k a1 a2 o22 o23 v26 = some r) : X prog 0 (tlF f6 8) (mk 58 [(2, .ptr 128 0), (3, .ptr 192 0), (6, .d (D.int .i64 o22)), (7, .d (D.bool v26)), (8, .ptr 512 0)] [(128, .box 46 [.d (D.sl a1)]), (192, .box 49 [.d (D.sl a2)]), (512, .box 56 [.os 1104000 o23.length]), (1104000, .arr 111 true o23)]) (finK prog f6 0 (.d (D.bool r)) (⟨[], []⟩)) := by
  rw [laws_FnExactLetterAt_p8] at h
  cases v26
  · replace h := condF h
    conv => whnf
    obtain ⟨y92, e93, h⟩ := bind_ex h
    refine CallOk.of (laws_toOrdinal_ct e93) ?_
    conv => whnf
    exact CutK.piece (laws_FnExactLetterAt_p9_ct  h) [some 128, some 192, some 512, some 576, some 1104000, some 2112] [] ⟨⟨rfl, rfl⟩, ⟨rfl, ⟨rfl, rfl, trivial⟩, ⟨rfl, rfl, trivial⟩, ⟨rfl, ⟨rfl, rfl⟩, trivial⟩, ⟨rfl, ⟨rfl, rfl⟩, trivial⟩, ⟨rfl, rfl, rows_same⟩, ⟨rfl, rfl, rows_same⟩, trivial⟩, ⟨rfl, rfl⟩, ⟨rfl, rfl⟩, rfl, rfl, ⟨rfl, rfl⟩, ⟨rfl, rfl⟩, trivial⟩
  · replace h := condT h
    conv => whnf
    obtain ⟨y94, e95, h⟩ := bind_ex h
    refine CallOk.of (laws_toOrdinal_ct e95) ?_
    conv => whnf
    exact CutK.piece (laws_FnExactLetterAt_p9_ct  h) [some 128, some 192, some 512, some 576, some 1104000, some 2112] [] ⟨⟨rfl, rfl⟩, ⟨rfl, ⟨rfl, rfl, trivial⟩, ⟨rfl, rfl, trivial⟩, ⟨rfl, ⟨rfl, rfl⟩, trivial⟩, ⟨rfl, ⟨rfl, rfl⟩, trivial⟩, ⟨rfl, rfl, rows_same⟩, ⟨rfl, rfl, rows_same⟩, trivial⟩, ⟨rfl, rfl⟩, ⟨rfl, rfl⟩, rfl, rfl, ⟨rfl, rfl⟩, ⟨rfl, rfl⟩, trivial⟩
def laws_FnExactLetterAt_p7 (k : Nat) (a1 : Rw) (a2 : Rw) (o18 : Int) (v19 : Bool) : Option Bool :=
  (cond v19 ((laws_toWord k a1).bind fun y98 => (laws_FnExactLetterAt_p8 k a1 a2 o18 y98 true)) ((laws_toWord k a1).bind fun y96 => (laws_FnExactLetterAt_p8 k a1 a2 o18 y96 false)))
set_option maxHeartbeats 4000000 in
set_option maxRecDepth 100000 in
theorem laws_FnExactLetterAt_p7_ct {k : Nat} {a1 : Rw} {a2 : Rw} {o18 : Int} {v19 : Bool} {r : Bool} (h : laws_FnExactLetterAt_p7 k a1 a2 o18 v19 = some r) : X prog 0 (tlF f6 7) (mk 58 [(2, .ptr 128 0), (3, .ptr 192 0), (6, .d (D.int .i64 o18)), (7, .d (D.bool v19))] [(128, .box 46 [.d (D.sl a1)]), (192, .box 49 [.d (D.sl a2)])]) (finK prog f6 0 (.d (D.bool r)) (⟨[], []⟩)) := by
  rw [laws_FnExactLetterAt_p7] at h
  cases v19
  · replace h := condF h
    conv => whnf
    obtain ⟨y96, e97, h⟩ := bind_ex h
    refine CallOk.of (laws_toWord_ct e97) ?_
    conv => whnf
    exact CutK.piece (laws_FnExactLetterAt_p8_ct  h) [some 128, some 192, some 512, some 1984] [] ⟨⟨rfl, rfl⟩, ⟨rfl, ⟨rfl, rfl, trivial⟩, ⟨rfl, rfl, trivial⟩, ⟨rfl, ⟨rfl, rfl⟩, trivial⟩, ⟨rfl, rfl, rows_same⟩, trivial⟩, ⟨rfl, rfl⟩, ⟨rfl, rfl⟩, rfl, rfl, ⟨rfl, rfl⟩, trivial⟩
  · replace h := condT h
    conv => whnf
    obtain ⟨y98, e99, h⟩ := bind_ex h
    refine CallOk.of (laws_toWord_ct e99) ?_
    conv => whnf
    exact CutK.piece (laws_FnExactLetterAt_p8_ct  h) [some 128, some 192, some 512, some 1984] [] ⟨⟨rfl, rfl⟩, ⟨rfl, ⟨rfl, rfl, trivial⟩, ⟨rfl, rfl, trivial⟩, ⟨rfl, ⟨rfl, rfl⟩, trivial⟩, ⟨rfl, rfl, rows_same⟩, trivial⟩, ⟨rfl, rfl⟩, ⟨rfl, rfl⟩, rfl, rfl, ⟨rfl, rfl⟩, trivial⟩
def laws_FnExactLetterAt_p5 (k : Nat) (a1 : Rw) (a2 : Rw) (o9 : Int) : Option Bool :=
  (if o9 < (0 : Int) then some true else ((laws_toWord k a1).bind fun y101 => ((laws_toOrdinal k a2).bind fun y103 => ((spec_LetterAt k y101 y103).bind fun y105 => (if y105.2 = true then (laws_FnExactLetterAt_p7 k a1 a2 y105.1 true) else (laws_FnExactLetterAt_p7 k a1 a2 y105.1 false))))))
set_option maxHeartbeats 4000000 in
set_option maxRecDepth 100000 in
theorem laws_FnExactLetterAt_p5_ct {k : Nat} {a1 : Rw} {a2 : Rw} {o9 : Int} {r : Bool} (h : laws_FnExactLetterAt_p5 k a1 a2 o9 = some r) : X prog 0 (tlF f6 5) (mk 58 [(2, .ptr 128 0), (3, .ptr 192 0), (5, .d (D.int .i64 o9))] [(128, .box 46 [.d (D.sl a1)]), (192, .box 49 [.d (D.sl a2)])]) (finK prog f6 0 (.d (D.bool r)) (⟨[], []⟩)) := by
  rw [laws_FnExactLetterAt_p5] at h
  conv => whnf
  refine splD (fun g100 => ?_) (fun g100 => ?_)
  · replace h := iteP h g100
    conv => whnf
    cases h
    exact Done.of [] [] rfl rfl ⟨⟨rfl, rfl⟩, ⟨rfl, trivial⟩, rfl, trivial⟩
  · replace h := iteN h g100
    conv => whnf
    obtain ⟨y101, e102, h⟩ := bind_ex h
    refine CallOk.of (laws_toWord_ct e102) ?_
    conv => whnf
    obtain ⟨y103, e104, h⟩ := bind_ex h
    refine CallOk.of (laws_toOrdinal_ct e104) ?_
    conv => whnf
    refine Take.all (rfl) ?_
    conv => whnf
    refine Take.all (rfl) ?_
    conv => whnf
    obtain ⟨y105, e106, h⟩ := bind_ex h
    refine CallOk.of (spec_LetterAt_ct e106) ?_
    conv => whnf
    refine spl (fun g107 => ?_) (fun g107 => ?_)
    · replace h := iteT h g107
      conv => whnf
      exact CutK.piece (laws_FnExactLetterAt_p7_ct  h) [some 128, some 192] [] ⟨⟨rfl, rfl⟩, ⟨rfl, ⟨rfl, rfl, trivial⟩, ⟨rfl, rfl, trivial⟩, trivial⟩, ⟨rfl, rfl⟩, ⟨rfl, rfl⟩, rfl, rfl, trivial⟩
    · replace h := iteF h g107
      conv => whnf
      exact CutK.piece (laws_FnExactLetterAt_p7_ct  h) [some 128, some 192] [] ⟨⟨rfl, rfl⟩, ⟨rfl, ⟨rfl, rfl, trivial⟩, ⟨rfl, rfl, trivial⟩, trivial⟩, ⟨rfl, rfl⟩, ⟨rfl, rfl⟩, rfl, rfl, trivial⟩
def laws_FnExactLetterAt_p3 (k : Nat) (a1 : Rw) (a2 : Rw) (o5 : Int) : Option Bool :=
  (if o5 < (0 : Int) then some true else ((laws_szOrdinal k a2 o5).bind fun y109 => (laws_FnExactLetterAt_p5 k a1 a2 y109)))
set_option maxHeartbeats 4000000 in
set_option maxRecDepth 100000 in
theorem laws_FnExactLetterAt_p3_ct {k : Nat} {a1 : Rw} {a2 : Rw} {o5 : Int} {r : Bool} (h : laws_FnExactLetterAt_p3 k a1 a2 o5 = some r) : X prog 0 (tlF f6 3) (mk 58 [(2, .ptr 128 0), (3, .ptr 192 0), (5, .d (D.int .i64 o5))] [(128, .box 46 [.d (D.sl a1)]), (192, .box 49 [.d (D.sl a2)])]) (finK prog f6 0 (.d (D.bool r)) (⟨[], []⟩)) := by
  rw [laws_FnExactLetterAt_p3] at h
  conv => whnf
  refine splD (fun g108 => ?_) (fun g108 => ?_)
  · replace h := iteP h g108
    conv => whnf
    cases h
    exact Done.of [] [] rfl rfl ⟨⟨rfl, rfl⟩, ⟨rfl, trivial⟩, rfl, trivial⟩
  · replace h := iteN h g108
    conv => whnf
    obtain ⟨y109, e110, h⟩ := bind_ex h
    refine CallOk.of (laws_szOrdinal_ct e110) ?_
    conv => whnf
    exact CutK.piece (laws_FnExactLetterAt_p5_ct  h) [some 128, some 192] [] ⟨⟨rfl, rfl⟩, ⟨rfl, ⟨rfl, rfl, trivial⟩, ⟨rfl, rfl, trivial⟩, trivial⟩, ⟨rfl, rfl⟩, ⟨rfl, rfl⟩, rfl, trivial⟩
def laws_FnExactLetterAt (k : Nat) (a1 : Rw) (a2 : Rw) : Option Bool :=
  ((laws_szWord k a1 1048576).bind fun y111 => (laws_FnExactLetterAt_p3 k a1 a2 y111))
set_option maxHeartbeats 4000000 in
set_option maxRecDepth 100000 in
theorem laws_FnExactLetterAt_ct {k : Nat} {a1 : Rw} {a2 : Rw} {r : Bool} (h : laws_FnExactLetterAt k a1 a2 = some r) : Ct prog 6 [.agg [.d (D.sl a1)], .agg [.d (D.sl a2)]] (⟨[], []⟩) (.d (D.bool r)) (⟨[], []⟩) := by
  rw [laws_FnExactLetterAt] at h
  refine Ct.of (c := _) mixed func6 ⟨rfl, rfl, rfl⟩ ?_ rfl
  conv => whnf
  obtain ⟨y111, e112, h⟩ := bind_ex h
  refine CallOk.of (laws_szWord_ct e112) ?_
  conv => whnf
  exact CutK.piece (laws_FnExactLetterAt_p3_ct  h) [some 128, some 192] [] ⟨⟨rfl, rfl⟩, ⟨rfl, ⟨rfl, rfl, trivial⟩, ⟨rfl, rfl, trivial⟩, trivial⟩, ⟨rfl, rfl⟩, ⟨rfl, rfl⟩, rfl, trivial⟩

def laws_heldOrdinalTermS_l0 (rec_laws_heldOrdinalTermS : Rw → Int → Option Int) (a1 : Rw) (K0 : Int → Option Int) : Rw → Int → Option Int
  | [], v12 => (K0 v12)
  | cs :: rest, v12 => (cell_si cs fun x33 x34 => ((rec_laws_heldOrdinalTermS x33 v12).bind fun y36 => (if y36 < (0 : Int) then some (-1) else (if x34 = y36 then (laws_heldOrdinalTermS_l0 rec_laws_heldOrdinalTermS a1 K0 rest (IntKind.i64.wrap (y36 + 1))) else some (-1)))))
set_option maxRecDepth 100000 in
theorem laws_heldOrdinalTermS_l0_ct {rec_laws_heldOrdinalTermS : Rw → Int → Option Int} {a1 : Rw} {K0 : Int → Option Int} (hrec_laws_heldOrdinalTermS : ∀ (a1 : Rw) (a2 : Int) (r : Int), rec_laws_heldOrdinalTermS a1 a2 = some r → Ct prog 65 [.d (D.sl a1), .d (D.int .i64 a2)] (⟨[], []⟩) (.d (D.int .i64 r)) (⟨[], []⟩)) {r : Int} (hx : a1.length ≤ cap) : ∀ (rest : Rw) (v13n : Nat) (v12 : Int), a1.drop v13n = rest → laws_heldOrdinalTermS_l0 rec_laws_heldOrdinalTermS a1 K0 rest v12 = some r → LoopOk prog 0 (lp f65 0) (mk 32 [(0, .d (D.sl a1)), (1, .d (D.int .i64 v12)), (5, .d (D.int .i64 (v13n : Int)))] []) (LoopEnd prog f65 0 32 (.d (D.int .i64 r)) (⟨[], []⟩) (fun i ts os => (i = 0 ∧ ∃ v23 : Int, K0 v23 = some r ∧ ts = [(1, .d (D.int .i64 v23))] ∧ os = [])))
  | [], v13n, v12, hd, h => by
      rw [laws_heldOrdinalTermS_l0] at h
      have hn := drop_nil hd
      refine LoopOk.step ?_
      conv => whnf
      refine splD (fun g => absurd g hn) (fun _ => ?_)
      conv => whnf
      exact ⟨_, _, [], [], ⟨rfl, _, h, rfl, rfl⟩, ⟨⟨rfl, rfl⟩, ⟨rfl, trivial⟩, rfl, trivial⟩⟩
  | cs :: rest, v13n, v12, hd, h => by
      rw [laws_heldOrdinalTermS_l0] at h
      obtain ⟨hrow, hd1, hlt⟩ := drop_cons hd
      refine LoopOk.step ?_
      conv => whnf
      refine splD (fun _ => ?_) (fun g => absurd hlt g)
      conv => whnf
      obtain ⟨x33, x34, e35, h⟩ := cell_si_ex h
      rw [e35] at hrow
      refine Req.of (Int.natCast_nonneg _) ?_
      refine Row.of _ hrow ?_
      conv => whnf
      obtain ⟨y36, e37, h⟩ := bind_ex h
      refine CallOk.of (hrec_laws_heldOrdinalTermS _ _ _ e37) ?_
      conv => whnf
      refine CutK.norm [0, 1, 5] [] ?_
      conv => whnf
      refine splD (fun g38 => ?_) (fun g38 => ?_)
      · replace h := iteP h g38
        conv => whnf
        cases h
        exact Done.of [] [] rfl rfl ⟨⟨rfl, rfl⟩, ⟨rfl, trivial⟩, rfl, trivial⟩
      · replace h := iteN h g38
        conv => whnf
        refine Req.of (Int.natCast_nonneg _) ?_
        refine Row.of _ hrow ?_
        conv => whnf
        refine splN (fun g39 => ?_) (fun g39 => ?_)
        · replace h := iteN h g39
          conv => whnf
          cases h
          exact Done.of [] [] rfl rfl ⟨⟨rfl, rfl⟩, ⟨rfl, trivial⟩, rfl, trivial⟩
        · replace h := iteP h g39
          conv => whnf
          refine CutK.norm [0, 1, 5] [] ?_
          conv => whnf
          exact LoopOk.back (laws_heldOrdinalTermS_l0_ct hrec_laws_heldOrdinalTermS hx rest (v13n + 1) _ hd1 h) [] [] ⟨⟨rfl, rfl⟩, ⟨rfl, trivial⟩, rfl, rfl, i64eq (wrap_up hlt hx), trivial⟩
def laws_heldOrdinalTermS_b (rec_laws_heldOrdinalTermS : Rw → Int → Option Int) (a1 : Rw) (a2 : Int) : Option Int :=
  (if a1.length ≤ cap then (laws_heldOrdinalTermS_l0 rec_laws_heldOrdinalTermS a1 (fun (v23 : Int) => some v23) a1 a2) else none)
set_option maxHeartbeats 4000000 in
set_option maxRecDepth 100000 in
theorem laws_heldOrdinalTermS_b_ct {rec_laws_heldOrdinalTermS : Rw → Int → Option Int} (hrec_laws_heldOrdinalTermS : ∀ (a1 : Rw) (a2 : Int) (r : Int), rec_laws_heldOrdinalTermS a1 a2 = some r → Ct prog 65 [.d (D.sl a1), .d (D.int .i64 a2)] (⟨[], []⟩) (.d (D.int .i64 r)) (⟨[], []⟩)) {a1 : Rw} {a2 : Int} {r : Int} (h : laws_heldOrdinalTermS_b rec_laws_heldOrdinalTermS a1 a2 = some r) : Ct prog 65 [.d (D.sl a1), .d (D.int .i64 a2)] (⟨[], []⟩) (.d (D.int .i64 r)) (⟨[], []⟩) := by
  rw [laws_heldOrdinalTermS_b] at h
  refine Ct.of (c := _) mixed func65 ⟨rfl, rfl, rfl⟩ ?_ rfl
  conv => whnf
  obtain ⟨g40, h⟩ := req_ex h
  refine LoopOk.into (laws_heldOrdinalTermS_l0_ct hrec_laws_heldOrdinalTermS g40 _ _ _ rfl h) [] [] ⟨⟨rfl, rfl⟩, ⟨rfl, trivial⟩, rfl, rfl, rfl, trivial⟩ ?_ (fun _ hs => hs)
  rintro i ts os ⟨rfl, v23, h, rfl, rfl⟩
  conv => whnf
  refine CutK.norm [1] [] ?_
  conv => whnf
  cases h
  exact Done.of [] [] rfl rfl ⟨⟨rfl, rfl⟩, ⟨rfl, trivial⟩, rfl, trivial⟩
def laws_heldOrdinalTermS : Nat → Rw → Int → Option Int
  | 0, _, _ => none
  | k + 1, a1, a2 => laws_heldOrdinalTermS_b (laws_heldOrdinalTermS k) a1 a2
theorem laws_heldOrdinalTermS_ct' : ∀ (k : Nat) (a1 : Rw) (a2 : Int) (r : Int), laws_heldOrdinalTermS k a1 a2 = some r → Ct prog 65 [.d (D.sl a1), .d (D.int .i64 a2)] (⟨[], []⟩) (.d (D.int .i64 r)) (⟨[], []⟩)
  | 0, _, _, _, h => by rw [laws_heldOrdinalTermS] at h; cases h
  | k + 1, _, _, _, h => by rw [laws_heldOrdinalTermS] at h; exact laws_heldOrdinalTermS_b_ct (laws_heldOrdinalTermS_ct' k) h
theorem laws_heldOrdinalTermS_ct {k : Nat} {a1 : Rw} {a2 : Int} {r : Int} (h : laws_heldOrdinalTermS k a1 a2 = some r) : Ct prog 65 [.d (D.sl a1), .d (D.int .i64 a2)] (⟨[], []⟩) (.d (D.int .i64 r)) (⟨[], []⟩) := laws_heldOrdinalTermS_ct' k _ _ _ h

def laws_heldRunS_l0 (k : Nat) (a1 : Rw) (K0 : Int → Option Int) : Rw → Int → Option Int
  | [], v13 => (K0 v13)
  | cs :: rest, v13 => (cell_bs cs fun x48 x49 => (if x48 = true then (if (v13.tmod 3) = (0 : Int) then ((laws_heldOrdinalTermS k x49 (IntKind.i64.wrap (v13 + 1))).bind fun y53 => (if y53 < (0 : Int) then some (-1) else (laws_heldRunS_l0 k a1 K0 rest y53))) else some (-1)) else (if (v13.tmod 3) = (0 : Int) then some (-1) else ((laws_heldOrdinalTermS k x49 (IntKind.i64.wrap (v13 + 1))).bind fun y57 => (if y57 < (0 : Int) then some (-1) else (laws_heldRunS_l0 k a1 K0 rest y57))))))
set_option maxRecDepth 100000 in
theorem laws_heldRunS_l0_ct {k : Nat} {a1 : Rw} {K0 : Int → Option Int} {r : Int} (hx : a1.length ≤ cap) : ∀ (rest : Rw) (v14n : Nat) (v13 : Int), a1.drop v14n = rest → laws_heldRunS_l0 k a1 K0 rest v13 = some r → LoopOk prog 0 (lp f98 0) (mk 34 [(0, .d (D.sl a1)), (1, .d (D.int .i64 v13)), (5, .d (D.int .i64 (v14n : Int)))] []) (LoopEnd prog f98 0 34 (.d (D.int .i64 r)) (⟨[], []⟩) (fun i ts os => (i = 0 ∧ ∃ v33 : Int, K0 v33 = some r ∧ ts = [(1, .d (D.int .i64 v33))] ∧ os = [])))
  | [], v14n, v13, hd, h => by
      rw [laws_heldRunS_l0] at h
      have hn := drop_nil hd
      refine LoopOk.step ?_
      conv => whnf
      refine splD (fun g => absurd g hn) (fun _ => ?_)
      conv => whnf
      exact ⟨_, _, [], [], ⟨rfl, _, h, rfl, rfl⟩, ⟨⟨rfl, rfl⟩, ⟨rfl, trivial⟩, rfl, trivial⟩⟩
  | cs :: rest, v14n, v13, hd, h => by
      rw [laws_heldRunS_l0] at h
      obtain ⟨hrow, hd1, hlt⟩ := drop_cons hd
      refine LoopOk.step ?_
      conv => whnf
      refine splD (fun _ => ?_) (fun g => absurd hlt g)
      conv => whnf
      obtain ⟨x48, x49, e50, h⟩ := cell_bs_ex h
      rw [e50] at hrow
      refine Req.of (Int.natCast_nonneg _) ?_
      refine Row.of _ hrow ?_
      conv => whnf
      refine spl (fun g51 => ?_) (fun g51 => ?_)
      · replace h := iteT h g51
        conv => whnf
        refine Req.of (by decide) ?_
        conv => whnf
        refine splD (fun g52 => ?_) (fun g52 => ?_)
        · replace h := iteP h g52
          conv => whnf
          refine splF ?_
          conv => whnf
          refine Req.of (Int.natCast_nonneg _) ?_
          refine Row.of _ hrow ?_
          conv => whnf
          obtain ⟨y53, e54, h⟩ := bind_ex h
          refine CallOk.of (laws_heldOrdinalTermS_ct e54) ?_
          conv => whnf
          refine CutK.norm [0, 1, 5] [] ?_
          conv => whnf
          refine splD (fun g55 => ?_) (fun g55 => ?_)
          · replace h := iteP h g55
            conv => whnf
            cases h
            exact Done.of [] [] rfl rfl ⟨⟨rfl, rfl⟩, ⟨rfl, trivial⟩, rfl, trivial⟩
          · replace h := iteN h g55
            conv => whnf
            refine CutK.norm [0, 1, 5] [] ?_
            conv => whnf
            exact LoopOk.back (laws_heldRunS_l0_ct hx rest (v14n + 1) _ hd1 h) [] [] ⟨⟨rfl, rfl⟩, ⟨rfl, trivial⟩, rfl, rfl, i64eq (wrap_up hlt hx), trivial⟩
        · replace h := iteN h g52
          conv => whnf
          refine splT ?_
          conv => whnf
          cases h
          exact Done.of [] [] rfl rfl ⟨⟨rfl, rfl⟩, ⟨rfl, trivial⟩, rfl, trivial⟩
      · replace h := iteF h g51
        conv => whnf
        refine Req.of (by decide) ?_
        conv => whnf
        refine splD (fun g56 => ?_) (fun g56 => ?_)
        · replace h := iteP h g56
          conv => whnf
          refine splT ?_
          conv => whnf
          cases h
          exact Done.of [] [] rfl rfl ⟨⟨rfl, rfl⟩, ⟨rfl, trivial⟩, rfl, trivial⟩
        · replace h := iteN h g56
          conv => whnf
          refine splF ?_
          conv => whnf
          refine Req.of (Int.natCast_nonneg _) ?_
          refine Row.of _ hrow ?_
          conv => whnf
          obtain ⟨y57, e58, h⟩ := bind_ex h
          refine CallOk.of (laws_heldOrdinalTermS_ct e58) ?_
          conv => whnf
          refine CutK.norm [0, 1, 5] [] ?_
          conv => whnf
          refine splD (fun g59 => ?_) (fun g59 => ?_)
          · replace h := iteP h g59
            conv => whnf
            cases h
            exact Done.of [] [] rfl rfl ⟨⟨rfl, rfl⟩, ⟨rfl, trivial⟩, rfl, trivial⟩
          · replace h := iteN h g59
            conv => whnf
            refine CutK.norm [0, 1, 5] [] ?_
            conv => whnf
            exact LoopOk.back (laws_heldRunS_l0_ct hx rest (v14n + 1) _ hd1 h) [] [] ⟨⟨rfl, rfl⟩, ⟨rfl, trivial⟩, rfl, rfl, i64eq (wrap_up hlt hx), trivial⟩
def laws_heldRunS (k : Nat) (a1 : Rw) (a2 : Int) : Option Int :=
  (if a1.length ≤ cap then (laws_heldRunS_l0 k a1 (fun (v33 : Int) => some v33) a1 a2) else none)
set_option maxHeartbeats 4000000 in
set_option maxRecDepth 100000 in
theorem laws_heldRunS_ct {k : Nat} {a1 : Rw} {a2 : Int} {r : Int} (h : laws_heldRunS k a1 a2 = some r) : Ct prog 98 [.d (D.sl a1), .d (D.int .i64 a2)] (⟨[], []⟩) (.d (D.int .i64 r)) (⟨[], []⟩) := by
  rw [laws_heldRunS] at h
  refine Ct.of (c := _) mixed func98 ⟨rfl, rfl, rfl⟩ ?_ rfl
  conv => whnf
  obtain ⟨g60, h⟩ := req_ex h
  refine LoopOk.into (laws_heldRunS_l0_ct  g60 _ _ _ rfl h) [] [] ⟨⟨rfl, rfl⟩, ⟨rfl, trivial⟩, rfl, rfl, rfl, trivial⟩ ?_ (fun _ hs => hs)
  rintro i ts os ⟨rfl, v33, h, rfl, rfl⟩
  conv => whnf
  refine CutK.norm [1] [] ?_
  conv => whnf
  cases h
  exact Done.of [] [] rfl rfl ⟨⟨rfl, rfl⟩, ⟨rfl, trivial⟩, rfl, trivial⟩

def laws_heldWord (k : Nat) (a1 : Rw) (a2 : Int) : Option Int :=
  ((laws_heldRunS k a1 a2).bind fun y3 => (if y3 < (0 : Int) then some (-1) else some y3))
set_option maxHeartbeats 4000000 in
set_option maxRecDepth 100000 in
theorem laws_heldWord_ct {k : Nat} {a1 : Rw} {a2 : Int} {r : Int} (h : laws_heldWord k a1 a2 = some r) : Ct prog 39 [.agg [.d (D.sl a1)], .d (D.int .i64 a2)] (⟨[], []⟩) (.d (D.int .i64 r)) (⟨[], []⟩) := by
  rw [laws_heldWord] at h
  refine Ct.of (c := _) mixed func39 ⟨rfl, rfl, rfl⟩ ?_ rfl
  conv => whnf
  obtain ⟨y3, e4, h⟩ := bind_ex h
  refine CallOk.of (laws_heldRunS_ct e4) ?_
  conv => whnf
  refine CutK.go ?_
  conv => whnf
  refine splD (fun g5 => ?_) (fun g5 => ?_)
  · replace h := iteP h g5
    conv => whnf
    cases h
    exact Done.of [] [] rfl rfl ⟨⟨rfl, rfl⟩, ⟨rfl, trivial⟩, rfl, trivial⟩
  · replace h := iteN h g5
    conv => whnf
    cases h
    exact Done.of [] [] rfl rfl ⟨⟨rfl, rfl⟩, ⟨rfl, trivial⟩, rfl, trivial⟩

def impl_cloneOrdinal_l0 (rec_impl_cloneOrdinal : Rw → Option Rw) (a1 : Rw) (K0 : Rw → Option Rw) : Rw → Rw → Option Rw
  | [], v10 => (K0 v10)
  | cs :: rest, v10 => (cell_si cs fun x28 x29 => ((rec_impl_cloneOrdinal x28).bind fun y31 => (if v10.length + 1 ≤ cap then (impl_cloneOrdinal_l0 rec_impl_cloneOrdinal a1 K0 rest (v10 ++ ([[D.sl y31, D.int .i64 x29]]))) else none)))
set_option maxRecDepth 100000 in
theorem impl_cloneOrdinal_l0_ct {rec_impl_cloneOrdinal : Rw → Option Rw} {a1 : Rw} {K0 : Rw → Option Rw} (hrec_impl_cloneOrdinal : ∀ (a1 : Rw) (r : Rw), rec_impl_cloneOrdinal a1 = some r → Ct prog 122 [.agg [.d (D.sl a1)]] (⟨[], []⟩) (.agg [.os 8 r.length]) (⟨[], [(119, true, r)]⟩)) {r : Rw} (hx : a1.length ≤ cap) : ∀ (rest : Rw) (v9n : Nat) (v10 : Rw), a1.drop v9n = rest → impl_cloneOrdinal_l0 rec_impl_cloneOrdinal a1 K0 rest v10 = some r → LoopOk prog 0 (lp f122 0) (mk 27 [(2, .ptr 128 0), (3, .ptr 192 0), (8, .d (D.sl a1)), (9, .d (D.int .i64 (a1.length : Int))), (10, .d (D.int .i64 (v9n : Int)))] [(128, .box 28 [.es]), (192, .box 28 [.os 64000 v10.length]), (64000, .arr 119 true v10)]) (LoopEnd prog f122 0 27 (.agg [.os 8 r.length]) (⟨[], [(119, true, r)]⟩) (fun i ts os => (i = 0 ∧ ∃ v19 : Rw, K0 v19 = some r ∧ ts = [(2, .ptr 128 0), (3, .ptr 192 0)] ∧ os = [(128, .box 28 [.es]), (192, .box 28 [.os 67001 v19.length]), (67001, .arr 119 true v19)])))
  | [], v9n, v10, hd, h => by
      rw [impl_cloneOrdinal_l0] at h
      have hn := drop_nil hd
      refine LoopOk.step ?_
      conv => whnf
      refine splD (fun g => absurd g hn) (fun _ => ?_)
      conv => whnf
      exact ⟨_, _, [some 128, some 192, some 64000], [], ⟨rfl, _, h, rfl, rfl⟩, ⟨⟨rfl, rfl⟩, ⟨rfl, ⟨rfl, trivial, trivial⟩, ⟨rfl, ⟨rfl, rfl⟩, trivial⟩, ⟨rfl, rfl, rows_same⟩, trivial⟩, ⟨rfl, rfl⟩, ⟨rfl, rfl⟩, trivial⟩⟩
  | cs :: rest, v9n, v10, hd, h => by
      rw [impl_cloneOrdinal_l0] at h
      obtain ⟨hrow, hd1, hlt⟩ := drop_cons hd
      refine LoopOk.step ?_
      conv => whnf
      refine splD (fun _ => ?_) (fun g => absurd hlt g)
      conv => whnf
      obtain ⟨x28, x29, e30, h⟩ := cell_si_ex h
      rw [e30] at hrow
      refine Req.of (Int.natCast_nonneg _) ?_
      refine Row.of _ hrow ?_
      conv => whnf
      obtain ⟨y31, e32, h⟩ := bind_ex h
      refine CallOk.of (hrec_impl_cloneOrdinal _ _ e32) ?_
      conv => whnf
      refine Take.all (rfl) ?_
      conv => whnf
      refine Take.all (rfl) ?_
      conv => whnf
      refine Take.all (by first | rfl | exact List.length_append.symm | (simp; done) | omega) ?_
      conv => whnf
      obtain ⟨g33, h⟩ := req_ex h
      refine Req.of (room (b := 32) (by decide) g33 (wide1 rfl wide0)) ?_
      conv => whnf
      refine CutK.go ?_
      conv => whnf
      exact LoopOk.back (impl_cloneOrdinal_l0_ct hrec_impl_cloneOrdinal hx rest (v9n + 1) _ hd1 h) [some 128, some 192, some 1472] [] ⟨⟨rfl, rfl⟩, ⟨rfl, ⟨rfl, trivial, trivial⟩, ⟨rfl, ⟨(by first | rfl | exact List.length_append.symm | (simp; done) | omega), rfl⟩, trivial⟩, ⟨rfl, rfl, rows_same⟩, trivial⟩, ⟨rfl, rfl⟩, ⟨rfl, rfl⟩, rfl, rfl, i64eq (wrap_up hlt hx), trivial⟩
def impl_cloneOrdinal_b (rec_impl_cloneOrdinal : Rw → Option Rw) (a1 : Rw) : Option Rw :=
  (if a1.length ≤ cap then (impl_cloneOrdinal_l0 rec_impl_cloneOrdinal a1 (fun (v19 : Rw) => some v19) a1 ([] : Rw)) else none)
set_option maxHeartbeats 4000000 in
set_option maxRecDepth 100000 in
theorem impl_cloneOrdinal_b_ct {rec_impl_cloneOrdinal : Rw → Option Rw} (hrec_impl_cloneOrdinal : ∀ (a1 : Rw) (r : Rw), rec_impl_cloneOrdinal a1 = some r → Ct prog 122 [.agg [.d (D.sl a1)]] (⟨[], []⟩) (.agg [.os 8 r.length]) (⟨[], [(119, true, r)]⟩)) {a1 : Rw} {r : Rw} (h : impl_cloneOrdinal_b rec_impl_cloneOrdinal a1 = some r) : Ct prog 122 [.agg [.d (D.sl a1)]] (⟨[], []⟩) (.agg [.os 8 r.length]) (⟨[], [(119, true, r)]⟩) := by
  rw [impl_cloneOrdinal_b] at h
  refine Ct.of (c := _) mixed func122 ⟨rfl, rfl, rfl⟩ ?_ rfl
  conv => whnf
  obtain ⟨g34, h⟩ := req_ex h
  refine LoopOk.into (impl_cloneOrdinal_l0_ct hrec_impl_cloneOrdinal g34 _ _ _ rfl h) [some 128, some 192, none] [] ⟨⟨rfl, rfl⟩, ⟨rfl, ⟨rfl, trivial, trivial⟩, ⟨rfl, ⟨rfl, rfl⟩, trivial⟩, rfl, trivial⟩, ⟨rfl, rfl⟩, ⟨rfl, rfl⟩, rfl, rfl, rfl, trivial⟩ ?_ (fun _ hs => hs)
  rintro i ts os ⟨rfl, v19, h, rfl, rfl⟩
  conv => whnf
  refine CutK.go ?_
  conv => whnf
  cases h
  exact Done.of [some 67001] [] rfl rfl ⟨⟨rfl, rfl⟩, ⟨rfl, ⟨rfl, rfl, rows_same⟩, trivial⟩, ⟨⟨rfl, rfl⟩, trivial⟩, trivial⟩
def impl_cloneOrdinal : Nat → Rw → Option Rw
  | 0, _ => none
  | k + 1, a1 => impl_cloneOrdinal_b (impl_cloneOrdinal k) a1
theorem impl_cloneOrdinal_ct' : ∀ (k : Nat) (a1 : Rw) (r : Rw), impl_cloneOrdinal k a1 = some r → Ct prog 122 [.agg [.d (D.sl a1)]] (⟨[], []⟩) (.agg [.os 8 r.length]) (⟨[], [(119, true, r)]⟩)
  | 0, _, _, h => by rw [impl_cloneOrdinal] at h; cases h
  | k + 1, _, _, h => by rw [impl_cloneOrdinal] at h; exact impl_cloneOrdinal_b_ct (impl_cloneOrdinal_ct' k) h
theorem impl_cloneOrdinal_ct {k : Nat} {a1 : Rw} {r : Rw} (h : impl_cloneOrdinal k a1 = some r) : Ct prog 122 [.agg [.d (D.sl a1)]] (⟨[], []⟩) (.agg [.os 8 r.length]) (⟨[], [(119, true, r)]⟩) := impl_cloneOrdinal_ct' k _ _ h

def impl_toldWord_l0 (k : Nat) (a1 : Rw) (K0 : Rw → Option (Rw × Bool)) : Rw → Rw → Option (Rw × Bool)
  | [], v14 => (K0 v14)
  | cs :: rest, v14 => (cell_bs cs fun x42 x43 => (if x42 = true then ((impl_cloneOrdinal k x43).bind fun y46 => (if v14.length + 1 ≤ cap then (impl_toldWord_l0 k a1 K0 rest (v14 ++ ([[D.bool true, D.sl y46]]))) else none)) else ((impl_cloneOrdinal k x43).bind fun y49 => (if v14.length + 1 ≤ cap then (impl_toldWord_l0 k a1 K0 rest (v14 ++ ([[D.bool false, D.sl y49]]))) else none))))
set_option maxRecDepth 100000 in
theorem impl_toldWord_l0_ct {k : Nat} {a1 : Rw} {K0 : Rw → Option (Rw × Bool)} {r : Rw × Bool} (hx : a1.length ≤ cap) : ∀ (rest : Rw) (v13n : Nat) (v14 : Rw), a1.drop v13n = rest → impl_toldWord_l0 k a1 K0 rest v14 = some r → LoopOk prog 0 (lp f95 0) (mk 32 [(2, .ptr 128 0), (4, .ptr 256 0), (13, .d (D.sl a1)), (14, .d (D.int .i64 (a1.length : Int))), (15, .d (D.int .i64 (v13n : Int)))] [(128, .box 56 [.es]), (256, .box 56 [.os 64000 v14.length]), (64000, .arr 111 true v14)]) (LoopEnd prog f95 0 32 (.tup [.agg [.os 8 r.1.length], .d (D.bool r.2)]) (⟨[], [(111, true, r.1)]⟩) (fun i ts os => (i = 0 ∧ ∃ v29 : Rw, K0 v29 = some r ∧ ts = [(2, .ptr 128 0), (4, .ptr 256 0)] ∧ os = [(128, .box 56 [.es]), (256, .box 56 [.os 67001 v29.length]), (67001, .arr 111 true v29)])))
  | [], v13n, v14, hd, h => by
      rw [impl_toldWord_l0] at h
      have hn := drop_nil hd
      refine LoopOk.step ?_
      conv => whnf
      refine splD (fun g => absurd g hn) (fun _ => ?_)
      conv => whnf
      exact ⟨_, _, [some 128, some 256, some 64000], [], ⟨rfl, _, h, rfl, rfl⟩, ⟨⟨rfl, rfl⟩, ⟨rfl, ⟨rfl, trivial, trivial⟩, ⟨rfl, ⟨rfl, rfl⟩, trivial⟩, ⟨rfl, rfl, rows_same⟩, trivial⟩, ⟨rfl, rfl⟩, ⟨rfl, rfl⟩, trivial⟩⟩
  | cs :: rest, v13n, v14, hd, h => by
      rw [impl_toldWord_l0] at h
      obtain ⟨hrow, hd1, hlt⟩ := drop_cons hd
      refine LoopOk.step ?_
      conv => whnf
      refine splD (fun _ => ?_) (fun g => absurd hlt g)
      conv => whnf
      obtain ⟨x42, x43, e44, h⟩ := cell_bs_ex h
      rw [e44] at hrow
      refine Req.of (Int.natCast_nonneg _) ?_
      refine Row.of _ hrow ?_
      conv => whnf
      refine spl (fun g45 => ?_) (fun g45 => ?_)
      · replace h := iteT h g45
        conv => whnf
        refine splT ?_
        conv => whnf
        obtain ⟨y46, e47, h⟩ := bind_ex h
        refine CallOk.of (impl_cloneOrdinal_ct e47) ?_
        conv => whnf
        refine Take.all (rfl) ?_
        conv => whnf
        refine Take.all (rfl) ?_
        conv => whnf
        refine Take.all (by first | rfl | exact List.length_append.symm | (simp; done) | omega) ?_
        conv => whnf
        obtain ⟨g48, h⟩ := req_ex h
        refine Req.of (room (b := 32) (by decide) g48 (wide1 rfl wide0)) ?_
        conv => whnf
        refine CutK.norm [2, 4, 13, 14, 15] [128, 256, 1792] ?_
        conv => whnf
        exact LoopOk.back (impl_toldWord_l0_ct hx rest (v13n + 1) _ hd1 h) [some 128, some 256, some 1792] [] ⟨⟨rfl, rfl⟩, ⟨rfl, ⟨rfl, trivial, trivial⟩, ⟨rfl, ⟨(by first | rfl | exact List.length_append.symm | (simp; done) | omega), rfl⟩, trivial⟩, ⟨rfl, rfl, rows_same⟩, trivial⟩, ⟨rfl, rfl⟩, ⟨rfl, rfl⟩, rfl, rfl, i64eq (wrap_up hlt hx), trivial⟩
      · replace h := iteF h g45
        conv => whnf
        refine splF ?_
        conv => whnf
        obtain ⟨y49, e50, h⟩ := bind_ex h
        refine CallOk.of (impl_cloneOrdinal_ct e50) ?_
        conv => whnf
        refine Take.all (rfl) ?_
        conv => whnf
        refine Take.all (rfl) ?_
        conv => whnf
        refine Take.all (by first | rfl | exact List.length_append.symm | (simp; done) | omega) ?_
        conv => whnf
        obtain ⟨g51, h⟩ := req_ex h
        refine Req.of (room (b := 32) (by decide) g51 (wide1 rfl wide0)) ?_
        conv => whnf
        refine CutK.norm [2, 4, 13, 14, 15] [128, 256, 1792] ?_
        conv => whnf
        exact LoopOk.back (impl_toldWord_l0_ct hx rest (v13n + 1) _ hd1 h) [some 128, some 256, some 1792] [] ⟨⟨rfl, rfl⟩, ⟨rfl, ⟨rfl, trivial, trivial⟩, ⟨rfl, ⟨(by first | rfl | exact List.length_append.symm | (simp; done) | omega), rfl⟩, trivial⟩, ⟨rfl, rfl, rows_same⟩, trivial⟩, ⟨rfl, rfl⟩, ⟨rfl, rfl⟩, rfl, rfl, i64eq (wrap_up hlt hx), trivial⟩
def impl_toldWord (k : Nat) (a1 : Rw) : Option (Rw × Bool) :=
  ((impl_IsWord k a1).bind fun y2 => (if y2 = true then (if a1.length ≤ cap then (impl_toldWord_l0 k a1 (fun (v29 : Rw) => some (v29, true)) a1 ([] : Rw)) else none) else some (([] : Rw), false)))
set_option maxHeartbeats 4000000 in
set_option maxRecDepth 100000 in
theorem impl_toldWord_ct {k : Nat} {a1 : Rw} {r : Rw × Bool} (h : impl_toldWord k a1 = some r) : Ct prog 95 [.agg [.d (D.sl a1)]] (⟨[], []⟩) (.tup [.agg [.os 8 r.1.length], .d (D.bool r.2)]) (⟨[], [(111, true, r.1)]⟩) := by
  rw [impl_toldWord] at h
  refine Ct.of (c := _) mixed func95 ⟨rfl, rfl, rfl⟩ ?_ rfl
  conv => whnf
  obtain ⟨y2, e3, h⟩ := bind_ex h
  refine CallOk.of (impl_IsWord_ct e3) ?_
  conv => whnf
  refine spl (fun g4 => ?_) (fun g4 => ?_)
  · replace h := iteT h g4
    conv => whnf
    refine CutK.norm [1, 2, 9] [64, 128] ?_
    conv => whnf
    refine CutK.norm [1, 2] [64, 128] ?_
    conv => whnf
    obtain ⟨g52, h⟩ := req_ex h
    refine LoopOk.into (impl_toldWord_l0_ct  g52 _ _ _ rfl h) [some 128, some 256, none] [] ⟨⟨rfl, rfl⟩, ⟨rfl, ⟨rfl, trivial, trivial⟩, ⟨rfl, ⟨rfl, rfl⟩, trivial⟩, rfl, trivial⟩, ⟨rfl, rfl⟩, ⟨rfl, rfl⟩, rfl, rfl, rfl, trivial⟩ ?_ (fun _ hs => hs)
    rintro i ts os ⟨rfl, v29, h, rfl, rfl⟩
    conv => whnf
    refine CutK.norm [2, 4] [128, 256, 67001] ?_
    conv => whnf
    cases h
    exact Done.of [some 67001] [] rfl rfl ⟨⟨rfl, rfl⟩, ⟨rfl, ⟨rfl, rfl, rows_same⟩, trivial⟩, ⟨⟨⟨rfl, rfl⟩, trivial⟩, rfl, trivial⟩, trivial⟩
  · replace h := iteF h g4
    conv => whnf
    refine CutK.norm [1, 2, 9] [64, 128] ?_
    conv => whnf
    cases h
    exact Done.of [none] [] rfl rfl ⟨⟨rfl, rfl⟩, ⟨rfl, rfl, trivial⟩, ⟨⟨⟨rfl, rfl⟩, trivial⟩, rfl, trivial⟩, trivial⟩

def impl_CutWord (k : Nat) (a1 : Rw) (a2 : Rw) : Option (Rw × Bool) :=
  ((impl_IsWord k a1).bind fun y3 => (if y3 = true then ((impl_IsOrdinal k a2).bind fun y6 => (if y6 = true then ((impl_cut k a1 a2).bind fun y9 => ((impl_toldWord k y9.1).bind fun y11 => (if y11.2 = true then some (y11.1, true) else some (y11.1, false)))) else some (([] : Rw), false))) else some (([] : Rw), false)))
set_option maxHeartbeats 4000000 in
set_option maxRecDepth 100000 in
theorem impl_CutWord_ct {k : Nat} {a1 : Rw} {a2 : Rw} {r : Rw × Bool} (h : impl_CutWord k a1 a2 = some r) : Ct prog 49 [.agg [.d (D.sl a1)], .agg [.d (D.sl a2)]] (⟨[], []⟩) (.tup [.agg [.os 8 r.1.length], .d (D.bool r.2)]) (⟨[], [(111, true, r.1)]⟩) := by
  rw [impl_CutWord] at h
  refine Ct.of (c := _) mixed func49 ⟨rfl, rfl, rfl⟩ ?_ rfl
  conv => whnf
  obtain ⟨y3, e4, h⟩ := bind_ex h
  refine CallOk.of (impl_IsWord_ct e4) ?_
  conv => whnf
  refine spl (fun g5 => ?_) (fun g5 => ?_)
  · replace h := iteT h g5
    conv => whnf
    obtain ⟨y6, e7, h⟩ := bind_ex h
    refine CallOk.of (impl_IsOrdinal_ct e7) ?_
    conv => whnf
    refine spl (fun g8 => ?_) (fun g8 => ?_)
    · replace h := iteT h g8
      conv => whnf
      refine CutK.go ?_
      conv => whnf
      refine CutK.go ?_
      conv => whnf
      obtain ⟨y9, e10, h⟩ := bind_ex h
      refine CallOk.of (impl_cut_ct e10) ?_
      conv => whnf
      refine CutK.go ?_
      conv => whnf
      refine Take.all (rfl) ?_
      conv => whnf
      obtain ⟨y11, e12, h⟩ := bind_ex h
      refine CallOk.of (impl_toldWord_ct e12) ?_
      conv => whnf
      refine spl (fun g13 => ?_) (fun g13 => ?_)
      · replace h := iteT h g13
        conv => whnf
        refine CutK.go ?_
        conv => whnf
        cases h
        exact Done.of [some 1536] [] rfl rfl ⟨⟨rfl, rfl⟩, ⟨rfl, ⟨rfl, rfl, rows_same⟩, trivial⟩, ⟨⟨⟨rfl, rfl⟩, trivial⟩, rfl, trivial⟩, trivial⟩
      · replace h := iteF h g13
        conv => whnf
        refine CutK.go ?_
        conv => whnf
        cases h
        exact Done.of [some 1536] [] rfl rfl ⟨⟨rfl, rfl⟩, ⟨rfl, ⟨rfl, rfl, rows_same⟩, trivial⟩, ⟨⟨⟨rfl, rfl⟩, trivial⟩, rfl, trivial⟩, trivial⟩
    · replace h := iteF h g8
      conv => whnf
      refine CutK.go ?_
      conv => whnf
      cases h
      exact Done.of [none] [] rfl rfl ⟨⟨rfl, rfl⟩, ⟨rfl, rfl, trivial⟩, ⟨⟨⟨rfl, rfl⟩, trivial⟩, rfl, trivial⟩, trivial⟩
  · replace h := iteF h g5
    conv => whnf
    refine CutK.go ?_
    conv => whnf
    cases h
    exact Done.of [none] [] rfl rfl ⟨⟨rfl, rfl⟩, ⟨rfl, rfl, trivial⟩, ⟨⟨⟨rfl, rfl⟩, trivial⟩, rfl, trivial⟩, trivial⟩

def laws_markRunS_2_l0 (a1 : Int) (K0 : Option Int) : Nat → Option Int
  | 0 => none
  | n + 1 => (K0)
set_option maxRecDepth 100000 in
theorem laws_markRunS_2_l0_ct {a1 : Int} {K0 : Option Int} {r : Int} : ∀ (n : Nat), laws_markRunS_2_l0 a1 K0 n = some r → LoopOk prog 0 (lp f97 0) (mk 30 [(0, .d (.sl [])), (1, .d (D.int .i64 a1)), (5, .d (D.int .i64 0))] []) (LoopEnd prog f97 0 30 (.d (D.int .i64 r)) (⟨[], []⟩) (fun i ts os => (i = 0 ∧ K0 = some r ∧ ts = [(1, .d (D.int .i64 a1))] ∧ os = [])))
  | 0, h => by
      rw [laws_markRunS_2_l0] at h; cases h
  | n + 1, h => by
      rw [laws_markRunS_2_l0] at h
      refine LoopOk.step ?_
      conv => whnf
      refine splD (fun g => absurd g (by decide)) (fun _ => ?_)
      conv => whnf
      exact ⟨_, _, [], [], ⟨rfl, h, rfl, rfl⟩, ⟨⟨rfl, rfl⟩, ⟨rfl, trivial⟩, rfl, trivial⟩⟩
def laws_markRunS_2 (k : Nat) (a1 : Int) : Option Int :=
  (laws_markRunS_2_l0 a1 (some a1) k)
set_option maxHeartbeats 4000000 in
set_option maxRecDepth 100000 in
theorem laws_markRunS_2_ct {k : Nat} {a1 : Int} {r : Int} (h : laws_markRunS_2 k a1 = some r) : Ct prog 97 [.d (.sl []), .d (D.int .i64 a1)] (⟨[], []⟩) (.d (D.int .i64 r)) (⟨[], []⟩) := by
  rw [laws_markRunS_2] at h
  refine Ct.of (c := _) mixed func97 ⟨rfl, rfl, rfl⟩ ?_ rfl
  conv => whnf
  refine LoopOk.into (laws_markRunS_2_l0_ct  _  h) [] [] ⟨⟨rfl, rfl⟩, ⟨rfl, trivial⟩, rfl, rfl, rfl, trivial⟩ ?_ (fun _ hs => hs)
  rintro i ts os ⟨rfl, h, rfl, rfl⟩
  conv => whnf
  refine CutK.go ?_
  conv => whnf
  cases h
  exact Done.of [] [] rfl rfl ⟨⟨rfl, rfl⟩, ⟨rfl, trivial⟩, rfl, trivial⟩

def laws_markWord_2 (k : Nat) (a1 : Int) : Option Int :=
  ((laws_markRunS_2 k a1).bind fun y2 => some y2)
set_option maxHeartbeats 4000000 in
set_option maxRecDepth 100000 in
theorem laws_markWord_2_ct {k : Nat} {a1 : Int} {r : Int} (h : laws_markWord_2 k a1 = some r) : Ct prog 38 [.agg [.d (.sl [])], .d (D.int .i64 a1)] (⟨[], []⟩) (.d (D.int .i64 r)) (⟨[], []⟩) := by
  rw [laws_markWord_2] at h
  refine Ct.of (c := _) mixed func38 ⟨rfl, rfl, rfl⟩ ?_ rfl
  conv => whnf
  obtain ⟨y2, e3, h⟩ := bind_ex h
  refine CallOk.of (laws_markRunS_2_ct e3) ?_
  conv => whnf
  refine CutK.go ?_
  conv => whnf
  cases h
  exact Done.of [] [] rfl rfl ⟨⟨rfl, rfl⟩, ⟨rfl, trivial⟩, rfl, trivial⟩

def laws_markOrdinalTermS_2_l0 (a1 : Int) (K0 : Option Int) : Nat → Option Int
  | 0 => none
  | n + 1 => (K0)
set_option maxRecDepth 100000 in
theorem laws_markOrdinalTermS_2_l0_ct {a1 : Int} {K0 : Option Int} {r : Int} : ∀ (n : Nat), laws_markOrdinalTermS_2_l0 a1 K0 n = some r → LoopOk prog 0 (lp f64 0) (mk 28 [(0, .d (.sl [])), (1, .d (D.int .i64 a1)), (5, .d (D.int .i64 0))] []) (LoopEnd prog f64 0 28 (.d (D.int .i64 r)) (⟨[], []⟩) (fun i ts os => (i = 0 ∧ K0 = some r ∧ ts = [(1, .d (D.int .i64 a1))] ∧ os = [])))
  | 0, h => by
      rw [laws_markOrdinalTermS_2_l0] at h; cases h
  | n + 1, h => by
      rw [laws_markOrdinalTermS_2_l0] at h
      refine LoopOk.step ?_
      conv => whnf
      refine splD (fun g => absurd g (by decide)) (fun _ => ?_)
      conv => whnf
      exact ⟨_, _, [], [], ⟨rfl, h, rfl, rfl⟩, ⟨⟨rfl, rfl⟩, ⟨rfl, trivial⟩, rfl, trivial⟩⟩
def laws_markOrdinalTermS_2 (k : Nat) (a1 : Int) : Option Int :=
  (laws_markOrdinalTermS_2_l0 a1 (some a1) k)
set_option maxHeartbeats 4000000 in
set_option maxRecDepth 100000 in
theorem laws_markOrdinalTermS_2_ct {k : Nat} {a1 : Int} {r : Int} (h : laws_markOrdinalTermS_2 k a1 = some r) : Ct prog 64 [.d (.sl []), .d (D.int .i64 a1)] (⟨[], []⟩) (.d (D.int .i64 r)) (⟨[], []⟩) := by
  rw [laws_markOrdinalTermS_2] at h
  refine Ct.of (c := _) mixed func64 ⟨rfl, rfl, rfl⟩ ?_ rfl
  conv => whnf
  refine LoopOk.into (laws_markOrdinalTermS_2_l0_ct  _  h) [] [] ⟨⟨rfl, rfl⟩, ⟨rfl, trivial⟩, rfl, rfl, rfl, trivial⟩ ?_ (fun _ hs => hs)
  rintro i ts os ⟨rfl, h, rfl, rfl⟩
  conv => whnf
  refine CutK.go ?_
  conv => whnf
  cases h
  exact Done.of [] [] rfl rfl ⟨⟨rfl, rfl⟩, ⟨rfl, trivial⟩, rfl, trivial⟩

def laws_markOrdinalTermS_l0 (rec_laws_markOrdinalTermS : Rw → Int → Option (Int × Rw)) (K0 : Int → Rw → Option (Int × Rw)) : Nat → Rw → Int → Int → Option (Int × Rw)
  | 0, _, _, _ => none
  | n + 1, v15, v16, v17 => (if v17 < (v15.length : Int) then (if 0 ≤ v17 ∧ v17 < (v15.length : Int) then (row_si v15 v17 fun x46 x47 => ((rec_laws_markOrdinalTermS x46 v16).bind fun y50 => (row_si (v15.set ((v17 : Int).toNat) [D.sl y50.2, D.int .i64 x47]) v17 fun x52 x53 => (laws_markOrdinalTermS_l0 rec_laws_markOrdinalTermS K0 n ((v15.set ((v17 : Int).toNat) [D.sl y50.2, D.int .i64 x47]).set ((v17 : Int).toNat) [D.sl x52, D.int .i64 y50.1]) (IntKind.i64.wrap (y50.1 + 1)) (IntKind.i64.wrap (v17 + 1)))))) else none) else (K0 v16 v15))
set_option maxRecDepth 100000 in
theorem laws_markOrdinalTermS_l0_ct {rec_laws_markOrdinalTermS : Rw → Int → Option (Int × Rw)} {K0 : Int → Rw → Option (Int × Rw)} {T : TypeId} (hrec_laws_markOrdinalTermS : ∀ (a1 : Rw) (a2 : Int) (r : Int × Rw), rec_laws_markOrdinalTermS a1 a2 = some r → CtM prog 64 false [.int .i64 a2] a1 (.int .i64 r.1) r.2) {r : Int × Rw} : ∀ (n : Nat) (v15 : Rw) (v16 : Int) (v17 : Int), laws_markOrdinalTermS_l0 rec_laws_markOrdinalTermS K0 n v15 v16 v17 = some r → LoopOk prog 1 (lp f64 0) (mk 28 [(0, .os 0 v15.length), (1, .d (D.int .i64 v16)), (5, .d (D.int .i64 v17))] [(0, .arr T true v15)]) (LoopEndM 1 28 (fun i ts os => (i = 0 ∧ ∃ v30 : Int, ∃ v31 : Rw, K0 v30 v31 = some r ∧ ts = [(1, .d (D.int .i64 v30))] ∧ os = [(0, .arr T true v31)])))
  | 0, _, _, _, h => by
      rw [laws_markOrdinalTermS_l0] at h; cases h
  | n + 1, v15, v16, v17, h => by
      rw [laws_markOrdinalTermS_l0] at h
      refine LoopOk.step ?_
      conv => whnf
      refine splD (fun g44 => ?_) (fun g44 => ?_)
      · replace h := iteP h g44
        conv => whnf
        obtain ⟨g45, h⟩ := req_ex h
        refine Req.of g45 ?_
        conv => whnf
        obtain ⟨g49, x46, x47, e48, h⟩ := row_si_ex h
        refine Row.of _ e48 ?_
        conv => whnf
        obtain ⟨y50, e51, h⟩ := bind_ex h
        refine MarkOk.of (hrec_laws_markOrdinalTermS _ _ _ e51) ?_
        conv => whnf
        refine CutK.go ?_
        conv => whnf
        refine Req.of g45 ?_
        conv => whnf
        obtain ⟨g55, x52, x53, e54, h⟩ := row_si_ex h
        refine Row.of _ e54 ?_
        conv => whnf
        refine CutK.go ?_
        conv => whnf
        exact LoopOk.back (laws_markOrdinalTermS_l0_ct hrec_laws_markOrdinalTermS n _ _ _ h) [some 0] [] ⟨⟨rfl, rfl⟩, ⟨rfl, ⟨rfl, rfl, rows_same⟩, trivial⟩, ⟨(by first | rfl | exact List.length_append.symm | (simp; done) | omega), rfl⟩, rfl, rfl, trivial⟩
      · replace h := iteN h g44
        conv => whnf
        exact ⟨_, _, [some 0], [], ⟨rfl, _, _, h, rfl, rfl⟩, ⟨⟨rfl, rfl⟩, ⟨rfl, ⟨rfl, rfl, rows_same⟩, trivial⟩, rfl, trivial⟩⟩
def laws_markOrdinalTermS_b (k : Nat) (rec_laws_markOrdinalTermS : Rw → Int → Option (Int × Rw)) (a1 : Rw) (a2 : Int) : Option (Int × Rw) :=
  (if a1.isEmpty = true then ((laws_markOrdinalTermS_2 k a2).bind fun y => some (y, ([] : Rw))) else (laws_markOrdinalTermS_l0 rec_laws_markOrdinalTermS (fun (v30 : Int) (v31 : Rw) => (if v31.length = a1.length then some (v30, v31) else none)) k a1 a2 0))
set_option maxHeartbeats 4000000 in
set_option maxRecDepth 100000 in
theorem laws_markOrdinalTermS_b_ct {k : Nat} {rec_laws_markOrdinalTermS : Rw → Int → Option (Int × Rw)} (hrec_laws_markOrdinalTermS : ∀ (a1 : Rw) (a2 : Int) (r : Int × Rw), rec_laws_markOrdinalTermS a1 a2 = some r → CtM prog 64 false [.int .i64 a2] a1 (.int .i64 r.1) r.2) {a1 : Rw} {a2 : Int} {r : Int × Rw} (h : laws_markOrdinalTermS_b k rec_laws_markOrdinalTermS a1 a2 = some r) : CtM prog 64 false [.int .i64 a2] a1 (.int .i64 r.1) r.2 := by
  rw [laws_markOrdinalTermS_b] at h
  refine CtM.of (c := _) mixed func64 ⟨rfl, rfl, rfl⟩ rfl (fun hne T => ?_) (fun h0 => ?_)
  · replace h := iteF h (by cases a1 with | nil => exact absurd rfl hne | cons _ _ => rfl)
    conv => whnf
    refine LoopOk.intoM (laws_markOrdinalTermS_l0_ct hrec_laws_markOrdinalTermS _ _ _ _ h) [some 0] [] ⟨⟨rfl, rfl⟩, ⟨rfl, ⟨rfl, rfl, rows_same⟩, trivial⟩, ⟨rfl, rfl⟩, rfl, rfl, trivial⟩ ?_
    rintro i ts os ⟨rfl, v30, v31, h, rfl, rfl⟩
    conv => whnf
    refine CutK.go ?_
    conv => whnf
    obtain ⟨g56, h⟩ := req_ex h
    cases h
    exact DoneM.of [some 0] [] rfl g56 ⟨⟨rfl, rfl⟩, ⟨rfl, ⟨rfl, rfl, rows_same⟩, trivial⟩, rfl, trivial⟩
  · subst h0
    replace h := iteT h rfl
    obtain ⟨y, e, h⟩ := bind_ex h
    cases h
    exact ⟨rfl, laws_markOrdinalTermS_2_ct e⟩
def laws_markOrdinalTermS : Nat → Rw → Int → Option (Int × Rw)
  | 0, _, _ => none
  | k + 1, a1, a2 => laws_markOrdinalTermS_b k (laws_markOrdinalTermS k) a1 a2
theorem laws_markOrdinalTermS_ct' : ∀ (k : Nat) (a1 : Rw) (a2 : Int) (r : Int × Rw), laws_markOrdinalTermS k a1 a2 = some r → CtM prog 64 false [.int .i64 a2] a1 (.int .i64 r.1) r.2
  | 0, _, _, _, h => by rw [laws_markOrdinalTermS] at h; cases h
  | k + 1, _, _, _, h => by rw [laws_markOrdinalTermS] at h; exact laws_markOrdinalTermS_b_ct (laws_markOrdinalTermS_ct' k) h
theorem laws_markOrdinalTermS_ct {k : Nat} {a1 : Rw} {a2 : Int} {r : Int × Rw} (h : laws_markOrdinalTermS k a1 a2 = some r) : CtM prog 64 false [.int .i64 a2] a1 (.int .i64 r.1) r.2 := laws_markOrdinalTermS_ct' k _ _ _ h

def laws_markRunS_l0 (k : Nat) (K0 : Int → Rw → Option (Int × Rw)) : Nat → Rw → Int → Int → Option (Int × Rw)
  | 0, _, _, _ => none
  | n + 1, v16, v17, v18 => (if v18 < (v16.length : Int) then (if (v17.tmod 3) = (0 : Int) then (if 0 ≤ v18 ∧ v18 < (v16.length : Int) then (row_bs v16 v18 fun x83 x84 => (row_bs (v16.set ((v18 : Int).toNat) [D.bool true, D.sl x84]) v18 fun x87 x88 => ((laws_markOrdinalTermS k x88 (IntKind.i64.wrap (v17 + 1))).bind fun y91 => (laws_markRunS_l0 k K0 n ((v16.set ((v18 : Int).toNat) [D.bool true, D.sl x84]).set ((v18 : Int).toNat) [D.bool x87, D.sl y91.2]) y91.1 (IntKind.i64.wrap (v18 + 1)))))) else none) else (if 0 ≤ v18 ∧ v18 < (v16.length : Int) then (row_bs v16 v18 fun x94 x95 => (row_bs (v16.set ((v18 : Int).toNat) [D.bool false, D.sl x95]) v18 fun x98 x99 => ((laws_markOrdinalTermS k x99 (IntKind.i64.wrap (v17 + 1))).bind fun y102 => (laws_markRunS_l0 k K0 n ((v16.set ((v18 : Int).toNat) [D.bool false, D.sl x95]).set ((v18 : Int).toNat) [D.bool x98, D.sl y102.2]) y102.1 (IntKind.i64.wrap (v18 + 1)))))) else none)) else (K0 v17 v16))
set_option maxRecDepth 100000 in
theorem laws_markRunS_l0_ct {k : Nat} {K0 : Int → Rw → Option (Int × Rw)} {T : TypeId} {r : Int × Rw} : ∀ (n : Nat) (v16 : Rw) (v17 : Int) (v18 : Int), laws_markRunS_l0 k K0 n v16 v17 v18 = some r → LoopOk prog 1 (lp f97 0) (mk 30 [(0, .os 0 v16.length), (1, .d (D.int .i64 v17)), (5, .d (D.int .i64 v18))] [(0, .arr T true v16)]) (LoopEndM 1 30 (fun i ts os => (i = 0 ∧ ∃ v54 : Int, ∃ v55 : Rw, K0 v54 v55 = some r ∧ ts = [(1, .d (D.int .i64 v54))] ∧ os = [(0, .arr T true v55)])))
  | 0, _, _, _, h => by
      rw [laws_markRunS_l0] at h; cases h
  | n + 1, v16, v17, v18, h => by
      rw [laws_markRunS_l0] at h
      refine LoopOk.step ?_
      conv => whnf
      refine splD (fun g80 => ?_) (fun g80 => ?_)
      · replace h := iteP h g80
        conv => whnf
        refine Req.of (by decide) ?_
        conv => whnf
        refine splD (fun g81 => ?_) (fun g81 => ?_)
        · replace h := iteP h g81
          conv => whnf
          obtain ⟨g82, h⟩ := req_ex h
          refine Req.of g82 ?_
          conv => whnf
          obtain ⟨g86, x83, x84, e85, h⟩ := row_bs_ex h
          refine Row.of _ e85 ?_
          conv => whnf
          refine Req.of g82 ?_
          conv => whnf
          obtain ⟨g90, x87, x88, e89, h⟩ := row_bs_ex h
          refine Row.of _ e89 ?_
          conv => whnf
          obtain ⟨y91, e92, h⟩ := bind_ex h
          refine MarkOk.of (laws_markOrdinalTermS_ct e92) ?_
          conv => whnf
          refine CutK.go ?_
          conv => whnf
          exact LoopOk.back (laws_markRunS_l0_ct  n _ _ _ h) [some 0] [] ⟨⟨rfl, rfl⟩, ⟨rfl, ⟨rfl, rfl, rows_same⟩, trivial⟩, ⟨(by first | rfl | exact List.length_append.symm | (simp; done) | omega), rfl⟩, rfl, rfl, trivial⟩
        · replace h := iteN h g81
          conv => whnf
          obtain ⟨g93, h⟩ := req_ex h
          refine Req.of g93 ?_
          conv => whnf
          obtain ⟨g97, x94, x95, e96, h⟩ := row_bs_ex h
          refine Row.of _ e96 ?_
          conv => whnf
          refine Req.of g93 ?_
          conv => whnf
          obtain ⟨g101, x98, x99, e100, h⟩ := row_bs_ex h
          refine Row.of _ e100 ?_
          conv => whnf
          obtain ⟨y102, e103, h⟩ := bind_ex h
          refine MarkOk.of (laws_markOrdinalTermS_ct e103) ?_
          conv => whnf
          refine CutK.go ?_
          conv => whnf
          exact LoopOk.back (laws_markRunS_l0_ct  n _ _ _ h) [some 0] [] ⟨⟨rfl, rfl⟩, ⟨rfl, ⟨rfl, rfl, rows_same⟩, trivial⟩, ⟨(by first | rfl | exact List.length_append.symm | (simp; done) | omega), rfl⟩, rfl, rfl, trivial⟩
      · replace h := iteN h g80
        conv => whnf
        exact ⟨_, _, [some 0], [], ⟨rfl, _, _, h, rfl, rfl⟩, ⟨⟨rfl, rfl⟩, ⟨rfl, ⟨rfl, rfl, rows_same⟩, trivial⟩, rfl, trivial⟩⟩
def laws_markRunS (k : Nat) (a1 : Rw) (a2 : Int) : Option (Int × Rw) :=
  (if a1.isEmpty = true then ((laws_markRunS_2 k a2).bind fun y => some (y, ([] : Rw))) else (laws_markRunS_l0 k (fun (v54 : Int) (v55 : Rw) => (if v55.length = a1.length then some (v54, v55) else none)) k a1 a2 0))
set_option maxHeartbeats 4000000 in
set_option maxRecDepth 100000 in
theorem laws_markRunS_ct {k : Nat} {a1 : Rw} {a2 : Int} {r : Int × Rw} (h : laws_markRunS k a1 a2 = some r) : CtM prog 97 false [.int .i64 a2] a1 (.int .i64 r.1) r.2 := by
  rw [laws_markRunS] at h
  refine CtM.of (c := _) mixed func97 ⟨rfl, rfl, rfl⟩ rfl (fun hne T => ?_) (fun h0 => ?_)
  · replace h := iteF h (by cases a1 with | nil => exact absurd rfl hne | cons _ _ => rfl)
    conv => whnf
    refine LoopOk.intoM (laws_markRunS_l0_ct  _ _ _ _ h) [some 0] [] ⟨⟨rfl, rfl⟩, ⟨rfl, ⟨rfl, rfl, rows_same⟩, trivial⟩, ⟨rfl, rfl⟩, rfl, rfl, trivial⟩ ?_
    rintro i ts os ⟨rfl, v54, v55, h, rfl, rfl⟩
    conv => whnf
    refine CutK.go ?_
    conv => whnf
    obtain ⟨g104, h⟩ := req_ex h
    cases h
    exact DoneM.of [some 0] [] rfl g104 ⟨⟨rfl, rfl⟩, ⟨rfl, ⟨rfl, rfl, rows_same⟩, trivial⟩, rfl, trivial⟩
  · subst h0
    replace h := iteT h rfl
    obtain ⟨y, e, h⟩ := bind_ex h
    cases h
    exact ⟨rfl, laws_markRunS_2_ct e⟩

def laws_markWord (k : Nat) (a1 : Rw) (a2 : Int) : Option (Int × Rw) :=
  (if a1.isEmpty = true then ((laws_markWord_2 k a2).bind fun y => some (y, ([] : Rw))) else ((laws_markRunS k a1 a2).bind fun y3 => (if y3.2.length = a1.length then some (y3.1, y3.2) else none)))
set_option maxHeartbeats 4000000 in
set_option maxRecDepth 100000 in
theorem laws_markWord_ct {k : Nat} {a1 : Rw} {a2 : Int} {r : Int × Rw} (h : laws_markWord k a1 a2 = some r) : CtM prog 38 true [.int .i64 a2] a1 (.int .i64 r.1) r.2 := by
  rw [laws_markWord] at h
  refine CtM.of (c := _) mixed func38 ⟨rfl, rfl, rfl⟩ rfl (fun hne T => ?_) (fun h0 => ?_)
  · replace h := iteF h (by cases a1 with | nil => exact absurd rfl hne | cons _ _ => rfl)
    conv => whnf
    refine Choice.new ?_
    conv => whnf
    refine Req.of (rfl) ?_
    conv => whnf
    obtain ⟨y3, e4, h⟩ := bind_ex h
    refine MarkOk.of (laws_markRunS_ct e4) ?_
    conv => whnf
    refine CutK.go ?_
    conv => whnf
    obtain ⟨g5, h⟩ := req_ex h
    cases h
    exact DoneM.of [some 0] [] rfl g5 ⟨⟨rfl, rfl⟩, ⟨rfl, ⟨rfl, rfl, rows_same⟩, trivial⟩, rfl, trivial⟩
  · subst h0
    replace h := iteT h rfl
    obtain ⟨y, e, h⟩ := bind_ex h
    cases h
    exact ⟨rfl, laws_markWord_2_ct e⟩

def laws_markOrdinal_2 (k : Nat) (a1 : Int) : Option Int :=
  ((laws_markOrdinalTermS_2 k a1).bind fun y2 => some y2)
set_option maxHeartbeats 4000000 in
set_option maxRecDepth 100000 in
theorem laws_markOrdinal_2_ct {k : Nat} {a1 : Int} {r : Int} (h : laws_markOrdinal_2 k a1 = some r) : Ct prog 22 [.agg [.d (.sl [])], .d (D.int .i64 a1)] (⟨[], []⟩) (.d (D.int .i64 r)) (⟨[], []⟩) := by
  rw [laws_markOrdinal_2] at h
  refine Ct.of (c := _) mixed func22 ⟨rfl, rfl, rfl⟩ ?_ rfl
  conv => whnf
  obtain ⟨y2, e3, h⟩ := bind_ex h
  refine CallOk.of (laws_markOrdinalTermS_2_ct e3) ?_
  conv => whnf
  refine CutK.go ?_
  conv => whnf
  cases h
  exact Done.of [] [] rfl rfl ⟨⟨rfl, rfl⟩, ⟨rfl, trivial⟩, rfl, trivial⟩

def laws_markOrdinal (k : Nat) (a1 : Rw) (a2 : Int) : Option (Int × Rw) :=
  (if a1.isEmpty = true then ((laws_markOrdinal_2 k a2).bind fun y => some (y, ([] : Rw))) else ((laws_markOrdinalTermS k a1 a2).bind fun y3 => (if y3.2.length = a1.length then some (y3.1, y3.2) else none)))
set_option maxHeartbeats 4000000 in
set_option maxRecDepth 100000 in
theorem laws_markOrdinal_ct {k : Nat} {a1 : Rw} {a2 : Int} {r : Int × Rw} (h : laws_markOrdinal k a1 a2 = some r) : CtM prog 22 true [.int .i64 a2] a1 (.int .i64 r.1) r.2 := by
  rw [laws_markOrdinal] at h
  refine CtM.of (c := _) mixed func22 ⟨rfl, rfl, rfl⟩ rfl (fun hne T => ?_) (fun h0 => ?_)
  · replace h := iteF h (by cases a1 with | nil => exact absurd rfl hne | cons _ _ => rfl)
    conv => whnf
    refine Choice.new ?_
    conv => whnf
    refine Req.of (rfl) ?_
    conv => whnf
    obtain ⟨y3, e4, h⟩ := bind_ex h
    refine MarkOk.of (laws_markOrdinalTermS_ct e4) ?_
    conv => whnf
    refine CutK.go ?_
    conv => whnf
    obtain ⟨g5, h⟩ := req_ex h
    cases h
    exact DoneM.of [some 0] [] rfl g5 ⟨⟨rfl, rfl⟩, ⟨rfl, ⟨rfl, rfl, rows_same⟩, trivial⟩, rfl, trivial⟩
  · subst h0
    replace h := iteT h rfl
    obtain ⟨y, e, h⟩ := bind_ex h
    cases h
    exact ⟨rfl, laws_markOrdinal_2_ct e⟩

def spec_woCut_l0 (k : Nat) (a1 : Rw) (K0 : Rw → Option Rw) : Rw → Rw → Rw → Option Rw
  | [], v19, v20 => (K0 v20)
  | cs :: rest, v19, v20 => (cell_bs cs fun x79 x80 => (if x79 = true then ((spec_odCmp k v19 x80).bind fun y83 => (if y83 ≤ (0 : Int) then ((spec_woPut k v20 true v19).bind fun y86 => some y86) else ((spec_woPut k v20 true x80).bind fun y88 => ((spec_odLess k v19 x80).bind fun y90 => (spec_woCut_l0 k a1 K0 rest y90 y88))))) else ((spec_odCmp k v19 x80).bind fun y92 => (if y92 ≤ (0 : Int) then ((spec_woPut k v20 false v19).bind fun y95 => some y95) else ((spec_woPut k v20 false x80).bind fun y97 => ((spec_odLess k v19 x80).bind fun y99 => (spec_woCut_l0 k a1 K0 rest y99 y97)))))))
set_option maxRecDepth 100000 in
theorem spec_woCut_l0_ct {k : Nat} {a1 : Rw} {K0 : Rw → Option Rw} {r : Rw} (hx : a1.length ≤ cap) : ∀ (rest : Rw) (v18n : Nat) (v19 : Rw) (v20 : Rw), a1.drop v18n = rest → spec_woCut_l0 k a1 K0 rest v19 v20 = some r → LoopOk prog 0 (lp f108 0) (mk 38 [(3, .ptr 192 0), (4, .ptr 256 0), (5, .ptr 320 0), (10, .d (D.sl a1)), (11, .d (D.int .i64 (a1.length : Int))), (12, .d (D.int .i64 (v18n : Int)))] [(192, .box 28 [.d (D.sl v19)]), (256, .box 56 [.es]), (320, .box 56 [.os 64000 v20.length]), (64000, .arr 111 false v20)]) (LoopEnd prog f108 0 38 (.agg [.os 8 r.length]) (⟨[], [(111, false, r)]⟩) (fun i ts os => (i = 0 ∧ ∃ v54 : Rw, K0 v54 = some r ∧ ts = [(4, .ptr 256 0), (5, .ptr 320 0)] ∧ os = [(256, .box 56 [.es]), (320, .box 56 [.os 67001 v54.length]), (67001, .arr 111 false v54)])))
  | [], v18n, v19, v20, hd, h => by
      rw [spec_woCut_l0] at h
      have hn := drop_nil hd
      refine LoopOk.step ?_
      conv => whnf
      refine splD (fun g => absurd g hn) (fun _ => ?_)
      conv => whnf
      exact ⟨_, _, [some 256, some 320, some 64000], [], ⟨rfl, _, h, rfl, rfl⟩, ⟨⟨rfl, rfl⟩, ⟨rfl, ⟨rfl, trivial, trivial⟩, ⟨rfl, ⟨rfl, rfl⟩, trivial⟩, ⟨rfl, rfl, rows_same⟩, trivial⟩, ⟨rfl, rfl⟩, ⟨rfl, rfl⟩, trivial⟩⟩
  | cs :: rest, v18n, v19, v20, hd, h => by
      rw [spec_woCut_l0] at h
      obtain ⟨hrow, hd1, hlt⟩ := drop_cons hd
      refine LoopOk.step ?_
      conv => whnf
      refine splD (fun _ => ?_) (fun g => absurd hlt g)
      conv => whnf
      obtain ⟨x79, x80, e81, h⟩ := cell_bs_ex h
      rw [e81] at hrow
      refine Req.of (Int.natCast_nonneg _) ?_
      refine Row.of _ hrow ?_
      conv => whnf
      refine spl (fun g82 => ?_) (fun g82 => ?_)
      · replace h := iteT h g82
        conv => whnf
        obtain ⟨y83, e84, h⟩ := bind_ex h
        refine CallOk.of (spec_odCmp_ct e84) ?_
        conv => whnf
        refine splD (fun g85 => ?_) (fun g85 => ?_)
        · replace h := iteP h g85
          conv => whnf
          refine CutK.norm [3, 4, 5, 7, 10, 11, 12, 20] [192, 256, 320, 448, 64000] ?_
          conv => whnf
          refine splT ?_
          conv => whnf
          refine Take.all (rfl) ?_
          conv => whnf
          obtain ⟨y86, e87, h⟩ := bind_ex h
          refine CallOk.of (spec_woPut_ct e87) ?_
          conv => whnf
          refine CutK.norm [4] [256, 1600] ?_
          conv => whnf
          cases h
          exact Done.of [some 1600] [] rfl rfl ⟨⟨rfl, rfl⟩, ⟨rfl, ⟨rfl, rfl, rows_same⟩, trivial⟩, ⟨⟨rfl, rfl⟩, trivial⟩, trivial⟩
        · replace h := iteN h g85
          conv => whnf
          refine CutK.norm [3, 4, 5, 7, 10, 11, 12, 20] [192, 256, 320, 448, 64000] ?_
          conv => whnf
          refine CutK.norm [3, 4, 5, 7, 10, 11, 12] [192, 256, 320, 448, 64000] ?_
          conv => whnf
          refine splT ?_
          conv => whnf
          refine Take.all (rfl) ?_
          conv => whnf
          obtain ⟨y88, e89, h⟩ := bind_ex h
          refine CallOk.of (spec_woPut_ct e89) ?_
          conv => whnf
          refine CutK.norm [3, 4, 5, 7, 10, 11, 12] [192, 256, 320, 448, 1984] ?_
          conv => whnf
          obtain ⟨y90, e91, h⟩ := bind_ex h
          refine CallOk.of (spec_odLess_ct e91) ?_
          conv => whnf
          refine CutK.norm [3, 4, 5, 10, 11, 12] [192, 256, 320, 1984] ?_
          conv => whnf
          exact LoopOk.back (spec_woCut_l0_ct hx rest (v18n + 1) _ _ hd1 h) [some 192, some 256, some 320, some 1984] [] ⟨⟨rfl, rfl⟩, ⟨rfl, ⟨rfl, rfl, trivial⟩, ⟨rfl, trivial, trivial⟩, ⟨rfl, ⟨rfl, rfl⟩, trivial⟩, ⟨rfl, rfl, rows_same⟩, trivial⟩, ⟨rfl, rfl⟩, ⟨rfl, rfl⟩, ⟨rfl, rfl⟩, rfl, rfl, i64eq (wrap_up hlt hx), trivial⟩
      · replace h := iteF h g82
        conv => whnf
        obtain ⟨y92, e93, h⟩ := bind_ex h
        refine CallOk.of (spec_odCmp_ct e93) ?_
        conv => whnf
        refine splD (fun g94 => ?_) (fun g94 => ?_)
        · replace h := iteP h g94
          conv => whnf
          refine CutK.norm [3, 4, 5, 7, 10, 11, 12, 20] [192, 256, 320, 448, 64000] ?_
          conv => whnf
          refine splF ?_
          conv => whnf
          refine Take.all (rfl) ?_
          conv => whnf
          obtain ⟨y95, e96, h⟩ := bind_ex h
          refine CallOk.of (spec_woPut_ct e96) ?_
          conv => whnf
          refine CutK.norm [4] [256, 1600] ?_
          conv => whnf
          cases h
          exact Done.of [some 1600] [] rfl rfl ⟨⟨rfl, rfl⟩, ⟨rfl, ⟨rfl, rfl, rows_same⟩, trivial⟩, ⟨⟨rfl, rfl⟩, trivial⟩, trivial⟩
        · replace h := iteN h g94
          conv => whnf
          refine CutK.norm [3, 4, 5, 7, 10, 11, 12, 20] [192, 256, 320, 448, 64000] ?_
          conv => whnf
          refine CutK.norm [3, 4, 5, 7, 10, 11, 12] [192, 256, 320, 448, 64000] ?_
          conv => whnf
          refine splF ?_
          conv => whnf
          refine Take.all (rfl) ?_
          conv => whnf
          obtain ⟨y97, e98, h⟩ := bind_ex h
          refine CallOk.of (spec_woPut_ct e98) ?_
          conv => whnf
          refine CutK.norm [3, 4, 5, 7, 10, 11, 12] [192, 256, 320, 448, 1984] ?_
          conv => whnf
          obtain ⟨y99, e100, h⟩ := bind_ex h
          refine CallOk.of (spec_odLess_ct e100) ?_
          conv => whnf
          refine CutK.norm [3, 4, 5, 10, 11, 12] [192, 256, 320, 1984] ?_
          conv => whnf
          exact LoopOk.back (spec_woCut_l0_ct hx rest (v18n + 1) _ _ hd1 h) [some 192, some 256, some 320, some 1984] [] ⟨⟨rfl, rfl⟩, ⟨rfl, ⟨rfl, rfl, trivial⟩, ⟨rfl, trivial, trivial⟩, ⟨rfl, ⟨rfl, rfl⟩, trivial⟩, ⟨rfl, rfl, rows_same⟩, trivial⟩, ⟨rfl, rfl⟩, ⟨rfl, rfl⟩, ⟨rfl, rfl⟩, rfl, rfl, i64eq (wrap_up hlt hx), trivial⟩
def spec_woCut (k : Nat) (a1 : Rw) (a2 : Rw) : Option Rw :=
  (if a1.length ≤ cap then (spec_woCut_l0 k a1 (fun (v54 : Rw) => some v54) a1 a2 ([] : Rw)) else none)
set_option maxHeartbeats 4000000 in
set_option maxRecDepth 100000 in
theorem spec_woCut_ct {k : Nat} {a1 : Rw} {a2 : Rw} {r : Rw} (h : spec_woCut k a1 a2 = some r) : Ct prog 108 [.agg [.d (D.sl a1)], .agg [.d (D.sl a2)]] (⟨[], []⟩) (.agg [.os 8 r.length]) (⟨[], [(111, false, r)]⟩) := by
  rw [spec_woCut] at h
  refine Ct.of (c := _) mixed func108 ⟨rfl, rfl, rfl⟩ ?_ rfl
  conv => whnf
  obtain ⟨g101, h⟩ := req_ex h
  refine LoopOk.into (spec_woCut_l0_ct  g101 _ _ _ _ rfl h) [some 192, some 256, some 320, none] [] ⟨⟨rfl, rfl⟩, ⟨rfl, ⟨rfl, rfl, trivial⟩, ⟨rfl, trivial, trivial⟩, ⟨rfl, ⟨rfl, rfl⟩, trivial⟩, rfl, trivial⟩, ⟨rfl, rfl⟩, ⟨rfl, rfl⟩, ⟨rfl, rfl⟩, rfl, rfl, rfl, trivial⟩ ?_ (fun _ hs => hs)
  rintro i ts os ⟨rfl, v54, h, rfl, rfl⟩
  conv => whnf
  refine CutK.norm [4, 5] [256, 320, 67001] ?_
  conv => whnf
  cases h
  exact Done.of [some 67001] [] rfl rfl ⟨⟨rfl, rfl⟩, ⟨rfl, ⟨rfl, rfl, rows_same⟩, trivial⟩, ⟨⟨rfl, rfl⟩, trivial⟩, trivial⟩

def spec_odOwn_l0 (rec_spec_odOwn : Rw → Option Rw) (a1 : Rw) (K0 : Rw → Option Rw) : Rw → Rw → Option Rw
  | [], v10 => (K0 v10)
  | cs :: rest, v10 => (cell_si cs fun x28 x29 => ((rec_spec_odOwn x28).bind fun y31 => (if v10.length + 1 ≤ cap then (spec_odOwn_l0 rec_spec_odOwn a1 K0 rest (v10 ++ ([[D.sl y31, D.int .i64 x29]]))) else none)))
set_option maxRecDepth 100000 in
theorem spec_odOwn_l0_ct {rec_spec_odOwn : Rw → Option Rw} {a1 : Rw} {K0 : Rw → Option Rw} (hrec_spec_odOwn : ∀ (a1 : Rw) (r : Rw), rec_spec_odOwn a1 = some r → Ct prog 154 [.agg [.d (D.sl a1)]] (⟨[], []⟩) (.agg [.os 8 r.length]) (⟨[], [(119, true, r)]⟩)) {r : Rw} (hx : a1.length ≤ cap) : ∀ (rest : Rw) (v9n : Nat) (v10 : Rw), a1.drop v9n = rest → spec_odOwn_l0 rec_spec_odOwn a1 K0 rest v10 = some r → LoopOk prog 0 (lp f154 0) (mk 27 [(2, .ptr 128 0), (3, .ptr 192 0), (8, .d (D.sl a1)), (9, .d (D.int .i64 (a1.length : Int))), (10, .d (D.int .i64 (v9n : Int)))] [(128, .box 28 [.es]), (192, .box 28 [.os 64000 v10.length]), (64000, .arr 119 true v10)]) (LoopEnd prog f154 0 27 (.agg [.os 8 r.length]) (⟨[], [(119, true, r)]⟩) (fun i ts os => (i = 0 ∧ ∃ v19 : Rw, K0 v19 = some r ∧ ts = [(2, .ptr 128 0), (3, .ptr 192 0)] ∧ os = [(128, .box 28 [.es]), (192, .box 28 [.os 67001 v19.length]), (67001, .arr 119 true v19)])))
  | [], v9n, v10, hd, h => by
      rw [spec_odOwn_l0] at h
      have hn := drop_nil hd
      refine LoopOk.step ?_
      conv => whnf
      refine splD (fun g => absurd g hn) (fun _ => ?_)
      conv => whnf
      exact ⟨_, _, [some 128, some 192, some 64000], [], ⟨rfl, _, h, rfl, rfl⟩, ⟨⟨rfl, rfl⟩, ⟨rfl, ⟨rfl, trivial, trivial⟩, ⟨rfl, ⟨rfl, rfl⟩, trivial⟩, ⟨rfl, rfl, rows_same⟩, trivial⟩, ⟨rfl, rfl⟩, ⟨rfl, rfl⟩, trivial⟩⟩
  | cs :: rest, v9n, v10, hd, h => by
      rw [spec_odOwn_l0] at h
      obtain ⟨hrow, hd1, hlt⟩ := drop_cons hd
      refine LoopOk.step ?_
      conv => whnf
      refine splD (fun _ => ?_) (fun g => absurd hlt g)
      conv => whnf
      obtain ⟨x28, x29, e30, h⟩ := cell_si_ex h
      rw [e30] at hrow
      refine Req.of (Int.natCast_nonneg _) ?_
      refine Row.of _ hrow ?_
      conv => whnf
      obtain ⟨y31, e32, h⟩ := bind_ex h
      refine CallOk.of (hrec_spec_odOwn _ _ e32) ?_
      conv => whnf
      refine Take.all (rfl) ?_
      conv => whnf
      refine Take.all (rfl) ?_
      conv => whnf
      refine Take.all (by first | rfl | exact List.length_append.symm | (simp; done) | omega) ?_
      conv => whnf
      obtain ⟨g33, h⟩ := req_ex h
      refine Req.of (room (b := 32) (by decide) g33 (wide1 rfl wide0)) ?_
      conv => whnf
      refine CutK.go ?_
      conv => whnf
      exact LoopOk.back (spec_odOwn_l0_ct hrec_spec_odOwn hx rest (v9n + 1) _ hd1 h) [some 128, some 192, some 1472] [] ⟨⟨rfl, rfl⟩, ⟨rfl, ⟨rfl, trivial, trivial⟩, ⟨rfl, ⟨(by first | rfl | exact List.length_append.symm | (simp; done) | omega), rfl⟩, trivial⟩, ⟨rfl, rfl, rows_same⟩, trivial⟩, ⟨rfl, rfl⟩, ⟨rfl, rfl⟩, rfl, rfl, i64eq (wrap_up hlt hx), trivial⟩
def spec_odOwn_b (rec_spec_odOwn : Rw → Option Rw) (a1 : Rw) : Option Rw :=
  (if a1.length ≤ cap then (spec_odOwn_l0 rec_spec_odOwn a1 (fun (v19 : Rw) => some v19) a1 ([] : Rw)) else none)
set_option maxHeartbeats 4000000 in
set_option maxRecDepth 100000 in
theorem spec_odOwn_b_ct {rec_spec_odOwn : Rw → Option Rw} (hrec_spec_odOwn : ∀ (a1 : Rw) (r : Rw), rec_spec_odOwn a1 = some r → Ct prog 154 [.agg [.d (D.sl a1)]] (⟨[], []⟩) (.agg [.os 8 r.length]) (⟨[], [(119, true, r)]⟩)) {a1 : Rw} {r : Rw} (h : spec_odOwn_b rec_spec_odOwn a1 = some r) : Ct prog 154 [.agg [.d (D.sl a1)]] (⟨[], []⟩) (.agg [.os 8 r.length]) (⟨[], [(119, true, r)]⟩) := by
  rw [spec_odOwn_b] at h
  refine Ct.of (c := _) mixed func154 ⟨rfl, rfl, rfl⟩ ?_ rfl
  conv => whnf
  obtain ⟨g34, h⟩ := req_ex h
  refine LoopOk.into (spec_odOwn_l0_ct hrec_spec_odOwn g34 _ _ _ rfl h) [some 128, some 192, none] [] ⟨⟨rfl, rfl⟩, ⟨rfl, ⟨rfl, trivial, trivial⟩, ⟨rfl, ⟨rfl, rfl⟩, trivial⟩, rfl, trivial⟩, ⟨rfl, rfl⟩, ⟨rfl, rfl⟩, rfl, rfl, rfl, trivial⟩ ?_ (fun _ hs => hs)
  rintro i ts os ⟨rfl, v19, h, rfl, rfl⟩
  conv => whnf
  refine CutK.go ?_
  conv => whnf
  cases h
  exact Done.of [some 67001] [] rfl rfl ⟨⟨rfl, rfl⟩, ⟨rfl, ⟨rfl, rfl, rows_same⟩, trivial⟩, ⟨⟨rfl, rfl⟩, trivial⟩, trivial⟩
def spec_odOwn : Nat → Rw → Option Rw
  | 0, _ => none
  | k + 1, a1 => spec_odOwn_b (spec_odOwn k) a1
theorem spec_odOwn_ct' : ∀ (k : Nat) (a1 : Rw) (r : Rw), spec_odOwn k a1 = some r → Ct prog 154 [.agg [.d (D.sl a1)]] (⟨[], []⟩) (.agg [.os 8 r.length]) (⟨[], [(119, true, r)]⟩)
  | 0, _, _, h => by rw [spec_odOwn] at h; cases h
  | k + 1, _, _, h => by rw [spec_odOwn] at h; exact spec_odOwn_b_ct (spec_odOwn_ct' k) h
theorem spec_odOwn_ct {k : Nat} {a1 : Rw} {r : Rw} (h : spec_odOwn k a1 = some r) : Ct prog 154 [.agg [.d (D.sl a1)]] (⟨[], []⟩) (.agg [.os 8 r.length]) (⟨[], [(119, true, r)]⟩) := spec_odOwn_ct' k _ _ h

def spec_woIf_l0 (k : Nat) (a1 : Rw) (K0 : Rw → Option (Rw × Bool)) : Rw → Rw → Option (Rw × Bool)
  | [], v14 => (K0 v14)
  | cs :: rest, v14 => (cell_bs cs fun x42 x43 => (if x42 = true then ((spec_odOwn k x43).bind fun y46 => (if v14.length + 1 ≤ cap then (spec_woIf_l0 k a1 K0 rest (v14 ++ ([[D.bool true, D.sl y46]]))) else none)) else ((spec_odOwn k x43).bind fun y49 => (if v14.length + 1 ≤ cap then (spec_woIf_l0 k a1 K0 rest (v14 ++ ([[D.bool false, D.sl y49]]))) else none))))
set_option maxRecDepth 100000 in
theorem spec_woIf_l0_ct {k : Nat} {a1 : Rw} {K0 : Rw → Option (Rw × Bool)} {r : Rw × Bool} (hx : a1.length ≤ cap) : ∀ (rest : Rw) (v13n : Nat) (v14 : Rw), a1.drop v13n = rest → spec_woIf_l0 k a1 K0 rest v14 = some r → LoopOk prog 0 (lp f93 0) (mk 32 [(2, .ptr 128 0), (4, .ptr 256 0), (13, .d (D.sl a1)), (14, .d (D.int .i64 (a1.length : Int))), (15, .d (D.int .i64 (v13n : Int)))] [(128, .box 56 [.es]), (256, .box 56 [.os 64000 v14.length]), (64000, .arr 111 true v14)]) (LoopEnd prog f93 0 32 (.tup [.agg [.os 8 r.1.length], .d (D.bool r.2)]) (⟨[], [(111, true, r.1)]⟩) (fun i ts os => (i = 0 ∧ ∃ v29 : Rw, K0 v29 = some r ∧ ts = [(2, .ptr 128 0), (4, .ptr 256 0)] ∧ os = [(128, .box 56 [.es]), (256, .box 56 [.os 67001 v29.length]), (67001, .arr 111 true v29)])))
  | [], v13n, v14, hd, h => by
      rw [spec_woIf_l0] at h
      have hn := drop_nil hd
      refine LoopOk.step ?_
      conv => whnf
      refine splD (fun g => absurd g hn) (fun _ => ?_)
      conv => whnf
      exact ⟨_, _, [some 128, some 256, some 64000], [], ⟨rfl, _, h, rfl, rfl⟩, ⟨⟨rfl, rfl⟩, ⟨rfl, ⟨rfl, trivial, trivial⟩, ⟨rfl, ⟨rfl, rfl⟩, trivial⟩, ⟨rfl, rfl, rows_same⟩, trivial⟩, ⟨rfl, rfl⟩, ⟨rfl, rfl⟩, trivial⟩⟩
  | cs :: rest, v13n, v14, hd, h => by
      rw [spec_woIf_l0] at h
      obtain ⟨hrow, hd1, hlt⟩ := drop_cons hd
      refine LoopOk.step ?_
      conv => whnf
      refine splD (fun _ => ?_) (fun g => absurd hlt g)
      conv => whnf
      obtain ⟨x42, x43, e44, h⟩ := cell_bs_ex h
      rw [e44] at hrow
      refine Req.of (Int.natCast_nonneg _) ?_
      refine Row.of _ hrow ?_
      conv => whnf
      refine spl (fun g45 => ?_) (fun g45 => ?_)
      · replace h := iteT h g45
        conv => whnf
        refine splT ?_
        conv => whnf
        obtain ⟨y46, e47, h⟩ := bind_ex h
        refine CallOk.of (spec_odOwn_ct e47) ?_
        conv => whnf
        refine Take.all (rfl) ?_
        conv => whnf
        refine Take.all (rfl) ?_
        conv => whnf
        refine Take.all (by first | rfl | exact List.length_append.symm | (simp; done) | omega) ?_
        conv => whnf
        obtain ⟨g48, h⟩ := req_ex h
        refine Req.of (room (b := 32) (by decide) g48 (wide1 rfl wide0)) ?_
        conv => whnf
        refine CutK.norm [2, 4, 13, 14, 15] [128, 256, 1792] ?_
        conv => whnf
        exact LoopOk.back (spec_woIf_l0_ct hx rest (v13n + 1) _ hd1 h) [some 128, some 256, some 1792] [] ⟨⟨rfl, rfl⟩, ⟨rfl, ⟨rfl, trivial, trivial⟩, ⟨rfl, ⟨(by first | rfl | exact List.length_append.symm | (simp; done) | omega), rfl⟩, trivial⟩, ⟨rfl, rfl, rows_same⟩, trivial⟩, ⟨rfl, rfl⟩, ⟨rfl, rfl⟩, rfl, rfl, i64eq (wrap_up hlt hx), trivial⟩
      · replace h := iteF h g45
        conv => whnf
        refine splF ?_
        conv => whnf
        obtain ⟨y49, e50, h⟩ := bind_ex h
        refine CallOk.of (spec_odOwn_ct e50) ?_
        conv => whnf
        refine Take.all (rfl) ?_
        conv => whnf
        refine Take.all (rfl) ?_
        conv => whnf
        refine Take.all (by first | rfl | exact List.length_append.symm | (simp; done) | omega) ?_
        conv => whnf
        obtain ⟨g51, h⟩ := req_ex h
        refine Req.of (room (b := 32) (by decide) g51 (wide1 rfl wide0)) ?_
        conv => whnf
        refine CutK.norm [2, 4, 13, 14, 15] [128, 256, 1792] ?_
        conv => whnf
        exact LoopOk.back (spec_woIf_l0_ct hx rest (v13n + 1) _ hd1 h) [some 128, some 256, some 1792] [] ⟨⟨rfl, rfl⟩, ⟨rfl, ⟨rfl, trivial, trivial⟩, ⟨rfl, ⟨(by first | rfl | exact List.length_append.symm | (simp; done) | omega), rfl⟩, trivial⟩, ⟨rfl, rfl, rows_same⟩, trivial⟩, ⟨rfl, rfl⟩, ⟨rfl, rfl⟩, rfl, rfl, i64eq (wrap_up hlt hx), trivial⟩
def spec_woIf (k : Nat) (a1 : Rw) : Option (Rw × Bool) :=
  ((spec_woGood k a1).bind fun y2 => (if y2 = true then (if a1.length ≤ cap then (spec_woIf_l0 k a1 (fun (v29 : Rw) => some (v29, true)) a1 ([] : Rw)) else none) else some (([] : Rw), false)))
set_option maxHeartbeats 4000000 in
set_option maxRecDepth 100000 in
theorem spec_woIf_ct {k : Nat} {a1 : Rw} {r : Rw × Bool} (h : spec_woIf k a1 = some r) : Ct prog 93 [.agg [.d (D.sl a1)]] (⟨[], []⟩) (.tup [.agg [.os 8 r.1.length], .d (D.bool r.2)]) (⟨[], [(111, true, r.1)]⟩) := by
  rw [spec_woIf] at h
  refine Ct.of (c := _) mixed func93 ⟨rfl, rfl, rfl⟩ ?_ rfl
  conv => whnf
  obtain ⟨y2, e3, h⟩ := bind_ex h
  refine CallOk.of (spec_woGood_ct e3) ?_
  conv => whnf
  refine spl (fun g4 => ?_) (fun g4 => ?_)
  · replace h := iteT h g4
    conv => whnf
    refine CutK.norm [1, 2, 9] [64, 128] ?_
    conv => whnf
    refine CutK.norm [1, 2] [64, 128] ?_
    conv => whnf
    obtain ⟨g52, h⟩ := req_ex h
    refine LoopOk.into (spec_woIf_l0_ct  g52 _ _ _ rfl h) [some 128, some 256, none] [] ⟨⟨rfl, rfl⟩, ⟨rfl, ⟨rfl, trivial, trivial⟩, ⟨rfl, ⟨rfl, rfl⟩, trivial⟩, rfl, trivial⟩, ⟨rfl, rfl⟩, ⟨rfl, rfl⟩, rfl, rfl, rfl, trivial⟩ ?_ (fun _ hs => hs)
    rintro i ts os ⟨rfl, v29, h, rfl, rfl⟩
    conv => whnf
    refine CutK.norm [2, 4] [128, 256, 67001] ?_
    conv => whnf
    cases h
    exact Done.of [some 67001] [] rfl rfl ⟨⟨rfl, rfl⟩, ⟨rfl, ⟨rfl, rfl, rows_same⟩, trivial⟩, ⟨⟨⟨rfl, rfl⟩, trivial⟩, rfl, trivial⟩, trivial⟩
  · replace h := iteF h g4
    conv => whnf
    refine CutK.norm [1, 2, 9] [64, 128] ?_
    conv => whnf
    cases h
    exact Done.of [none] [] rfl rfl ⟨⟨rfl, rfl⟩, ⟨rfl, rfl, trivial⟩, ⟨⟨⟨rfl, rfl⟩, trivial⟩, rfl, trivial⟩, trivial⟩

def spec_CutWord (k : Nat) (a1 : Rw) (a2 : Rw) : Option (Rw × Bool) :=
  ((spec_woGood k a1).bind fun y3 => (if y3 = true then ((spec_odGood k a2).bind fun y6 => (if y6 = true then ((spec_woCut k a1 a2).bind fun y9 => ((spec_woIf k y9).bind fun y11 => (if y11.2 = true then some (y11.1, true) else some (y11.1, false)))) else some (([] : Rw), false))) else some (([] : Rw), false)))
set_option maxHeartbeats 4000000 in
set_option maxRecDepth 100000 in
theorem spec_CutWord_ct {k : Nat} {a1 : Rw} {a2 : Rw} {r : Rw × Bool} (h : spec_CutWord k a1 a2 = some r) : Ct prog 48 [.agg [.d (D.sl a1)], .agg [.d (D.sl a2)]] (⟨[], []⟩) (.tup [.agg [.os 8 r.1.length], .d (D.bool r.2)]) (⟨[], [(111, true, r.1)]⟩) := by
  rw [spec_CutWord] at h
  refine Ct.of (c := _) mixed func48 ⟨rfl, rfl, rfl⟩ ?_ rfl
  conv => whnf
  obtain ⟨y3, e4, h⟩ := bind_ex h
  refine CallOk.of (spec_woGood_ct e4) ?_
  conv => whnf
  refine spl (fun g5 => ?_) (fun g5 => ?_)
  · replace h := iteT h g5
    conv => whnf
    obtain ⟨y6, e7, h⟩ := bind_ex h
    refine CallOk.of (spec_odGood_ct e7) ?_
    conv => whnf
    refine spl (fun g8 => ?_) (fun g8 => ?_)
    · replace h := iteT h g8
      conv => whnf
      refine CutK.go ?_
      conv => whnf
      refine CutK.go ?_
      conv => whnf
      obtain ⟨y9, e10, h⟩ := bind_ex h
      refine CallOk.of (spec_woCut_ct e10) ?_
      conv => whnf
      refine Take.all (rfl) ?_
      conv => whnf
      obtain ⟨y11, e12, h⟩ := bind_ex h
      refine CallOk.of (spec_woIf_ct e12) ?_
      conv => whnf
      refine spl (fun g13 => ?_) (fun g13 => ?_)
      · replace h := iteT h g13
        conv => whnf
        refine CutK.go ?_
        conv => whnf
        cases h
        exact Done.of [some 1152] [] rfl rfl ⟨⟨rfl, rfl⟩, ⟨rfl, ⟨rfl, rfl, rows_same⟩, trivial⟩, ⟨⟨⟨rfl, rfl⟩, trivial⟩, rfl, trivial⟩, trivial⟩
      · replace h := iteF h g13
        conv => whnf
        refine CutK.go ?_
        conv => whnf
        cases h
        exact Done.of [some 1152] [] rfl rfl ⟨⟨rfl, rfl⟩, ⟨rfl, ⟨rfl, rfl, rows_same⟩, trivial⟩, ⟨⟨⟨rfl, rfl⟩, trivial⟩, rfl, trivial⟩, trivial⟩
    · replace h := iteF h g8
      conv => whnf
      refine CutK.go ?_
      conv => whnf
      cases h
      exact Done.of [none] [] rfl rfl ⟨⟨rfl, rfl⟩, ⟨rfl, rfl, trivial⟩, ⟨⟨⟨rfl, rfl⟩, trivial⟩, rfl, trivial⟩, trivial⟩
  · replace h := iteF h g5
    conv => whnf
    refine CutK.go ?_
    conv => whnf
    cases h
    exact Done.of [none] [] rfl rfl ⟨⟨rfl, rfl⟩, ⟨rfl, rfl, trivial⟩, ⟨⟨⟨rfl, rfl⟩, trivial⟩, rfl, trivial⟩, trivial⟩

def laws_FnExactCutWord_p27 (o230 : Int) (o231 : Int) : Option Bool :=
  (if o231 < (0 : Int) then some false else (if o231 = o230 then some true else some false))
set_option maxHeartbeats 4000000 in
set_option maxRecDepth 100000 in
theorem laws_FnExactCutWord_p27_ct {o230 : Int} {o231 : Int} {r : Bool} (h : laws_FnExactCutWord_p27 o230 o231 = some r) : X prog 0 (tlF f12 27) (mk 119 [(13, .d (D.int .i64 o230)), (14, .d (D.int .i64 o231))] []) (finK prog f12 0 (.d (D.bool r)) (⟨[], []⟩)) := by
  rw [laws_FnExactCutWord_p27] at h
  conv => whnf
  refine splD (fun g234 => ?_) (fun g234 => ?_)
  · replace h := iteP h g234
    conv => whnf
    cases h
    exact Done.of [] [] rfl rfl ⟨⟨rfl, rfl⟩, ⟨rfl, trivial⟩, rfl, trivial⟩
  · replace h := iteN h g234
    conv => whnf
    refine splN (fun g235 => ?_) (fun g235 => ?_)
    · replace h := iteN h g235
      conv => whnf
      cases h
      exact Done.of [] [] rfl rfl ⟨⟨rfl, rfl⟩, ⟨rfl, trivial⟩, rfl, trivial⟩
    · replace h := iteP h g235
      conv => whnf
      cases h
      exact Done.of [] [] rfl rfl ⟨⟨rfl, rfl⟩, ⟨rfl, trivial⟩, rfl, trivial⟩
def laws_FnExactCutWord_p25 (k : Nat) (o217 : Int) (o218 : Rw) : Option Bool :=
  ((laws_heldWord k o218 1).bind fun y236 => (laws_FnExactCutWord_p27 o217 y236))
set_option maxHeartbeats 4000000 in
set_option maxRecDepth 100000 in
theorem laws_FnExactCutWord_p25_ct {k : Nat} {o217 : Int} {o218 : Rw} {r : Bool} (h : laws_FnExactCutWord_p25 k o217 o218 = some r) : X prog 0 (tlF f12 25) (mk 119 [(10, .ptr 640 0), (13, .d (D.int .i64 o217))] [(640, .box 56 [.os 1189000 o218.length]), (1189000, .arr 111 true o218)]) (finK prog f12 0 (.d (D.bool r)) (⟨[], []⟩)) := by
  rw [laws_FnExactCutWord_p25] at h
  conv => whnf
  refine Choice.old ?_
  conv => whnf
  refine Take.all (rfl) ?_
  conv => whnf
  obtain ⟨y236, e237, h⟩ := bind_ex h
  refine CallOk.of (laws_heldWord_ct e237) ?_
  conv => whnf
  exact CutK.piece (laws_FnExactCutWord_p27_ct  h) [] [] ⟨⟨rfl, rfl⟩, ⟨rfl, trivial⟩, rfl, rfl, trivial⟩
def laws_FnExactCutWord_p24 (k : Nat) (o199 : Int) (o200 : Rw) (o201 : Rw) (o202 : Rw) (v203 : Bool) (v213 : Bool) : Option Bool :=
  (cond v203 (cond v213 ((laws_eqWord k o202 o200).bind fun y247 => (if y247 = true then (laws_FnExactCutWord_p25 k o199 o201) else some false)) ((laws_eqWord k o202 o200).bind fun y244 => (if y244 = true then some false else some false))) (cond v213 ((laws_eqWord k o202 o200).bind fun y241 => (if y241 = true then some false else some false)) ((laws_eqWord k o202 o200).bind fun y238 => (if y238 = true then (laws_FnExactCutWord_p25 k o199 o201) else some false))))
set_option maxHeartbeats 4000000 in
set_option maxRecDepth 100000 in
theorem laws_FnExactCutWord_p24_ct {k : Nat} {o199 : Int} {o200 : Rw} {o201 : Rw} {o202 : Rw} {v203 : Bool} {v213 : Bool} {r : Bool} (h : laws_FnExactCutWord_p24 k o199 o200 o201 o202 v203 v213 = some r) : X prog 0 (tlF f12 24) (mk 119 [(6, .ptr 384 0), (7, .d (D.bool v213)), (10, .ptr 640 0), (13, .d (D.int .i64 o199)), (15, .ptr 960 0), (16, .d (D.bool v203))] [(384, .box 56 [.os 1184000 o200.length]), (640, .box 56 [.os 1184001 o201.length]), (960, .box 56 [.os 1184002 o202.length]), (1184000, .arr 111 true o200), (1184001, .arr 111 true o201), (1184002, .arr 111 true o202)]) (finK prog f12 0 (.d (D.bool r)) (⟨[], []⟩)) := by
  rw [laws_FnExactCutWord_p24] at h
  cases v203
  · replace h := condF h
    cases v213
    · replace h := condF h
      conv => whnf
      refine Take.all (rfl) ?_
      conv => whnf
      refine Take.all (rfl) ?_
      conv => whnf
      obtain ⟨y238, e239, h⟩ := bind_ex h
      refine CallOk.of (laws_eqWord_ct e239) ?_
      conv => whnf
      refine spl (fun g240 => ?_) (fun g240 => ?_)
      · replace h := iteT h g240
        conv => whnf
        refine splF ?_
        conv => whnf
        refine CutK.norm [10, 13, 110] [640, 1184001] ?_
        conv => whnf
        exact CutK.piece (laws_FnExactCutWord_p25_ct  h) [some 640, some 1184001] [] ⟨⟨rfl, rfl⟩, ⟨rfl, ⟨rfl, ⟨rfl, rfl⟩, trivial⟩, ⟨rfl, rfl, rows_same⟩, trivial⟩, ⟨rfl, rfl⟩, rfl, trivial⟩
      · replace h := iteF h g240
        conv => whnf
        refine CutK.norm [10, 13, 110] [640, 1184001] ?_
        conv => whnf
        cases h
        exact Done.of [] [] rfl rfl ⟨⟨rfl, rfl⟩, ⟨rfl, trivial⟩, rfl, trivial⟩
    · replace h := condT h
      conv => whnf
      refine Take.all (rfl) ?_
      conv => whnf
      refine Take.all (rfl) ?_
      conv => whnf
      obtain ⟨y241, e242, h⟩ := bind_ex h
      refine CallOk.of (laws_eqWord_ct e242) ?_
      conv => whnf
      refine spl (fun g243 => ?_) (fun g243 => ?_)
      · replace h := iteT h g243
        conv => whnf
        refine splT ?_
        conv => whnf
        refine CutK.norm [10, 13, 110] [640, 1184001] ?_
        conv => whnf
        cases h
        exact Done.of [] [] rfl rfl ⟨⟨rfl, rfl⟩, ⟨rfl, trivial⟩, rfl, trivial⟩
      · replace h := iteF h g243
        conv => whnf
        refine CutK.norm [10, 13, 110] [640, 1184001] ?_
        conv => whnf
        cases h
        exact Done.of [] [] rfl rfl ⟨⟨rfl, rfl⟩, ⟨rfl, trivial⟩, rfl, trivial⟩
  · replace h := condT h
    cases v213
    · replace h := condF h
      conv => whnf
      refine Take.all (rfl) ?_
      conv => whnf
      refine Take.all (rfl) ?_
      conv => whnf
      obtain ⟨y244, e245, h⟩ := bind_ex h
      refine CallOk.of (laws_eqWord_ct e245) ?_
      conv => whnf
      refine spl (fun g246 => ?_) (fun g246 => ?_)
      · replace h := iteT h g246
        conv => whnf
        refine splT ?_
        conv => whnf
        refine CutK.norm [10, 13, 110] [640, 1184001] ?_
        conv => whnf
        cases h
        exact Done.of [] [] rfl rfl ⟨⟨rfl, rfl⟩, ⟨rfl, trivial⟩, rfl, trivial⟩
      · replace h := iteF h g246
        conv => whnf
        refine CutK.norm [10, 13, 110] [640, 1184001] ?_
        conv => whnf
        cases h
        exact Done.of [] [] rfl rfl ⟨⟨rfl, rfl⟩, ⟨rfl, trivial⟩, rfl, trivial⟩
    · replace h := condT h
      conv => whnf
      refine Take.all (rfl) ?_
      conv => whnf
      refine Take.all (rfl) ?_
      conv => whnf
      obtain ⟨y247, e248, h⟩ := bind_ex h
      refine CallOk.of (laws_eqWord_ct e248) ?_
      conv => whnf
      refine spl (fun g249 => ?_) (fun g249 => ?_)
      · replace h := iteT h g249
        conv => whnf
        refine splF ?_
        conv => whnf
        refine CutK.norm [10, 13, 110] [640, 1184001] ?_
        conv => whnf
        exact CutK.piece (laws_FnExactCutWord_p25_ct  h) [some 640, some 1184001] [] ⟨⟨rfl, rfl⟩, ⟨rfl, ⟨rfl, ⟨rfl, rfl⟩, trivial⟩, ⟨rfl, rfl, rows_same⟩, trivial⟩, ⟨rfl, rfl⟩, rfl, trivial⟩
      · replace h := iteF h g249
        conv => whnf
        refine CutK.norm [10, 13, 110] [640, 1184001] ?_
        conv => whnf
        cases h
        exact Done.of [] [] rfl rfl ⟨⟨rfl, rfl⟩, ⟨rfl, trivial⟩, rfl, trivial⟩
def laws_FnExactCutWord_p21 (k : Nat) (a1 : Rw) (a2 : Rw) (o183 : Int) (o184 : Int) (o185 : Rw) (o186 : Rw) (v189 : Bool) : Option Bool :=
  (cond v189 (if o184 < (0 : Int) then some false else (if o184 = o183 then ((laws_toWord k a1).bind fun y261 => ((laws_toOrdinal k a2).bind fun y263 => ((impl_CutWord k y261 y263).bind fun y265 => (if y265.2 = true then (laws_FnExactCutWord_p24 k o183 o185 o186 y265.1 true true) else (laws_FnExactCutWord_p24 k o183 o185 o186 y265.1 false true))))) else some false)) (if o184 < (0 : Int) then some false else (if o184 = o183 then ((laws_toWord k a1).bind fun y252 => ((laws_toOrdinal k a2).bind fun y254 => ((impl_CutWord k y252 y254).bind fun y256 => (if y256.2 = true then (laws_FnExactCutWord_p24 k o183 o185 o186 y256.1 true false) else (laws_FnExactCutWord_p24 k o183 o185 o186 y256.1 false false))))) else some false)))
set_option maxHeartbeats 4000000 in
set_option maxRecDepth 100000 in
theorem laws_FnExactCutWord_p21_ct {k : Nat} {a1 : Rw} {a2 : Rw} {o183 : Int} {o184 : Int} {o185 : Rw} {o186 : Rw} {v189 : Bool} {r : Bool} (h : laws_FnExactCutWord_p21 k a1 a2 o183 o184 o185 o186 v189 = some r) : X prog 0 (tlF f12 21) (mk 119 [(2, .ptr 128 0), (3, .ptr 192 0), (6, .ptr 384 0), (7, .d (D.bool v189)), (10, .ptr 640 0), (13, .d (D.int .i64 o183)), (14, .d (D.int .i64 o184))] [(128, .box 46 [.d (D.sl a1)]), (192, .box 49 [.d (D.sl a2)]), (384, .box 56 [.os 1169000 o185.length]), (640, .box 56 [.os 1169001 o186.length]), (1169000, .arr 111 true o185), (1169001, .arr 111 true o186)]) (finK prog f12 0 (.d (D.bool r)) (⟨[], []⟩)) := by
  rw [laws_FnExactCutWord_p21] at h
  cases v189
  · replace h := condF h
    conv => whnf
    refine splD (fun g250 => ?_) (fun g250 => ?_)
    · replace h := iteP h g250
      conv => whnf
      cases h
      exact Done.of [] [] rfl rfl ⟨⟨rfl, rfl⟩, ⟨rfl, trivial⟩, rfl, trivial⟩
    · replace h := iteN h g250
      conv => whnf
      refine splN (fun g251 => ?_) (fun g251 => ?_)
      · replace h := iteN h g251
        conv => whnf
        cases h
        exact Done.of [] [] rfl rfl ⟨⟨rfl, rfl⟩, ⟨rfl, trivial⟩, rfl, trivial⟩
      · replace h := iteP h g251
        conv => whnf
        obtain ⟨y252, e253, h⟩ := bind_ex h
        refine CallOk.of (laws_toWord_ct e253) ?_
        conv => whnf
        obtain ⟨y254, e255, h⟩ := bind_ex h
        refine CallOk.of (laws_toOrdinal_ct e255) ?_
        conv => whnf
        refine Take.all (rfl) ?_
        conv => whnf
        refine Take.all (rfl) ?_
        conv => whnf
        obtain ⟨y256, e257, h⟩ := bind_ex h
        refine CallOk.of (impl_CutWord_ct e257) ?_
        conv => whnf
        refine spl (fun g258 => ?_) (fun g258 => ?_)
        · replace h := iteT h g258
          conv => whnf
          exact CutK.piece (laws_FnExactCutWord_p24_ct  h) [some 384, some 640, some 960, some 1169000, some 1169001, some 6336] [] ⟨⟨rfl, rfl⟩, ⟨rfl, ⟨rfl, ⟨rfl, rfl⟩, trivial⟩, ⟨rfl, ⟨rfl, rfl⟩, trivial⟩, ⟨rfl, ⟨rfl, rfl⟩, trivial⟩, ⟨rfl, rfl, rows_same⟩, ⟨rfl, rfl, rows_same⟩, ⟨rfl, rfl, rows_same⟩, trivial⟩, ⟨rfl, rfl⟩, rfl, ⟨rfl, rfl⟩, rfl, ⟨rfl, rfl⟩, rfl, trivial⟩
        · replace h := iteF h g258
          conv => whnf
          exact CutK.piece (laws_FnExactCutWord_p24_ct  h) [some 384, some 640, some 960, some 1169000, some 1169001, some 6336] [] ⟨⟨rfl, rfl⟩, ⟨rfl, ⟨rfl, ⟨rfl, rfl⟩, trivial⟩, ⟨rfl, ⟨rfl, rfl⟩, trivial⟩, ⟨rfl, ⟨rfl, rfl⟩, trivial⟩, ⟨rfl, rfl, rows_same⟩, ⟨rfl, rfl, rows_same⟩, ⟨rfl, rfl, rows_same⟩, trivial⟩, ⟨rfl, rfl⟩, rfl, ⟨rfl, rfl⟩, rfl, ⟨rfl, rfl⟩, rfl, trivial⟩
  · replace h := condT h
    conv => whnf
    refine splD (fun g259 => ?_) (fun g259 => ?_)
    · replace h := iteP h g259
      conv => whnf
      cases h
      exact Done.of [] [] rfl rfl ⟨⟨rfl, rfl⟩, ⟨rfl, trivial⟩, rfl, trivial⟩
    · replace h := iteN h g259
      conv => whnf
      refine splN (fun g260 => ?_) (fun g260 => ?_)
      · replace h := iteN h g260
        conv => whnf
        cases h
        exact Done.of [] [] rfl rfl ⟨⟨rfl, rfl⟩, ⟨rfl, trivial⟩, rfl, trivial⟩
      · replace h := iteP h g260
        conv => whnf
        obtain ⟨y261, e262, h⟩ := bind_ex h
        refine CallOk.of (laws_toWord_ct e262) ?_
        conv => whnf
        obtain ⟨y263, e264, h⟩ := bind_ex h
        refine CallOk.of (laws_toOrdinal_ct e264) ?_
        conv => whnf
        refine Take.all (rfl) ?_
        conv => whnf
        refine Take.all (rfl) ?_
        conv => whnf
        obtain ⟨y265, e266, h⟩ := bind_ex h
        refine CallOk.of (impl_CutWord_ct e266) ?_
        conv => whnf
        refine spl (fun g267 => ?_) (fun g267 => ?_)
        · replace h := iteT h g267
          conv => whnf
          exact CutK.piece (laws_FnExactCutWord_p24_ct  h) [some 384, some 640, some 960, some 1169000, some 1169001, some 6336] [] ⟨⟨rfl, rfl⟩, ⟨rfl, ⟨rfl, ⟨rfl, rfl⟩, trivial⟩, ⟨rfl, ⟨rfl, rfl⟩, trivial⟩, ⟨rfl, ⟨rfl, rfl⟩, trivial⟩, ⟨rfl, rfl, rows_same⟩, ⟨rfl, rfl, rows_same⟩, ⟨rfl, rfl, rows_same⟩, trivial⟩, ⟨rfl, rfl⟩, rfl, ⟨rfl, rfl⟩, rfl, ⟨rfl, rfl⟩, rfl, trivial⟩
        · replace h := iteF h g267
          conv => whnf
          exact CutK.piece (laws_FnExactCutWord_p24_ct  h) [some 384, some 640, some 960, some 1169000, some 1169001, some 6336] [] ⟨⟨rfl, rfl⟩, ⟨rfl, ⟨rfl, ⟨rfl, rfl⟩, trivial⟩, ⟨rfl, ⟨rfl, rfl⟩, trivial⟩, ⟨rfl, ⟨rfl, rfl⟩, trivial⟩, ⟨rfl, rfl, rows_same⟩, ⟨rfl, rfl, rows_same⟩, ⟨rfl, rfl, rows_same⟩, trivial⟩, ⟨rfl, rfl⟩, rfl, ⟨rfl, rfl⟩, rfl, ⟨rfl, rfl⟩, rfl, trivial⟩
def laws_FnExactCutWord_p19 (k : Nat) (a1 : Rw) (a2 : Rw) (o174 : Int) (o175 : Rw) (o176 : Rw) (v180 : Bool) : Option Bool :=
  (cond v180 ((laws_heldWord k o176 1).bind fun y270 => (laws_FnExactCutWord_p21 k a1 a2 o174 y270 o175 o176 true)) ((laws_heldWord k o176 1).bind fun y268 => (laws_FnExactCutWord_p21 k a1 a2 o174 y268 o175 o176 false)))
set_option maxHeartbeats 4000000 in
set_option maxRecDepth 100000 in
theorem laws_FnExactCutWord_p19_ct {k : Nat} {a1 : Rw} {a2 : Rw} {o174 : Int} {o175 : Rw} {o176 : Rw} {v180 : Bool} {r : Bool} (h : laws_FnExactCutWord_p19 k a1 a2 o174 o175 o176 v180 = some r) : X prog 0 (tlF f12 19) (mk 119 [(2, .ptr 128 0), (3, .ptr 192 0), (6, .ptr 384 0), (7, .d (D.bool v180)), (10, .ptr 640 0), (13, .d (D.int .i64 o174))] [(128, .box 46 [.d (D.sl a1)]), (192, .box 49 [.d (D.sl a2)]), (384, .box 56 [.os 1159000 o175.length]), (640, .box 56 [.os 1159001 o176.length]), (1159000, .arr 111 true o175), (1159001, .arr 111 true o176)]) (finK prog f12 0 (.d (D.bool r)) (⟨[], []⟩)) := by
  rw [laws_FnExactCutWord_p19] at h
  cases v180
  · replace h := condF h
    conv => whnf
    refine Choice.old ?_
    conv => whnf
    refine Take.all (rfl) ?_
    conv => whnf
    obtain ⟨y268, e269, h⟩ := bind_ex h
    refine CallOk.of (laws_heldWord_ct e269) ?_
    conv => whnf
    exact CutK.piece (laws_FnExactCutWord_p21_ct  h) [some 128, some 192, some 384, some 640, some 1159000, some 1159001] [] ⟨⟨rfl, rfl⟩, ⟨rfl, ⟨rfl, rfl, trivial⟩, ⟨rfl, rfl, trivial⟩, ⟨rfl, ⟨rfl, rfl⟩, trivial⟩, ⟨rfl, ⟨rfl, rfl⟩, trivial⟩, ⟨rfl, rfl, rows_same⟩, ⟨rfl, rfl, rows_same⟩, trivial⟩, ⟨rfl, rfl⟩, ⟨rfl, rfl⟩, ⟨rfl, rfl⟩, rfl, ⟨rfl, rfl⟩, rfl, rfl, trivial⟩
  · replace h := condT h
    conv => whnf
    refine Choice.old ?_
    conv => whnf
    refine Take.all (rfl) ?_
    conv => whnf
    obtain ⟨y270, e271, h⟩ := bind_ex h
    refine CallOk.of (laws_heldWord_ct e271) ?_
    conv => whnf
    exact CutK.piece (laws_FnExactCutWord_p21_ct  h) [some 128, some 192, some 384, some 640, some 1159000, some 1159001] [] ⟨⟨rfl, rfl⟩, ⟨rfl, ⟨rfl, rfl, trivial⟩, ⟨rfl, rfl, trivial⟩, ⟨rfl, ⟨rfl, rfl⟩, trivial⟩, ⟨rfl, ⟨rfl, rfl⟩, trivial⟩, ⟨rfl, rfl, rows_same⟩, ⟨rfl, rfl, rows_same⟩, trivial⟩, ⟨rfl, rfl⟩, ⟨rfl, rfl⟩, ⟨rfl, rfl⟩, rfl, ⟨rfl, rfl⟩, rfl, rfl, trivial⟩
def laws_FnExactCutWord_p17 (k : Nat) (a1 : Rw) (a2 : Rw) (o156 : Rw) (o157 : Rw) (v170 : Bool) : Option Bool :=
  (cond v170 ((laws_markWord k o157 1).bind fun y275 => (if y275.2.length = o157.length then (laws_FnExactCutWord_p19 k a1 a2 y275.1 o156 y275.2 true) else none)) ((laws_markWord k o157 1).bind fun y272 => (if y272.2.length = o157.length then (laws_FnExactCutWord_p19 k a1 a2 y272.1 o156 y272.2 false) else none)))
set_option maxHeartbeats 4000000 in
set_option maxRecDepth 100000 in
theorem laws_FnExactCutWord_p17_ct {k : Nat} {a1 : Rw} {a2 : Rw} {o156 : Rw} {o157 : Rw} {v170 : Bool} {r : Bool} (h : laws_FnExactCutWord_p17 k a1 a2 o156 o157 v170 = some r) : X prog 0 (tlF f12 17) (mk 119 [(2, .ptr 128 0), (3, .ptr 192 0), (6, .ptr 384 0), (7, .d (D.bool v170)), (10, .ptr 640 0)] [(128, .box 46 [.d (D.sl a1)]), (192, .box 49 [.d (D.sl a2)]), (384, .box 56 [.os 1149000 o156.length]), (640, .box 56 [.os 1149001 o157.length]), (1149000, .arr 111 true o156), (1149001, .arr 111 true o157)]) (finK prog f12 0 (.d (D.bool r)) (⟨[], []⟩)) := by
  rw [laws_FnExactCutWord_p17] at h
  cases v170
  · replace h := condF h
    conv => whnf
    refine Choice.new ?_
    conv => whnf
    refine Req.of (rfl) ?_
    conv => whnf
    obtain ⟨y272, e273, h⟩ := bind_ex h
    refine MarkOk.of (laws_markWord_ct e273) ?_
    conv => whnf
    obtain ⟨g274, h⟩ := req_ex h
    exact CutK.piece (laws_FnExactCutWord_p19_ct  h) [some 128, some 192, some 384, some 640, some 1149000, some 1149001] [] ⟨⟨rfl, rfl⟩, ⟨rfl, ⟨rfl, rfl, trivial⟩, ⟨rfl, rfl, trivial⟩, ⟨rfl, ⟨rfl, rfl⟩, trivial⟩, ⟨rfl, ⟨(by first | rfl | exact List.length_append.symm | (simp; done) | omega), rfl⟩, trivial⟩, ⟨rfl, rfl, rows_same⟩, ⟨rfl, rfl, rows_same⟩, trivial⟩, ⟨rfl, rfl⟩, ⟨rfl, rfl⟩, ⟨rfl, rfl⟩, rfl, ⟨rfl, rfl⟩, rfl, trivial⟩
  · replace h := condT h
    conv => whnf
    refine Choice.new ?_
    conv => whnf
    refine Req.of (rfl) ?_
    conv => whnf
    obtain ⟨y275, e276, h⟩ := bind_ex h
    refine MarkOk.of (laws_markWord_ct e276) ?_
    conv => whnf
    obtain ⟨g277, h⟩ := req_ex h
    exact CutK.piece (laws_FnExactCutWord_p19_ct  h) [some 128, some 192, some 384, some 640, some 1149000, some 1149001] [] ⟨⟨rfl, rfl⟩, ⟨rfl, ⟨rfl, rfl, trivial⟩, ⟨rfl, rfl, trivial⟩, ⟨rfl, ⟨rfl, rfl⟩, trivial⟩, ⟨rfl, ⟨(by first | rfl | exact List.length_append.symm | (simp; done) | omega), rfl⟩, trivial⟩, ⟨rfl, rfl, rows_same⟩, ⟨rfl, rfl, rows_same⟩, trivial⟩, ⟨rfl, rfl⟩, ⟨rfl, rfl⟩, ⟨rfl, rfl⟩, rfl, ⟨rfl, rfl⟩, rfl, trivial⟩
def laws_FnExactCutWord_p16 (k : Nat) (a1 : Rw) (a2 : Rw) (o138 : Int) (o139 : Rw) (o140 : Rw) (v144 : Bool) (v148 : Bool) : Option Bool :=
  (cond v144 (cond v148 (if o138 < (0 : Int) then some false else ((laws_eqWord k o140 o139).bind fun y291 => (if y291 = true then (laws_FnExactCutWord_p17 k a1 a2 o139 o140 true) else some false))) (if o138 < (0 : Int) then some false else ((laws_eqWord k o140 o139).bind fun y287 => (if y287 = true then some false else some false)))) (cond v148 (if o138 < (0 : Int) then some false else ((laws_eqWord k o140 o139).bind fun y283 => (if y283 = true then some false else some false))) (if o138 < (0 : Int) then some false else ((laws_eqWord k o140 o139).bind fun y279 => (if y279 = true then (laws_FnExactCutWord_p17 k a1 a2 o139 o140 false) else some false)))))
set_option maxHeartbeats 4000000 in
set_option maxRecDepth 100000 in
theorem laws_FnExactCutWord_p16_ct {k : Nat} {a1 : Rw} {a2 : Rw} {o138 : Int} {o139 : Rw} {o140 : Rw} {v144 : Bool} {v148 : Bool} {r : Bool} (h : laws_FnExactCutWord_p16 k a1 a2 o138 o139 o140 v144 v148 = some r) : X prog 0 (tlF f12 16) (mk 119 [(2, .ptr 128 0), (3, .ptr 192 0), (6, .ptr 384 0), (7, .d (D.bool v144)), (10, .ptr 640 0), (11, .d (D.bool v148)), (12, .d (D.int .i64 o138))] [(128, .box 46 [.d (D.sl a1)]), (192, .box 49 [.d (D.sl a2)]), (384, .box 56 [.os 1144000 o139.length]), (640, .box 56 [.os 1144001 o140.length]), (1144000, .arr 111 true o139), (1144001, .arr 111 true o140)]) (finK prog f12 0 (.d (D.bool r)) (⟨[], []⟩)) := by
  rw [laws_FnExactCutWord_p16] at h
  cases v144
  · replace h := condF h
    cases v148
    · replace h := condF h
      conv => whnf
      refine splD (fun g278 => ?_) (fun g278 => ?_)
      · replace h := iteP h g278
        conv => whnf
        refine CutK.norm [2, 3, 6, 7, 10, 82] [128, 192, 384, 640, 1144000, 1144001] ?_
        conv => whnf
        cases h
        exact Done.of [] [] rfl rfl ⟨⟨rfl, rfl⟩, ⟨rfl, trivial⟩, rfl, trivial⟩
      · replace h := iteN h g278
        conv => whnf
        refine Take.all (rfl) ?_
        conv => whnf
        refine Take.all (rfl) ?_
        conv => whnf
        obtain ⟨y279, e280, h⟩ := bind_ex h
        refine CallOk.of (laws_eqWord_ct e280) ?_
        conv => whnf
        refine spl (fun g281 => ?_) (fun g281 => ?_)
        · replace h := iteT h g281
          conv => whnf
          refine splF ?_
          conv => whnf
          refine CutK.norm [2, 3, 6, 7, 10, 82] [128, 192, 384, 640, 1144000, 1144001] ?_
          conv => whnf
          exact CutK.piece (laws_FnExactCutWord_p17_ct  h) [some 128, some 192, some 384, some 640, some 1144000, some 1144001] [] ⟨⟨rfl, rfl⟩, ⟨rfl, ⟨rfl, rfl, trivial⟩, ⟨rfl, rfl, trivial⟩, ⟨rfl, ⟨rfl, rfl⟩, trivial⟩, ⟨rfl, ⟨rfl, rfl⟩, trivial⟩, ⟨rfl, rfl, rows_same⟩, ⟨rfl, rfl, rows_same⟩, trivial⟩, ⟨rfl, rfl⟩, ⟨rfl, rfl⟩, ⟨rfl, rfl⟩, rfl, ⟨rfl, rfl⟩, trivial⟩
        · replace h := iteF h g281
          conv => whnf
          refine CutK.norm [2, 3, 6, 7, 10, 82] [128, 192, 384, 640, 1144000, 1144001] ?_
          conv => whnf
          cases h
          exact Done.of [] [] rfl rfl ⟨⟨rfl, rfl⟩, ⟨rfl, trivial⟩, rfl, trivial⟩
    · replace h := condT h
      conv => whnf
      refine splD (fun g282 => ?_) (fun g282 => ?_)
      · replace h := iteP h g282
        conv => whnf
        refine CutK.norm [2, 3, 6, 7, 10, 82] [128, 192, 384, 640, 1144000, 1144001] ?_
        conv => whnf
        cases h
        exact Done.of [] [] rfl rfl ⟨⟨rfl, rfl⟩, ⟨rfl, trivial⟩, rfl, trivial⟩
      · replace h := iteN h g282
        conv => whnf
        refine Take.all (rfl) ?_
        conv => whnf
        refine Take.all (rfl) ?_
        conv => whnf
        obtain ⟨y283, e284, h⟩ := bind_ex h
        refine CallOk.of (laws_eqWord_ct e284) ?_
        conv => whnf
        refine spl (fun g285 => ?_) (fun g285 => ?_)
        · replace h := iteT h g285
          conv => whnf
          refine splT ?_
          conv => whnf
          refine CutK.norm [2, 3, 6, 7, 10, 82] [128, 192, 384, 640, 1144000, 1144001] ?_
          conv => whnf
          cases h
          exact Done.of [] [] rfl rfl ⟨⟨rfl, rfl⟩, ⟨rfl, trivial⟩, rfl, trivial⟩
        · replace h := iteF h g285
          conv => whnf
          refine CutK.norm [2, 3, 6, 7, 10, 82] [128, 192, 384, 640, 1144000, 1144001] ?_
          conv => whnf
          cases h
          exact Done.of [] [] rfl rfl ⟨⟨rfl, rfl⟩, ⟨rfl, trivial⟩, rfl, trivial⟩
  · replace h := condT h
    cases v148
    · replace h := condF h
      conv => whnf
      refine splD (fun g286 => ?_) (fun g286 => ?_)
      · replace h := iteP h g286
        conv => whnf
        refine CutK.norm [2, 3, 6, 7, 10, 82] [128, 192, 384, 640, 1144000, 1144001] ?_
        conv => whnf
        cases h
        exact Done.of [] [] rfl rfl ⟨⟨rfl, rfl⟩, ⟨rfl, trivial⟩, rfl, trivial⟩
      · replace h := iteN h g286
        conv => whnf
        refine Take.all (rfl) ?_
        conv => whnf
        refine Take.all (rfl) ?_
        conv => whnf
        obtain ⟨y287, e288, h⟩ := bind_ex h
        refine CallOk.of (laws_eqWord_ct e288) ?_
        conv => whnf
        refine spl (fun g289 => ?_) (fun g289 => ?_)
        · replace h := iteT h g289
          conv => whnf
          refine splT ?_
          conv => whnf
          refine CutK.norm [2, 3, 6, 7, 10, 82] [128, 192, 384, 640, 1144000, 1144001] ?_
          conv => whnf
          cases h
          exact Done.of [] [] rfl rfl ⟨⟨rfl, rfl⟩, ⟨rfl, trivial⟩, rfl, trivial⟩
        · replace h := iteF h g289
          conv => whnf
          refine CutK.norm [2, 3, 6, 7, 10, 82] [128, 192, 384, 640, 1144000, 1144001] ?_
          conv => whnf
          cases h
          exact Done.of [] [] rfl rfl ⟨⟨rfl, rfl⟩, ⟨rfl, trivial⟩, rfl, trivial⟩
    · replace h := condT h
      conv => whnf
      refine splD (fun g290 => ?_) (fun g290 => ?_)
      · replace h := iteP h g290
        conv => whnf
        refine CutK.norm [2, 3, 6, 7, 10, 82] [128, 192, 384, 640, 1144000, 1144001] ?_
        conv => whnf
        cases h
        exact Done.of [] [] rfl rfl ⟨⟨rfl, rfl⟩, ⟨rfl, trivial⟩, rfl, trivial⟩
      · replace h := iteN h g290
        conv => whnf
        refine Take.all (rfl) ?_
        conv => whnf
        refine Take.all (rfl) ?_
        conv => whnf
        obtain ⟨y291, e292, h⟩ := bind_ex h
        refine CallOk.of (laws_eqWord_ct e292) ?_
        conv => whnf
        refine spl (fun g293 => ?_) (fun g293 => ?_)
        · replace h := iteT h g293
          conv => whnf
          refine splF ?_
          conv => whnf
          refine CutK.norm [2, 3, 6, 7, 10, 82] [128, 192, 384, 640, 1144000, 1144001] ?_
          conv => whnf
          exact CutK.piece (laws_FnExactCutWord_p17_ct  h) [some 128, some 192, some 384, some 640, some 1144000, some 1144001] [] ⟨⟨rfl, rfl⟩, ⟨rfl, ⟨rfl, rfl, trivial⟩, ⟨rfl, rfl, trivial⟩, ⟨rfl, ⟨rfl, rfl⟩, trivial⟩, ⟨rfl, ⟨rfl, rfl⟩, trivial⟩, ⟨rfl, rfl, rows_same⟩, ⟨rfl, rfl, rows_same⟩, trivial⟩, ⟨rfl, rfl⟩, ⟨rfl, rfl⟩, ⟨rfl, rfl⟩, rfl, ⟨rfl, rfl⟩, trivial⟩
        · replace h := iteF h g293
          conv => whnf
          refine CutK.norm [2, 3, 6, 7, 10, 82] [128, 192, 384, 640, 1144000, 1144001] ?_
          conv => whnf
          cases h
          exact Done.of [] [] rfl rfl ⟨⟨rfl, rfl⟩, ⟨rfl, trivial⟩, rfl, trivial⟩
def laws_FnExactCutWord_p15 (k : Nat) (a1 : Rw) (a2 : Rw) (o120 : Int) (o121 : Rw) (o122 : Rw) (o123 : Rw) (v127 : Bool) (v131 : Bool) : Option Bool :=
  (cond v127 (cond v131 ((laws_markOrdinal k o122 o120).bind fun y303 => (if y303.2.length = o122.length then (laws_FnExactCutWord_p16 k a1 a2 y303.1 o121 o123 true true) else none)) ((laws_markOrdinal k o122 o120).bind fun y300 => (if y300.2.length = o122.length then (laws_FnExactCutWord_p16 k a1 a2 y300.1 o121 o123 false true) else none))) (cond v131 ((laws_markOrdinal k o122 o120).bind fun y297 => (if y297.2.length = o122.length then (laws_FnExactCutWord_p16 k a1 a2 y297.1 o121 o123 true false) else none)) ((laws_markOrdinal k o122 o120).bind fun y294 => (if y294.2.length = o122.length then (laws_FnExactCutWord_p16 k a1 a2 y294.1 o121 o123 false false) else none))))
set_option maxHeartbeats 4000000 in
set_option maxRecDepth 100000 in
theorem laws_FnExactCutWord_p15_ct {k : Nat} {a1 : Rw} {a2 : Rw} {o120 : Int} {o121 : Rw} {o122 : Rw} {o123 : Rw} {v127 : Bool} {v131 : Bool} {r : Bool} (h : laws_FnExactCutWord_p15 k a1 a2 o120 o121 o122 o123 v127 v131 = some r) : X prog 0 (tlF f12 15) (mk 119 [(2, .ptr 128 0), (3, .ptr 192 0), (6, .ptr 384 0), (7, .d (D.bool v131)), (9, .ptr 576 0), (10, .ptr 640 0), (11, .d (D.bool v127)), (12, .d (D.int .i64 o120))] [(128, .box 46 [.d (D.sl a1)]), (192, .box 49 [.d (D.sl a2)]), (384, .box 56 [.os 1139000 o121.length]), (576, .box 28 [.os 1139001 o122.length]), (640, .box 56 [.os 1139002 o123.length]), (1139000, .arr 111 true o121), (1139001, .arr 119 true o122), (1139002, .arr 111 true o123)]) (finK prog f12 0 (.d (D.bool r)) (⟨[], []⟩)) := by
  rw [laws_FnExactCutWord_p15] at h
  cases v127
  · replace h := condF h
    cases v131
    · replace h := condF h
      conv => whnf
      refine Choice.new ?_
      conv => whnf
      refine Req.of (rfl) ?_
      conv => whnf
      obtain ⟨y294, e295, h⟩ := bind_ex h
      refine MarkOk.of (laws_markOrdinal_ct e295) ?_
      conv => whnf
      obtain ⟨g296, h⟩ := req_ex h
      exact CutK.piece (laws_FnExactCutWord_p16_ct  h) [some 128, some 192, some 384, some 640, some 1139000, some 1139002] [] ⟨⟨rfl, rfl⟩, ⟨rfl, ⟨rfl, rfl, trivial⟩, ⟨rfl, rfl, trivial⟩, ⟨rfl, ⟨rfl, rfl⟩, trivial⟩, ⟨rfl, ⟨rfl, rfl⟩, trivial⟩, ⟨rfl, rfl, rows_same⟩, ⟨rfl, rfl, rows_same⟩, trivial⟩, ⟨rfl, rfl⟩, ⟨rfl, rfl⟩, ⟨rfl, rfl⟩, rfl, ⟨rfl, rfl⟩, rfl, rfl, trivial⟩
    · replace h := condT h
      conv => whnf
      refine Choice.new ?_
      conv => whnf
      refine Req.of (rfl) ?_
      conv => whnf
      obtain ⟨y297, e298, h⟩ := bind_ex h
      refine MarkOk.of (laws_markOrdinal_ct e298) ?_
      conv => whnf
      obtain ⟨g299, h⟩ := req_ex h
      exact CutK.piece (laws_FnExactCutWord_p16_ct  h) [some 128, some 192, some 384, some 640, some 1139000, some 1139002] [] ⟨⟨rfl, rfl⟩, ⟨rfl, ⟨rfl, rfl, trivial⟩, ⟨rfl, rfl, trivial⟩, ⟨rfl, ⟨rfl, rfl⟩, trivial⟩, ⟨rfl, ⟨rfl, rfl⟩, trivial⟩, ⟨rfl, rfl, rows_same⟩, ⟨rfl, rfl, rows_same⟩, trivial⟩, ⟨rfl, rfl⟩, ⟨rfl, rfl⟩, ⟨rfl, rfl⟩, rfl, ⟨rfl, rfl⟩, rfl, rfl, trivial⟩
  · replace h := condT h
    cases v131
    · replace h := condF h
      conv => whnf
      refine Choice.new ?_
      conv => whnf
      refine Req.of (rfl) ?_
      conv => whnf
      obtain ⟨y300, e301, h⟩ := bind_ex h
      refine MarkOk.of (laws_markOrdinal_ct e301) ?_
      conv => whnf
      obtain ⟨g302, h⟩ := req_ex h
      exact CutK.piece (laws_FnExactCutWord_p16_ct  h) [some 128, some 192, some 384, some 640, some 1139000, some 1139002] [] ⟨⟨rfl, rfl⟩, ⟨rfl, ⟨rfl, rfl, trivial⟩, ⟨rfl, rfl, trivial⟩, ⟨rfl, ⟨rfl, rfl⟩, trivial⟩, ⟨rfl, ⟨rfl, rfl⟩, trivial⟩, ⟨rfl, rfl, rows_same⟩, ⟨rfl, rfl, rows_same⟩, trivial⟩, ⟨rfl, rfl⟩, ⟨rfl, rfl⟩, ⟨rfl, rfl⟩, rfl, ⟨rfl, rfl⟩, rfl, rfl, trivial⟩
    · replace h := condT h
      conv => whnf
      refine Choice.new ?_
      conv => whnf
      refine Req.of (rfl) ?_
      conv => whnf
      obtain ⟨y303, e304, h⟩ := bind_ex h
      refine MarkOk.of (laws_markOrdinal_ct e304) ?_
      conv => whnf
      obtain ⟨g305, h⟩ := req_ex h
      exact CutK.piece (laws_FnExactCutWord_p16_ct  h) [some 128, some 192, some 384, some 640, some 1139000, some 1139002] [] ⟨⟨rfl, rfl⟩, ⟨rfl, ⟨rfl, rfl, trivial⟩, ⟨rfl, rfl, trivial⟩, ⟨rfl, ⟨rfl, rfl⟩, trivial⟩, ⟨rfl, ⟨rfl, rfl⟩, trivial⟩, ⟨rfl, rfl, rows_same⟩, ⟨rfl, rfl, rows_same⟩, trivial⟩, ⟨rfl, rfl⟩, ⟨rfl, rfl⟩, ⟨rfl, rfl⟩, rfl, ⟨rfl, rfl⟩, rfl, rfl, trivial⟩
def laws_FnExactCutWord_p13 (k : Nat) (a1 : Rw) (a2 : Rw) (o96 : Rw) (o97 : Rw) (o98 : Rw) (o99 : Rw) (v105 : Bool) (v111 : Bool) : Option Bool :=
  (cond v105 (cond v111 ((laws_markWord k o97 1).bind fun y315 => (if y315.2.length = o97.length then (laws_FnExactCutWord_p15 k a1 a2 y315.1 o96 o98 o99 true true) else none)) ((laws_markWord k o97 1).bind fun y312 => (if y312.2.length = o97.length then (laws_FnExactCutWord_p15 k a1 a2 y312.1 o96 o98 o99 false true) else none))) (cond v111 ((laws_markWord k o97 1).bind fun y309 => (if y309.2.length = o97.length then (laws_FnExactCutWord_p15 k a1 a2 y309.1 o96 o98 o99 true false) else none)) ((laws_markWord k o97 1).bind fun y306 => (if y306.2.length = o97.length then (laws_FnExactCutWord_p15 k a1 a2 y306.1 o96 o98 o99 false false) else none))))
set_option maxHeartbeats 4000000 in
set_option maxRecDepth 100000 in
theorem laws_FnExactCutWord_p13_ct {k : Nat} {a1 : Rw} {a2 : Rw} {o96 : Rw} {o97 : Rw} {o98 : Rw} {o99 : Rw} {v105 : Bool} {v111 : Bool} {r : Bool} (h : laws_FnExactCutWord_p13 k a1 a2 o96 o97 o98 o99 v105 v111 = some r) : X prog 0 (tlF f12 13) (mk 119 [(2, .ptr 128 0), (3, .ptr 192 0), (6, .ptr 384 0), (7, .d (D.bool v105)), (8, .ptr 512 0), (9, .ptr 576 0), (10, .ptr 640 0), (11, .d (D.bool v111))] [(128, .box 46 [.d (D.sl a1)]), (192, .box 49 [.d (D.sl a2)]), (384, .box 56 [.os 1129000 o96.length]), (512, .box 56 [.os 1129001 o97.length]), (576, .box 28 [.os 1129002 o98.length]), (640, .box 56 [.os 1129003 o99.length]), (1129000, .arr 111 true o96), (1129001, .arr 111 true o97), (1129002, .arr 119 true o98), (1129003, .arr 111 true o99)]) (finK prog f12 0 (.d (D.bool r)) (⟨[], []⟩)) := by
  rw [laws_FnExactCutWord_p13] at h
  cases v105
  · replace h := condF h
    cases v111
    · replace h := condF h
      conv => whnf
      refine Choice.new ?_
      conv => whnf
      refine Req.of (rfl) ?_
      conv => whnf
      obtain ⟨y306, e307, h⟩ := bind_ex h
      refine MarkOk.of (laws_markWord_ct e307) ?_
      conv => whnf
      obtain ⟨g308, h⟩ := req_ex h
      exact CutK.piece (laws_FnExactCutWord_p15_ct  h) [some 128, some 192, some 384, some 576, some 640, some 1129000, some 1129002, some 1129003] [] ⟨⟨rfl, rfl⟩, ⟨rfl, ⟨rfl, rfl, trivial⟩, ⟨rfl, rfl, trivial⟩, ⟨rfl, ⟨rfl, rfl⟩, trivial⟩, ⟨rfl, ⟨rfl, rfl⟩, trivial⟩, ⟨rfl, ⟨rfl, rfl⟩, trivial⟩, ⟨rfl, rfl, rows_same⟩, ⟨rfl, rfl, rows_same⟩, ⟨rfl, rfl, rows_same⟩, trivial⟩, ⟨rfl, rfl⟩, ⟨rfl, rfl⟩, ⟨rfl, rfl⟩, rfl, ⟨rfl, rfl⟩, ⟨rfl, rfl⟩, rfl, rfl, trivial⟩
    · replace h := condT h
      conv => whnf
      refine Choice.new ?_
      conv => whnf
      refine Req.of (rfl) ?_
      conv => whnf
      obtain ⟨y309, e310, h⟩ := bind_ex h
      refine MarkOk.of (laws_markWord_ct e310) ?_
      conv => whnf
      obtain ⟨g311, h⟩ := req_ex h
      exact CutK.piece (laws_FnExactCutWord_p15_ct  h) [some 128, some 192, some 384, some 576, some 640, some 1129000, some 1129002, some 1129003] [] ⟨⟨rfl, rfl⟩, ⟨rfl, ⟨rfl, rfl, trivial⟩, ⟨rfl, rfl, trivial⟩, ⟨rfl, ⟨rfl, rfl⟩, trivial⟩, ⟨rfl, ⟨rfl, rfl⟩, trivial⟩, ⟨rfl, ⟨rfl, rfl⟩, trivial⟩, ⟨rfl, rfl, rows_same⟩, ⟨rfl, rfl, rows_same⟩, ⟨rfl, rfl, rows_same⟩, trivial⟩, ⟨rfl, rfl⟩, ⟨rfl, rfl⟩, ⟨rfl, rfl⟩, rfl, ⟨rfl, rfl⟩, ⟨rfl, rfl⟩, rfl, rfl, trivial⟩
  · replace h := condT h
    cases v111
    · replace h := condF h
      conv => whnf
      refine Choice.new ?_
      conv => whnf
      refine Req.of (rfl) ?_
      conv => whnf
      obtain ⟨y312, e313, h⟩ := bind_ex h
      refine MarkOk.of (laws_markWord_ct e313) ?_
      conv => whnf
      obtain ⟨g314, h⟩ := req_ex h
      exact CutK.piece (laws_FnExactCutWord_p15_ct  h) [some 128, some 192, some 384, some 576, some 640, some 1129000, some 1129002, some 1129003] [] ⟨⟨rfl, rfl⟩, ⟨rfl, ⟨rfl, rfl, trivial⟩, ⟨rfl, rfl, trivial⟩, ⟨rfl, ⟨rfl, rfl⟩, trivial⟩, ⟨rfl, ⟨rfl, rfl⟩, trivial⟩, ⟨rfl, ⟨rfl, rfl⟩, trivial⟩, ⟨rfl, rfl, rows_same⟩, ⟨rfl, rfl, rows_same⟩, ⟨rfl, rfl, rows_same⟩, trivial⟩, ⟨rfl, rfl⟩, ⟨rfl, rfl⟩, ⟨rfl, rfl⟩, rfl, ⟨rfl, rfl⟩, ⟨rfl, rfl⟩, rfl, rfl, trivial⟩
    · replace h := condT h
      conv => whnf
      refine Choice.new ?_
      conv => whnf
      refine Req.of (rfl) ?_
      conv => whnf
      obtain ⟨y315, e316, h⟩ := bind_ex h
      refine MarkOk.of (laws_markWord_ct e316) ?_
      conv => whnf
      obtain ⟨g317, h⟩ := req_ex h
      exact CutK.piece (laws_FnExactCutWord_p15_ct  h) [some 128, some 192, some 384, some 576, some 640, some 1129000, some 1129002, some 1129003] [] ⟨⟨rfl, rfl⟩, ⟨rfl, ⟨rfl, rfl, trivial⟩, ⟨rfl, rfl, trivial⟩, ⟨rfl, ⟨rfl, rfl⟩, trivial⟩, ⟨rfl, ⟨rfl, rfl⟩, trivial⟩, ⟨rfl, ⟨rfl, rfl⟩, trivial⟩, ⟨rfl, rfl, rows_same⟩, ⟨rfl, rfl, rows_same⟩, ⟨rfl, rfl, rows_same⟩, trivial⟩, ⟨rfl, rfl⟩, ⟨rfl, rfl⟩, ⟨rfl, rfl⟩, rfl, ⟨rfl, rfl⟩, ⟨rfl, rfl⟩, rfl, rfl, trivial⟩
def laws_FnExactCutWord_p12 (k : Nat) (a1 : Rw) (a2 : Rw) (o70 : Rw) (o71 : Rw) (o72 : Rw) (o73 : Rw) (v79 : Bool) (v85 : Bool) : Option Bool :=
  (cond v79 (cond v85 ((laws_toOrdinal k a2).bind fun y333 => ((laws_eqOrdinal k o72 y333).bind fun y335 => (if y335 = true then (laws_FnExactCutWord_p13 k a1 a2 o70 o71 o72 o73 true true) else some false))) ((laws_toOrdinal k a2).bind fun y328 => ((laws_eqOrdinal k o72 y328).bind fun y330 => (if y330 = true then (laws_FnExactCutWord_p13 k a1 a2 o70 o71 o72 o73 false true) else some false)))) (cond v85 ((laws_toOrdinal k a2).bind fun y323 => ((laws_eqOrdinal k o72 y323).bind fun y325 => (if y325 = true then (laws_FnExactCutWord_p13 k a1 a2 o70 o71 o72 o73 true false) else some false))) ((laws_toOrdinal k a2).bind fun y318 => ((laws_eqOrdinal k o72 y318).bind fun y320 => (if y320 = true then (laws_FnExactCutWord_p13 k a1 a2 o70 o71 o72 o73 false false) else some false)))))
set_option maxHeartbeats 4000000 in
set_option maxRecDepth 100000 in
theorem laws_FnExactCutWord_p12_ct {k : Nat} {a1 : Rw} {a2 : Rw} {o70 : Rw} {o71 : Rw} {o72 : Rw} {o73 : Rw} {v79 : Bool} {v85 : Bool} {r : Bool} (h : laws_FnExactCutWord_p12 k a1 a2 o70 o71 o72 o73 v79 v85 = some r) : X prog 0 (tlF f12 12) (mk 119 [(2, .ptr 128 0), (3, .ptr 192 0), (6, .ptr 384 0), (7, .d (D.bool v85)), (8, .ptr 512 0), (9, .ptr 576 0), (10, .ptr 640 0), (11, .d (D.bool v79))] [(128, .box 46 [.d (D.sl a1)]), (192, .box 49 [.d (D.sl a2)]), (384, .box 56 [.os 1124000 o70.length]), (512, .box 56 [.os 1124001 o71.length]), (576, .box 28 [.os 1124002 o72.length]), (640, .box 56 [.os 1124003 o73.length]), (1124000, .arr 111 true o70), (1124001, .arr 111 true o71), (1124002, .arr 119 true o72), (1124003, .arr 111 true o73)]) (finK prog f12 0 (.d (D.bool r)) (⟨[], []⟩)) := by
  rw [laws_FnExactCutWord_p12] at h
  cases v79
  · replace h := condF h
    cases v85
    · replace h := condF h
      conv => whnf
      obtain ⟨y318, e319, h⟩ := bind_ex h
      refine CallOk.of (laws_toOrdinal_ct e319) ?_
      conv => whnf
      refine Take.all (rfl) ?_
      conv => whnf
      refine Take.all (rfl) ?_
      conv => whnf
      obtain ⟨y320, e321, h⟩ := bind_ex h
      refine CallOk.of (laws_eqOrdinal_ct e321) ?_
      conv => whnf
      refine spl (fun g322 => ?_) (fun g322 => ?_)
      · replace h := iteT h g322
        conv => whnf
        refine CutK.norm [2, 3, 6, 7, 8, 9, 10, 11, 63] [128, 192, 384, 512, 576, 640, 1124000, 1124001, 1124002, 1124003] ?_
        conv => whnf
        exact CutK.piece (laws_FnExactCutWord_p13_ct  h) [some 128, some 192, some 384, some 512, some 576, some 640, some 1124000, some 1124001, some 1124002, some 1124003] [] ⟨⟨rfl, rfl⟩, ⟨rfl, ⟨rfl, rfl, trivial⟩, ⟨rfl, rfl, trivial⟩, ⟨rfl, ⟨rfl, rfl⟩, trivial⟩, ⟨rfl, ⟨rfl, rfl⟩, trivial⟩, ⟨rfl, ⟨rfl, rfl⟩, trivial⟩, ⟨rfl, ⟨rfl, rfl⟩, trivial⟩, ⟨rfl, rfl, rows_same⟩, ⟨rfl, rfl, rows_same⟩, ⟨rfl, rfl, rows_same⟩, ⟨rfl, rfl, rows_same⟩, trivial⟩, ⟨rfl, rfl⟩, ⟨rfl, rfl⟩, ⟨rfl, rfl⟩, rfl, ⟨rfl, rfl⟩, ⟨rfl, rfl⟩, ⟨rfl, rfl⟩, rfl, trivial⟩
      · replace h := iteF h g322
        conv => whnf
        refine CutK.norm [2, 3, 6, 7, 8, 9, 10, 11, 63] [128, 192, 384, 512, 576, 640, 1124000, 1124001, 1124002, 1124003] ?_
        conv => whnf
        cases h
        exact Done.of [] [] rfl rfl ⟨⟨rfl, rfl⟩, ⟨rfl, trivial⟩, rfl, trivial⟩
    · replace h := condT h
      conv => whnf
      obtain ⟨y323, e324, h⟩ := bind_ex h
      refine CallOk.of (laws_toOrdinal_ct e324) ?_
      conv => whnf
      refine Take.all (rfl) ?_
      conv => whnf
      refine Take.all (rfl) ?_
      conv => whnf
      obtain ⟨y325, e326, h⟩ := bind_ex h
      refine CallOk.of (laws_eqOrdinal_ct e326) ?_
      conv => whnf
      refine spl (fun g327 => ?_) (fun g327 => ?_)
      · replace h := iteT h g327
        conv => whnf
        refine CutK.norm [2, 3, 6, 7, 8, 9, 10, 11, 63] [128, 192, 384, 512, 576, 640, 1124000, 1124001, 1124002, 1124003] ?_
        conv => whnf
        exact CutK.piece (laws_FnExactCutWord_p13_ct  h) [some 128, some 192, some 384, some 512, some 576, some 640, some 1124000, some 1124001, some 1124002, some 1124003] [] ⟨⟨rfl, rfl⟩, ⟨rfl, ⟨rfl, rfl, trivial⟩, ⟨rfl, rfl, trivial⟩, ⟨rfl, ⟨rfl, rfl⟩, trivial⟩, ⟨rfl, ⟨rfl, rfl⟩, trivial⟩, ⟨rfl, ⟨rfl, rfl⟩, trivial⟩, ⟨rfl, ⟨rfl, rfl⟩, trivial⟩, ⟨rfl, rfl, rows_same⟩, ⟨rfl, rfl, rows_same⟩, ⟨rfl, rfl, rows_same⟩, ⟨rfl, rfl, rows_same⟩, trivial⟩, ⟨rfl, rfl⟩, ⟨rfl, rfl⟩, ⟨rfl, rfl⟩, rfl, ⟨rfl, rfl⟩, ⟨rfl, rfl⟩, ⟨rfl, rfl⟩, rfl, trivial⟩
      · replace h := iteF h g327
        conv => whnf
        refine CutK.norm [2, 3, 6, 7, 8, 9, 10, 11, 63] [128, 192, 384, 512, 576, 640, 1124000, 1124001, 1124002, 1124003] ?_
        conv => whnf
        cases h
        exact Done.of [] [] rfl rfl ⟨⟨rfl, rfl⟩, ⟨rfl, trivial⟩, rfl, trivial⟩
  · replace h := condT h
    cases v85
    · replace h := condF h
      conv => whnf
      obtain ⟨y328, e329, h⟩ := bind_ex h
      refine CallOk.of (laws_toOrdinal_ct e329) ?_
      conv => whnf
      refine Take.all (rfl) ?_
      conv => whnf
      refine Take.all (rfl) ?_
      conv => whnf
      obtain ⟨y330, e331, h⟩ := bind_ex h
      refine CallOk.of (laws_eqOrdinal_ct e331) ?_
      conv => whnf
      refine spl (fun g332 => ?_) (fun g332 => ?_)
      · replace h := iteT h g332
        conv => whnf
        refine CutK.norm [2, 3, 6, 7, 8, 9, 10, 11, 63] [128, 192, 384, 512, 576, 640, 1124000, 1124001, 1124002, 1124003] ?_
        conv => whnf
        exact CutK.piece (laws_FnExactCutWord_p13_ct  h) [some 128, some 192, some 384, some 512, some 576, some 640, some 1124000, some 1124001, some 1124002, some 1124003] [] ⟨⟨rfl, rfl⟩, ⟨rfl, ⟨rfl, rfl, trivial⟩, ⟨rfl, rfl, trivial⟩, ⟨rfl, ⟨rfl, rfl⟩, trivial⟩, ⟨rfl, ⟨rfl, rfl⟩, trivial⟩, ⟨rfl, ⟨rfl, rfl⟩, trivial⟩, ⟨rfl, ⟨rfl, rfl⟩, trivial⟩, ⟨rfl, rfl, rows_same⟩, ⟨rfl, rfl, rows_same⟩, ⟨rfl, rfl, rows_same⟩, ⟨rfl, rfl, rows_same⟩, trivial⟩, ⟨rfl, rfl⟩, ⟨rfl, rfl⟩, ⟨rfl, rfl⟩, rfl, ⟨rfl, rfl⟩, ⟨rfl, rfl⟩, ⟨rfl, rfl⟩, rfl, trivial⟩
      · replace h := iteF h g332
        conv => whnf
        refine CutK.norm [2, 3, 6, 7, 8, 9, 10, 11, 63] [128, 192, 384, 512, 576, 640, 1124000, 1124001, 1124002, 1124003] ?_
        conv => whnf
        cases h
        exact Done.of [] [] rfl rfl ⟨⟨rfl, rfl⟩, ⟨rfl, trivial⟩, rfl, trivial⟩
    · replace h := condT h
      conv => whnf
      obtain ⟨y333, e334, h⟩ := bind_ex h
      refine CallOk.of (laws_toOrdinal_ct e334) ?_
      conv => whnf
      refine Take.all (rfl) ?_
      conv => whnf
      refine Take.all (rfl) ?_
      conv => whnf
      obtain ⟨y335, e336, h⟩ := bind_ex h
      refine CallOk.of (laws_eqOrdinal_ct e336) ?_
      conv => whnf
      refine spl (fun g337 => ?_) (fun g337 => ?_)
      · replace h := iteT h g337
        conv => whnf
        refine CutK.norm [2, 3, 6, 7, 8, 9, 10, 11, 63] [128, 192, 384, 512, 576, 640, 1124000, 1124001, 1124002, 1124003] ?_
        conv => whnf
        exact CutK.piece (laws_FnExactCutWord_p13_ct  h) [some 128, some 192, some 384, some 512, some 576, some 640, some 1124000, some 1124001, some 1124002, some 1124003] [] ⟨⟨rfl, rfl⟩, ⟨rfl, ⟨rfl, rfl, trivial⟩, ⟨rfl, rfl, trivial⟩, ⟨rfl, ⟨rfl, rfl⟩, trivial⟩, ⟨rfl, ⟨rfl, rfl⟩, trivial⟩, ⟨rfl, ⟨rfl, rfl⟩, trivial⟩, ⟨rfl, ⟨rfl, rfl⟩, trivial⟩, ⟨rfl, rfl, rows_same⟩, ⟨rfl, rfl, rows_same⟩, ⟨rfl, rfl, rows_same⟩, ⟨rfl, rfl, rows_same⟩, trivial⟩, ⟨rfl, rfl⟩, ⟨rfl, rfl⟩, ⟨rfl, rfl⟩, rfl, ⟨rfl, rfl⟩, ⟨rfl, rfl⟩, ⟨rfl, rfl⟩, rfl, trivial⟩
      · replace h := iteF h g337
        conv => whnf
        refine CutK.norm [2, 3, 6, 7, 8, 9, 10, 11, 63] [128, 192, 384, 512, 576, 640, 1124000, 1124001, 1124002, 1124003] ?_
        conv => whnf
        cases h
        exact Done.of [] [] rfl rfl ⟨⟨rfl, rfl⟩, ⟨rfl, trivial⟩, rfl, trivial⟩
def laws_FnExactCutWord_p11 (k : Nat) (a1 : Rw) (a2 : Rw) (o50 : Rw) (o51 : Rw) (o52 : Rw) (o53 : Rw) (v63 : Bool) (v64 : Bool) : Option Bool :=
  (cond v63 (cond v64 ((laws_toWord k a1).bind fun y353 => ((laws_eqWord k o51 y353).bind fun y355 => (if y355 = true then (laws_FnExactCutWord_p12 k a1 a2 o50 o51 o52 o53 true true) else some false))) ((laws_toWord k a1).bind fun y348 => ((laws_eqWord k o51 y348).bind fun y350 => (if y350 = true then (laws_FnExactCutWord_p12 k a1 a2 o50 o51 o52 o53 false true) else some false)))) (cond v64 ((laws_toWord k a1).bind fun y343 => ((laws_eqWord k o51 y343).bind fun y345 => (if y345 = true then (laws_FnExactCutWord_p12 k a1 a2 o50 o51 o52 o53 true false) else some false))) ((laws_toWord k a1).bind fun y338 => ((laws_eqWord k o51 y338).bind fun y340 => (if y340 = true then (laws_FnExactCutWord_p12 k a1 a2 o50 o51 o52 o53 false false) else some false)))))
set_option maxHeartbeats 4000000 in
set_option maxRecDepth 100000 in
theorem laws_FnExactCutWord_p11_ct {k : Nat} {a1 : Rw} {a2 : Rw} {o50 : Rw} {o51 : Rw} {o52 : Rw} {o53 : Rw} {v63 : Bool} {v64 : Bool} {r : Bool} (h : laws_FnExactCutWord_p11 k a1 a2 o50 o51 o52 o53 v63 v64 = some r) : X prog 0 (tlF f12 11) (mk 119 [(2, .ptr 128 0), (3, .ptr 192 0), (6, .ptr 384 0), (7, .d (D.bool v63)), (8, .ptr 512 0), (9, .ptr 576 0), (10, .ptr 640 0), (11, .d (D.bool v64))] [(128, .box 46 [.d (D.sl a1)]), (192, .box 49 [.d (D.sl a2)]), (384, .box 56 [.os 1119000 o50.length]), (512, .box 56 [.os 1119001 o51.length]), (576, .box 28 [.os 1119002 o52.length]), (640, .box 56 [.os 1119003 o53.length]), (1119000, .arr 111 true o50), (1119001, .arr 111 true o51), (1119002, .arr 119 true o52), (1119003, .arr 111 true o53)]) (finK prog f12 0 (.d (D.bool r)) (⟨[], []⟩)) := by
  rw [laws_FnExactCutWord_p11] at h
  cases v63
  · replace h := condF h
    cases v64
    · replace h := condF h
      conv => whnf
      obtain ⟨y338, e339, h⟩ := bind_ex h
      refine CallOk.of (laws_toWord_ct e339) ?_
      conv => whnf
      refine Take.all (rfl) ?_
      conv => whnf
      refine Take.all (rfl) ?_
      conv => whnf
      obtain ⟨y340, e341, h⟩ := bind_ex h
      refine CallOk.of (laws_eqWord_ct e341) ?_
      conv => whnf
      refine spl (fun g342 => ?_) (fun g342 => ?_)
      · replace h := iteT h g342
        conv => whnf
        refine CutK.norm [2, 3, 6, 7, 8, 9, 10, 11, 58] [128, 192, 384, 512, 576, 640, 1119000, 1119001, 1119002, 1119003] ?_
        conv => whnf
        exact CutK.piece (laws_FnExactCutWord_p12_ct  h) [some 128, some 192, some 384, some 512, some 576, some 640, some 1119000, some 1119001, some 1119002, some 1119003] [] ⟨⟨rfl, rfl⟩, ⟨rfl, ⟨rfl, rfl, trivial⟩, ⟨rfl, rfl, trivial⟩, ⟨rfl, ⟨rfl, rfl⟩, trivial⟩, ⟨rfl, ⟨rfl, rfl⟩, trivial⟩, ⟨rfl, ⟨rfl, rfl⟩, trivial⟩, ⟨rfl, ⟨rfl, rfl⟩, trivial⟩, ⟨rfl, rfl, rows_same⟩, ⟨rfl, rfl, rows_same⟩, ⟨rfl, rfl, rows_same⟩, ⟨rfl, rfl, rows_same⟩, trivial⟩, ⟨rfl, rfl⟩, ⟨rfl, rfl⟩, ⟨rfl, rfl⟩, rfl, ⟨rfl, rfl⟩, ⟨rfl, rfl⟩, ⟨rfl, rfl⟩, rfl, trivial⟩
      · replace h := iteF h g342
        conv => whnf
        refine CutK.norm [2, 3, 6, 7, 8, 9, 10, 11, 58] [128, 192, 384, 512, 576, 640, 1119000, 1119001, 1119002, 1119003] ?_
        conv => whnf
        cases h
        exact Done.of [] [] rfl rfl ⟨⟨rfl, rfl⟩, ⟨rfl, trivial⟩, rfl, trivial⟩
    · replace h := condT h
      conv => whnf
      obtain ⟨y343, e344, h⟩ := bind_ex h
      refine CallOk.of (laws_toWord_ct e344) ?_
      conv => whnf
      refine Take.all (rfl) ?_
      conv => whnf
      refine Take.all (rfl) ?_
      conv => whnf
      obtain ⟨y345, e346, h⟩ := bind_ex h
      refine CallOk.of (laws_eqWord_ct e346) ?_
      conv => whnf
      refine spl (fun g347 => ?_) (fun g347 => ?_)
      · replace h := iteT h g347
        conv => whnf
        refine CutK.norm [2, 3, 6, 7, 8, 9, 10, 11, 58] [128, 192, 384, 512, 576, 640, 1119000, 1119001, 1119002, 1119003] ?_
        conv => whnf
        exact CutK.piece (laws_FnExactCutWord_p12_ct  h) [some 128, some 192, some 384, some 512, some 576, some 640, some 1119000, some 1119001, some 1119002, some 1119003] [] ⟨⟨rfl, rfl⟩, ⟨rfl, ⟨rfl, rfl, trivial⟩, ⟨rfl, rfl, trivial⟩, ⟨rfl, ⟨rfl, rfl⟩, trivial⟩, ⟨rfl, ⟨rfl, rfl⟩, trivial⟩, ⟨rfl, ⟨rfl, rfl⟩, trivial⟩, ⟨rfl, ⟨rfl, rfl⟩, trivial⟩, ⟨rfl, rfl, rows_same⟩, ⟨rfl, rfl, rows_same⟩, ⟨rfl, rfl, rows_same⟩, ⟨rfl, rfl, rows_same⟩, trivial⟩, ⟨rfl, rfl⟩, ⟨rfl, rfl⟩, ⟨rfl, rfl⟩, rfl, ⟨rfl, rfl⟩, ⟨rfl, rfl⟩, ⟨rfl, rfl⟩, rfl, trivial⟩
      · replace h := iteF h g347
        conv => whnf
        refine CutK.norm [2, 3, 6, 7, 8, 9, 10, 11, 58] [128, 192, 384, 512, 576, 640, 1119000, 1119001, 1119002, 1119003] ?_
        conv => whnf
        cases h
        exact Done.of [] [] rfl rfl ⟨⟨rfl, rfl⟩, ⟨rfl, trivial⟩, rfl, trivial⟩
  · replace h := condT h
    cases v64
    · replace h := condF h
      conv => whnf
      obtain ⟨y348, e349, h⟩ := bind_ex h
      refine CallOk.of (laws_toWord_ct e349) ?_
      conv => whnf
      refine Take.all (rfl) ?_
      conv => whnf
      refine Take.all (rfl) ?_
      conv => whnf
      obtain ⟨y350, e351, h⟩ := bind_ex h
      refine CallOk.of (laws_eqWord_ct e351) ?_
      conv => whnf
      refine spl (fun g352 => ?_) (fun g352 => ?_)
      · replace h := iteT h g352
        conv => whnf
        refine CutK.norm [2, 3, 6, 7, 8, 9, 10, 11, 58] [128, 192, 384, 512, 576, 640, 1119000, 1119001, 1119002, 1119003] ?_
        conv => whnf
        exact CutK.piece (laws_FnExactCutWord_p12_ct  h) [some 128, some 192, some 384, some 512, some 576, some 640, some 1119000, some 1119001, some 1119002, some 1119003] [] ⟨⟨rfl, rfl⟩, ⟨rfl, ⟨rfl, rfl, trivial⟩, ⟨rfl, rfl, trivial⟩, ⟨rfl, ⟨rfl, rfl⟩, trivial⟩, ⟨rfl, ⟨rfl, rfl⟩, trivial⟩, ⟨rfl, ⟨rfl, rfl⟩, trivial⟩, ⟨rfl, ⟨rfl, rfl⟩, trivial⟩, ⟨rfl, rfl, rows_same⟩, ⟨rfl, rfl, rows_same⟩, ⟨rfl, rfl, rows_same⟩, ⟨rfl, rfl, rows_same⟩, trivial⟩, ⟨rfl, rfl⟩, ⟨rfl, rfl⟩, ⟨rfl, rfl⟩, rfl, ⟨rfl, rfl⟩, ⟨rfl, rfl⟩, ⟨rfl, rfl⟩, rfl, trivial⟩
      · replace h := iteF h g352
        conv => whnf
        refine CutK.norm [2, 3, 6, 7, 8, 9, 10, 11, 58] [128, 192, 384, 512, 576, 640, 1119000, 1119001, 1119002, 1119003] ?_
        conv => whnf
        cases h
        exact Done.of [] [] rfl rfl ⟨⟨rfl, rfl⟩, ⟨rfl, trivial⟩, rfl, trivial⟩
    · replace h := condT h
      conv => whnf
      obtain ⟨y353, e354, h⟩ := bind_ex h
      refine CallOk.of (laws_toWord_ct e354) ?_
      conv => whnf
      refine Take.all (rfl) ?_
      conv => whnf
      refine Take.all (rfl) ?_
      conv => whnf
      obtain ⟨y355, e356, h⟩ := bind_ex h
      refine CallOk.of (laws_eqWord_ct e356) ?_
      conv => whnf
      refine spl (fun g357 => ?_) (fun g357 => ?_)
      · replace h := iteT h g357
        conv => whnf
        refine CutK.norm [2, 3, 6, 7, 8, 9, 10, 11, 58] [128, 192, 384, 512, 576, 640, 1119000, 1119001, 1119002, 1119003] ?_
        conv => whnf
        exact CutK.piece (laws_FnExactCutWord_p12_ct  h) [some 128, some 192, some 384, some 512, some 576, some 640, some 1119000, some 1119001, some 1119002, some 1119003] [] ⟨⟨rfl, rfl⟩, ⟨rfl, ⟨rfl, rfl, trivial⟩, ⟨rfl, rfl, trivial⟩, ⟨rfl, ⟨rfl, rfl⟩, trivial⟩, ⟨rfl, ⟨rfl, rfl⟩, trivial⟩, ⟨rfl, ⟨rfl, rfl⟩, trivial⟩, ⟨rfl, ⟨rfl, rfl⟩, trivial⟩, ⟨rfl, rfl, rows_same⟩, ⟨rfl, rfl, rows_same⟩, ⟨rfl, rfl, rows_same⟩, ⟨rfl, rfl, rows_same⟩, trivial⟩, ⟨rfl, rfl⟩, ⟨rfl, rfl⟩, ⟨rfl, rfl⟩, rfl, ⟨rfl, rfl⟩, ⟨rfl, rfl⟩, ⟨rfl, rfl⟩, rfl, trivial⟩
      · replace h := iteF h g357
        conv => whnf
        refine CutK.norm [2, 3, 6, 7, 8, 9, 10, 11, 58] [128, 192, 384, 512, 576, 640, 1119000, 1119001, 1119002, 1119003] ?_
        conv => whnf
        cases h
        exact Done.of [] [] rfl rfl ⟨⟨rfl, rfl⟩, ⟨rfl, trivial⟩, rfl, trivial⟩
def laws_FnExactCutWord_p10 (k : Nat) (a1 : Rw) (a2 : Rw) (o38 : Rw) (o39 : Rw) (o40 : Rw) (o41 : Rw) (v42 : Bool) (v46 : Bool) : Option Bool :=
  (cond v42 (cond v46 ((laws_eqWord k o41 o38).bind fun y367 => (if y367 = true then (laws_FnExactCutWord_p11 k a1 a2 o38 o39 o40 o41 true true) else some false)) ((laws_eqWord k o41 o38).bind fun y364 => (if y364 = true then some false else some false))) (cond v46 ((laws_eqWord k o41 o38).bind fun y361 => (if y361 = true then some false else some false)) ((laws_eqWord k o41 o38).bind fun y358 => (if y358 = true then (laws_FnExactCutWord_p11 k a1 a2 o38 o39 o40 o41 false false) else some false))))
set_option maxHeartbeats 4000000 in
set_option maxRecDepth 100000 in
theorem laws_FnExactCutWord_p10_ct {k : Nat} {a1 : Rw} {a2 : Rw} {o38 : Rw} {o39 : Rw} {o40 : Rw} {o41 : Rw} {v42 : Bool} {v46 : Bool} {r : Bool} (h : laws_FnExactCutWord_p10 k a1 a2 o38 o39 o40 o41 v42 v46 = some r) : X prog 0 (tlF f12 10) (mk 119 [(2, .ptr 128 0), (3, .ptr 192 0), (6, .ptr 384 0), (7, .d (D.bool v46)), (8, .ptr 512 0), (9, .ptr 576 0), (10, .ptr 640 0), (11, .d (D.bool v42))] [(128, .box 46 [.d (D.sl a1)]), (192, .box 49 [.d (D.sl a2)]), (384, .box 56 [.os 1114000 o38.length]), (512, .box 56 [.os 1114001 o39.length]), (576, .box 28 [.os 1114002 o40.length]), (640, .box 56 [.os 1114003 o41.length]), (1114000, .arr 111 true o38), (1114001, .arr 111 true o39), (1114002, .arr 119 true o40), (1114003, .arr 111 true o41)]) (finK prog f12 0 (.d (D.bool r)) (⟨[], []⟩)) := by
  rw [laws_FnExactCutWord_p10] at h
  cases v42
  · replace h := condF h
    cases v46
    · replace h := condF h
      conv => whnf
      refine Take.all (rfl) ?_
      conv => whnf
      refine Take.all (rfl) ?_
      conv => whnf
      obtain ⟨y358, e359, h⟩ := bind_ex h
      refine CallOk.of (laws_eqWord_ct e359) ?_
      conv => whnf
      refine spl (fun g360 => ?_) (fun g360 => ?_)
      · replace h := iteT h g360
        conv => whnf
        refine splF ?_
        conv => whnf
        refine CutK.norm [2, 3, 6, 7, 8, 9, 10, 11, 53] [128, 192, 384, 512, 576, 640, 1114000, 1114001, 1114002, 1114003] ?_
        conv => whnf
        exact CutK.piece (laws_FnExactCutWord_p11_ct  h) [some 128, some 192, some 384, some 512, some 576, some 640, some 1114000, some 1114001, some 1114002, some 1114003] [] ⟨⟨rfl, rfl⟩, ⟨rfl, ⟨rfl, rfl, trivial⟩, ⟨rfl, rfl, trivial⟩, ⟨rfl, ⟨rfl, rfl⟩, trivial⟩, ⟨rfl, ⟨rfl, rfl⟩, trivial⟩, ⟨rfl, ⟨rfl, rfl⟩, trivial⟩, ⟨rfl, ⟨rfl, rfl⟩, trivial⟩, ⟨rfl, rfl, rows_same⟩, ⟨rfl, rfl, rows_same⟩, ⟨rfl, rfl, rows_same⟩, ⟨rfl, rfl, rows_same⟩, trivial⟩, ⟨rfl, rfl⟩, ⟨rfl, rfl⟩, ⟨rfl, rfl⟩, rfl, ⟨rfl, rfl⟩, ⟨rfl, rfl⟩, ⟨rfl, rfl⟩, rfl, trivial⟩
      · replace h := iteF h g360
        conv => whnf
        refine CutK.norm [2, 3, 6, 7, 8, 9, 10, 11, 53] [128, 192, 384, 512, 576, 640, 1114000, 1114001, 1114002, 1114003] ?_
        conv => whnf
        cases h
        exact Done.of [] [] rfl rfl ⟨⟨rfl, rfl⟩, ⟨rfl, trivial⟩, rfl, trivial⟩
    · replace h := condT h
      conv => whnf
      refine Take.all (rfl) ?_
      conv => whnf
      refine Take.all (rfl) ?_
      conv => whnf
      obtain ⟨y361, e362, h⟩ := bind_ex h
      refine CallOk.of (laws_eqWord_ct e362) ?_
      conv => whnf
      refine spl (fun g363 => ?_) (fun g363 => ?_)
      · replace h := iteT h g363
        conv => whnf
        refine splT ?_
        conv => whnf
        refine CutK.norm [2, 3, 6, 7, 8, 9, 10, 11, 53] [128, 192, 384, 512, 576, 640, 1114000, 1114001, 1114002, 1114003] ?_
        conv => whnf
        cases h
        exact Done.of [] [] rfl rfl ⟨⟨rfl, rfl⟩, ⟨rfl, trivial⟩, rfl, trivial⟩
      · replace h := iteF h g363
        conv => whnf
        refine CutK.norm [2, 3, 6, 7, 8, 9, 10, 11, 53] [128, 192, 384, 512, 576, 640, 1114000, 1114001, 1114002, 1114003] ?_
        conv => whnf
        cases h
        exact Done.of [] [] rfl rfl ⟨⟨rfl, rfl⟩, ⟨rfl, trivial⟩, rfl, trivial⟩
  · replace h := condT h
    cases v46
    · replace h := condF h
      conv => whnf
      refine Take.all (rfl) ?_
      conv => whnf
      refine Take.all (rfl) ?_
      conv => whnf
      obtain ⟨y364, e365, h⟩ := bind_ex h
      refine CallOk.of (laws_eqWord_ct e365) ?_
      conv => whnf
      refine spl (fun g366 => ?_) (fun g366 => ?_)
      · replace h := iteT h g366
        conv => whnf
        refine splT ?_
        conv => whnf
        refine CutK.norm [2, 3, 6, 7, 8, 9, 10, 11, 53] [128, 192, 384, 512, 576, 640, 1114000, 1114001, 1114002, 1114003] ?_
        conv => whnf
        cases h
        exact Done.of [] [] rfl rfl ⟨⟨rfl, rfl⟩, ⟨rfl, trivial⟩, rfl, trivial⟩
      · replace h := iteF h g366
        conv => whnf
        refine CutK.norm [2, 3, 6, 7, 8, 9, 10, 11, 53] [128, 192, 384, 512, 576, 640, 1114000, 1114001, 1114002, 1114003] ?_
        conv => whnf
        cases h
        exact Done.of [] [] rfl rfl ⟨⟨rfl, rfl⟩, ⟨rfl, trivial⟩, rfl, trivial⟩
    · replace h := condT h
      conv => whnf
      refine Take.all (rfl) ?_
      conv => whnf
      refine Take.all (rfl) ?_
      conv => whnf
      obtain ⟨y367, e368, h⟩ := bind_ex h
      refine CallOk.of (laws_eqWord_ct e368) ?_
      conv => whnf
      refine spl (fun g369 => ?_) (fun g369 => ?_)
      · replace h := iteT h g369
        conv => whnf
        refine splF ?_
        conv => whnf
        refine CutK.norm [2, 3, 6, 7, 8, 9, 10, 11, 53] [128, 192, 384, 512, 576, 640, 1114000, 1114001, 1114002, 1114003] ?_
        conv => whnf
        exact CutK.piece (laws_FnExactCutWord_p11_ct  h) [some 128, some 192, some 384, some 512, some 576, some 640, some 1114000, some 1114001, some 1114002, some 1114003] [] ⟨⟨rfl, rfl⟩, ⟨rfl, ⟨rfl, rfl, trivial⟩, ⟨rfl, rfl, trivial⟩, ⟨rfl, ⟨rfl, rfl⟩, trivial⟩, ⟨rfl, ⟨rfl, rfl⟩, trivial⟩, ⟨rfl, ⟨rfl, rfl⟩, trivial⟩, ⟨rfl, ⟨rfl, rfl⟩, trivial⟩, ⟨rfl, rfl, rows_same⟩, ⟨rfl, rfl, rows_same⟩, ⟨rfl, rfl, rows_same⟩, ⟨rfl, rfl, rows_same⟩, trivial⟩, ⟨rfl, rfl⟩, ⟨rfl, rfl⟩, ⟨rfl, rfl⟩, rfl, ⟨rfl, rfl⟩, ⟨rfl, rfl⟩, ⟨rfl, rfl⟩, rfl, trivial⟩
      · replace h := iteF h g369
        conv => whnf
        refine CutK.norm [2, 3, 6, 7, 8, 9, 10, 11, 53] [128, 192, 384, 512, 576, 640, 1114000, 1114001, 1114002, 1114003] ?_
        conv => whnf
        cases h
        exact Done.of [] [] rfl rfl ⟨⟨rfl, rfl⟩, ⟨rfl, trivial⟩, rfl, trivial⟩
def laws_FnExactCutWord_p9 (k : Nat) (a1 : Rw) (a2 : Rw) (o29 : Rw) (o30 : Rw) (o31 : Rw) (v34 : Bool) : Option Bool :=
  (cond v34 ((impl_CutWord k o30 o31).bind fun y373 => (if y373.2 = true then (laws_FnExactCutWord_p10 k a1 a2 o29 o30 o31 y373.1 true true) else (laws_FnExactCutWord_p10 k a1 a2 o29 o30 o31 y373.1 false true))) ((impl_CutWord k o30 o31).bind fun y370 => (if y370.2 = true then (laws_FnExactCutWord_p10 k a1 a2 o29 o30 o31 y370.1 true false) else (laws_FnExactCutWord_p10 k a1 a2 o29 o30 o31 y370.1 false false))))
set_option maxHeartbeats 4000000 in
set_option maxRecDepth 100000 in
theorem laws_FnExactCutWord_p9_ct {k : Nat} {a1 : Rw} {a2 : Rw} {o29 : Rw} {o30 : Rw} {o31 : Rw} {v34 : Bool} {r : Bool} (h : laws_FnExactCutWord_p9 k a1 a2 o29 o30 o31 v34 = some r) : X prog 0 (tlF f12 9) (mk 119 [(2, .ptr 128 0), (3, .ptr 192 0), (6, .ptr 384 0), (7, .d (D.bool v34)), (8, .ptr 512 0), (9, .ptr 576 0)] [(128, .box 46 [.d (D.sl a1)]), (192, .box 49 [.d (D.sl a2)]), (384, .box 56 [.os 1109000 o29.length]), (512, .box 56 [.os 1109001 o30.length]), (576, .box 28 [.os 1109002 o31.length]), (1109000, .arr 111 true o29), (1109001, .arr 111 true o30), (1109002, .arr 119 true o31)]) (finK prog f12 0 (.d (D.bool r)) (⟨[], []⟩)) := by
  rw [laws_FnExactCutWord_p9] at h
  cases v34
  · replace h := condF h
    conv => whnf
    refine Take.all (rfl) ?_
    conv => whnf
    refine Take.all (rfl) ?_
    conv => whnf
    obtain ⟨y370, e371, h⟩ := bind_ex h
    refine CallOk.of (impl_CutWord_ct e371) ?_
    conv => whnf
    refine spl (fun g372 => ?_) (fun g372 => ?_)
    · replace h := iteT h g372
      conv => whnf
      exact CutK.piece (laws_FnExactCutWord_p10_ct  h) [some 128, some 192, some 384, some 512, some 576, some 640, some 1109000, some 1109001, some 1109002, some 2688] [] ⟨⟨rfl, rfl⟩, ⟨rfl, ⟨rfl, rfl, trivial⟩, ⟨rfl, rfl, trivial⟩, ⟨rfl, ⟨rfl, rfl⟩, trivial⟩, ⟨rfl, ⟨rfl, rfl⟩, trivial⟩, ⟨rfl, ⟨rfl, rfl⟩, trivial⟩, ⟨rfl, ⟨rfl, rfl⟩, trivial⟩, ⟨rfl, rfl, rows_same⟩, ⟨rfl, rfl, rows_same⟩, ⟨rfl, rfl, rows_same⟩, ⟨rfl, rfl, rows_same⟩, trivial⟩, ⟨rfl, rfl⟩, ⟨rfl, rfl⟩, ⟨rfl, rfl⟩, rfl, ⟨rfl, rfl⟩, ⟨rfl, rfl⟩, ⟨rfl, rfl⟩, rfl, trivial⟩
    · replace h := iteF h g372
      conv => whnf
      exact CutK.piece (laws_FnExactCutWord_p10_ct  h) [some 128, some 192, some 384, some 512, some 576, some 640, some 1109000, some 1109001, some 1109002, some 2688] [] ⟨⟨rfl, rfl⟩, ⟨rfl, ⟨rfl, rfl, trivial⟩, ⟨rfl, rfl, trivial⟩, ⟨rfl, ⟨rfl, rfl⟩, trivial⟩, ⟨rfl, ⟨rfl, rfl⟩, trivial⟩, ⟨rfl, ⟨rfl, rfl⟩, trivial⟩, ⟨rfl, ⟨rfl, rfl⟩, trivial⟩, ⟨rfl, rfl, rows_same⟩, ⟨rfl, rfl, rows_same⟩, ⟨rfl, rfl, rows_same⟩, ⟨rfl, rfl, rows_same⟩, trivial⟩, ⟨rfl, rfl⟩, ⟨rfl, rfl⟩, ⟨rfl, rfl⟩, rfl, ⟨rfl, rfl⟩, ⟨rfl, rfl⟩, ⟨rfl, rfl⟩, rfl, trivial⟩
  · replace h := condT h
    conv => whnf
    refine Take.all (rfl) ?_
    conv => whnf
    refine Take.all (rfl) ?_
    conv => whnf
    obtain ⟨y373, e374, h⟩ := bind_ex h
    refine CallOk.of (impl_CutWord_ct e374) ?_
    conv => whnf
    refine spl (fun g375 => ?_) (fun g375 => ?_)
    · replace h := iteT h g375
      conv => whnf
      exact CutK.piece (laws_FnExactCutWord_p10_ct  h) [some 128, some 192, some 384, some 512, some 576, some 640, some 1109000, some 1109001, some 1109002, some 2688] [] ⟨⟨rfl, rfl⟩, ⟨rfl, ⟨rfl, rfl, trivial⟩, ⟨rfl, rfl, trivial⟩, ⟨rfl, ⟨rfl, rfl⟩, trivial⟩, ⟨rfl, ⟨rfl, rfl⟩, trivial⟩, ⟨rfl, ⟨rfl, rfl⟩, trivial⟩, ⟨rfl, ⟨rfl, rfl⟩, trivial⟩, ⟨rfl, rfl, rows_same⟩, ⟨rfl, rfl, rows_same⟩, ⟨rfl, rfl, rows_same⟩, ⟨rfl, rfl, rows_same⟩, trivial⟩, ⟨rfl, rfl⟩, ⟨rfl, rfl⟩, ⟨rfl, rfl⟩, rfl, ⟨rfl, rfl⟩, ⟨rfl, rfl⟩, ⟨rfl, rfl⟩, rfl, trivial⟩
    · replace h := iteF h g375
      conv => whnf
      exact CutK.piece (laws_FnExactCutWord_p10_ct  h) [some 128, some 192, some 384, some 512, some 576, some 640, some 1109000, some 1109001, some 1109002, some 2688] [] ⟨⟨rfl, rfl⟩, ⟨rfl, ⟨rfl, rfl, trivial⟩, ⟨rfl, rfl, trivial⟩, ⟨rfl, ⟨rfl, rfl⟩, trivial⟩, ⟨rfl, ⟨rfl, rfl⟩, trivial⟩, ⟨rfl, ⟨rfl, rfl⟩, trivial⟩, ⟨rfl, ⟨rfl, rfl⟩, trivial⟩, ⟨rfl, rfl, rows_same⟩, ⟨rfl, rfl, rows_same⟩, ⟨rfl, rfl, rows_same⟩, ⟨rfl, rfl, rows_same⟩, trivial⟩, ⟨rfl, rfl⟩, ⟨rfl, rfl⟩, ⟨rfl, rfl⟩, rfl, ⟨rfl, rfl⟩, ⟨rfl, rfl⟩, ⟨rfl, rfl⟩, rfl, trivial⟩
def laws_FnExactCutWord_p8 (k : Nat) (a1 : Rw) (a2 : Rw) (o22 : Rw) (o23 : Rw) (v26 : Bool) : Option Bool :=
  (cond v26 ((laws_toOrdinal k a2).bind fun y378 => (laws_FnExactCutWord_p9 k a1 a2 o22 o23 y378 true)) ((laws_toOrdinal k a2).bind fun y376 => (laws_FnExactCutWord_p9 k a1 a2 o22 o23 y376 false)))
set_option maxHeartbeats 4000000 in
set_option maxRecDepth 100000 in
theorem laws_FnExactCutWord_p8_ct {k : Nat} {a1 : Rw} {a2 : Rw} {o22 : Rw} {o23 : Rw} {v26 : Bool} {r : Bool} (h : laws_FnExactCutWord_p8 k a1 a2 o22 o23 v26 = some r) : X prog 0 (tlF f12 8) (mk 119 [(2, .ptr 128 0), (3, .ptr 192 0), (6, .ptr 384 0), (7, .d (D.bool v26)), (8, .ptr 512 0)] [(128, .box 46 [.d (D.sl a1)]), (192, .box 49 [.d (D.sl a2)]), (384, .box 56 [.os 1104000 o22.length]), (512, .box 56 [.os 1104001 o23.length]), (1104000, .arr 111 true o22), (1104001, .arr 111 true o23)]) (finK prog f12 0 (.d (D.bool r)) (⟨[], []⟩)) := by
  rw [laws_FnExactCutWord_p8] at h
  cases v26
  · replace h := condF h
    conv => whnf
    obtain ⟨y376, e377, h⟩ := bind_ex h
    refine CallOk.of (laws_toOrdinal_ct e377) ?_
    conv => whnf
    exact CutK.piece (laws_FnExactCutWord_p9_ct  h) [some 128, some 192, some 384, some 512, some 576, some 1104000, some 1104001, some 2432] [] ⟨⟨rfl, rfl⟩, ⟨rfl, ⟨rfl, rfl, trivial⟩, ⟨rfl, rfl, trivial⟩, ⟨rfl, ⟨rfl, rfl⟩, trivial⟩, ⟨rfl, ⟨rfl, rfl⟩, trivial⟩, ⟨rfl, ⟨rfl, rfl⟩, trivial⟩, ⟨rfl, rfl, rows_same⟩, ⟨rfl, rfl, rows_same⟩, ⟨rfl, rfl, rows_same⟩, trivial⟩, ⟨rfl, rfl⟩, ⟨rfl, rfl⟩, ⟨rfl, rfl⟩, rfl, ⟨rfl, rfl⟩, ⟨rfl, rfl⟩, trivial⟩
  · replace h := condT h
    conv => whnf
    obtain ⟨y378, e379, h⟩ := bind_ex h
    refine CallOk.of (laws_toOrdinal_ct e379) ?_
    conv => whnf
    exact CutK.piece (laws_FnExactCutWord_p9_ct  h) [some 128, some 192, some 384, some 512, some 576, some 1104000, some 1104001, some 2432] [] ⟨⟨rfl, rfl⟩, ⟨rfl, ⟨rfl, rfl, trivial⟩, ⟨rfl, rfl, trivial⟩, ⟨rfl, ⟨rfl, rfl⟩, trivial⟩, ⟨rfl, ⟨rfl, rfl⟩, trivial⟩, ⟨rfl, ⟨rfl, rfl⟩, trivial⟩, ⟨rfl, rfl, rows_same⟩, ⟨rfl, rfl, rows_same⟩, ⟨rfl, rfl, rows_same⟩, trivial⟩, ⟨rfl, rfl⟩, ⟨rfl, rfl⟩, ⟨rfl, rfl⟩, rfl, ⟨rfl, rfl⟩, ⟨rfl, rfl⟩, trivial⟩
def laws_FnExactCutWord_p7 (k : Nat) (a1 : Rw) (a2 : Rw) (o18 : Rw) (v19 : Bool) : Option Bool :=
  (cond v19 ((laws_toWord k a1).bind fun y382 => (laws_FnExactCutWord_p8 k a1 a2 o18 y382 true)) ((laws_toWord k a1).bind fun y380 => (laws_FnExactCutWord_p8 k a1 a2 o18 y380 false)))
set_option maxHeartbeats 4000000 in
set_option maxRecDepth 100000 in
theorem laws_FnExactCutWord_p7_ct {k : Nat} {a1 : Rw} {a2 : Rw} {o18 : Rw} {v19 : Bool} {r : Bool} (h : laws_FnExactCutWord_p7 k a1 a2 o18 v19 = some r) : X prog 0 (tlF f12 7) (mk 119 [(2, .ptr 128 0), (3, .ptr 192 0), (6, .ptr 384 0), (7, .d (D.bool v19))] [(128, .box 46 [.d (D.sl a1)]), (192, .box 49 [.d (D.sl a2)]), (384, .box 56 [.os 1099000 o18.length]), (1099000, .arr 111 true o18)]) (finK prog f12 0 (.d (D.bool r)) (⟨[], []⟩)) := by
  rw [laws_FnExactCutWord_p7] at h
  cases v19
  · replace h := condF h
    conv => whnf
    obtain ⟨y380, e381, h⟩ := bind_ex h
    refine CallOk.of (laws_toWord_ct e381) ?_
    conv => whnf
    exact CutK.piece (laws_FnExactCutWord_p8_ct  h) [some 128, some 192, some 384, some 512, some 1099000, some 2304] [] ⟨⟨rfl, rfl⟩, ⟨rfl, ⟨rfl, rfl, trivial⟩, ⟨rfl, rfl, trivial⟩, ⟨rfl, ⟨rfl, rfl⟩, trivial⟩, ⟨rfl, ⟨rfl, rfl⟩, trivial⟩, ⟨rfl, rfl, rows_same⟩, ⟨rfl, rfl, rows_same⟩, trivial⟩, ⟨rfl, rfl⟩, ⟨rfl, rfl⟩, ⟨rfl, rfl⟩, rfl, ⟨rfl, rfl⟩, trivial⟩
  · replace h := condT h
    conv => whnf
    obtain ⟨y382, e383, h⟩ := bind_ex h
    refine CallOk.of (laws_toWord_ct e383) ?_
    conv => whnf
    exact CutK.piece (laws_FnExactCutWord_p8_ct  h) [some 128, some 192, some 384, some 512, some 1099000, some 2304] [] ⟨⟨rfl, rfl⟩, ⟨rfl, ⟨rfl, rfl, trivial⟩, ⟨rfl, rfl, trivial⟩, ⟨rfl, ⟨rfl, rfl⟩, trivial⟩, ⟨rfl, ⟨rfl, rfl⟩, trivial⟩, ⟨rfl, rfl, rows_same⟩, ⟨rfl, rfl, rows_same⟩, trivial⟩, ⟨rfl, rfl⟩, ⟨rfl, rfl⟩, ⟨rfl, rfl⟩, rfl, ⟨rfl, rfl⟩, trivial⟩
def laws_FnExactCutWord_p5 (k : Nat) (a1 : Rw) (a2 : Rw) (o9 : Int) : Option Bool :=
  (if o9 < (0 : Int) then some true else ((laws_toWord k a1).bind fun y385 => ((laws_toOrdinal k a2).bind fun y387 => ((spec_CutWord k y385 y387).bind fun y389 => (if y389.2 = true then (laws_FnExactCutWord_p7 k a1 a2 y389.1 true) else (laws_FnExactCutWord_p7 k a1 a2 y389.1 false))))))
set_option maxHeartbeats 4000000 in
set_option maxRecDepth 100000 in
theorem laws_FnExactCutWord_p5_ct {k : Nat} {a1 : Rw} {a2 : Rw} {o9 : Int} {r : Bool} (h : laws_FnExactCutWord_p5 k a1 a2 o9 = some r) : X prog 0 (tlF f12 5) (mk 119 [(2, .ptr 128 0), (3, .ptr 192 0), (5, .d (D.int .i64 o9))] [(128, .box 46 [.d (D.sl a1)]), (192, .box 49 [.d (D.sl a2)])]) (finK prog f12 0 (.d (D.bool r)) (⟨[], []⟩)) := by
  rw [laws_FnExactCutWord_p5] at h
  conv => whnf
  refine splD (fun g384 => ?_) (fun g384 => ?_)
  · replace h := iteP h g384
    conv => whnf
    cases h
    exact Done.of [] [] rfl rfl ⟨⟨rfl, rfl⟩, ⟨rfl, trivial⟩, rfl, trivial⟩
  · replace h := iteN h g384
    conv => whnf
    obtain ⟨y385, e386, h⟩ := bind_ex h
    refine CallOk.of (laws_toWord_ct e386) ?_
    conv => whnf
    obtain ⟨y387, e388, h⟩ := bind_ex h
    refine CallOk.of (laws_toOrdinal_ct e388) ?_
    conv => whnf
    refine Take.all (rfl) ?_
    conv => whnf
    refine Take.all (rfl) ?_
    conv => whnf
    obtain ⟨y389, e390, h⟩ := bind_ex h
    refine CallOk.of (spec_CutWord_ct e390) ?_
    conv => whnf
    refine spl (fun g391 => ?_) (fun g391 => ?_)
    · replace h := iteT h g391
      conv => whnf
      exact CutK.piece (laws_FnExactCutWord_p7_ct  h) [some 128, some 192, some 384, some 2048] [] ⟨⟨rfl, rfl⟩, ⟨rfl, ⟨rfl, rfl, trivial⟩, ⟨rfl, rfl, trivial⟩, ⟨rfl, ⟨rfl, rfl⟩, trivial⟩, ⟨rfl, rfl, rows_same⟩, trivial⟩, ⟨rfl, rfl⟩, ⟨rfl, rfl⟩, ⟨rfl, rfl⟩, rfl, trivial⟩
    · replace h := iteF h g391
      conv => whnf
      exact CutK.piece (laws_FnExactCutWord_p7_ct  h) [some 128, some 192, some 384, some 2048] [] ⟨⟨rfl, rfl⟩, ⟨rfl, ⟨rfl, rfl, trivial⟩, ⟨rfl, rfl, trivial⟩, ⟨rfl, ⟨rfl, rfl⟩, trivial⟩, ⟨rfl, rfl, rows_same⟩, trivial⟩, ⟨rfl, rfl⟩, ⟨rfl, rfl⟩, ⟨rfl, rfl⟩, rfl, trivial⟩
def laws_FnExactCutWord_p3 (k : Nat) (a1 : Rw) (a2 : Rw) (o5 : Int) : Option Bool :=
  (if o5 < (0 : Int) then some true else ((laws_szOrdinal k a2 o5).bind fun y393 => (laws_FnExactCutWord_p5 k a1 a2 y393)))
set_option maxHeartbeats 4000000 in
set_option maxRecDepth 100000 in
theorem laws_FnExactCutWord_p3_ct {k : Nat} {a1 : Rw} {a2 : Rw} {o5 : Int} {r : Bool} (h : laws_FnExactCutWord_p3 k a1 a2 o5 = some r) : X prog 0 (tlF f12 3) (mk 119 [(2, .ptr 128 0), (3, .ptr 192 0), (5, .d (D.int .i64 o5))] [(128, .box 46 [.d (D.sl a1)]), (192, .box 49 [.d (D.sl a2)])]) (finK prog f12 0 (.d (D.bool r)) (⟨[], []⟩)) := by
  rw [laws_FnExactCutWord_p3] at h
  conv => whnf
  refine splD (fun g392 => ?_) (fun g392 => ?_)
  · replace h := iteP h g392
    conv => whnf
    cases h
    exact Done.of [] [] rfl rfl ⟨⟨rfl, rfl⟩, ⟨rfl, trivial⟩, rfl, trivial⟩
  · replace h := iteN h g392
    conv => whnf
    obtain ⟨y393, e394, h⟩ := bind_ex h
    refine CallOk.of (laws_szOrdinal_ct e394) ?_
    conv => whnf
    exact CutK.piece (laws_FnExactCutWord_p5_ct  h) [some 128, some 192] [] ⟨⟨rfl, rfl⟩, ⟨rfl, ⟨rfl, rfl, trivial⟩, ⟨rfl, rfl, trivial⟩, trivial⟩, ⟨rfl, rfl⟩, ⟨rfl, rfl⟩, rfl, trivial⟩
def laws_FnExactCutWord (k : Nat) (a1 : Rw) (a2 : Rw) : Option Bool :=
  ((laws_szWord k a1 1048576).bind fun y395 => (laws_FnExactCutWord_p3 k a1 a2 y395))
set_option maxHeartbeats 4000000 in
set_option maxRecDepth 100000 in
theorem laws_FnExactCutWord_ct {k : Nat} {a1 : Rw} {a2 : Rw} {r : Bool} (h : laws_FnExactCutWord k a1 a2 = some r) : Ct prog 12 [.agg [.d (D.sl a1)], .agg [.d (D.sl a2)]] (⟨[], []⟩) (.d (D.bool r)) (⟨[], []⟩) := by
  rw [laws_FnExactCutWord] at h
  refine Ct.of (c := _) mixed func12 ⟨rfl, rfl, rfl⟩ ?_ rfl
  conv => whnf
  obtain ⟨y395, e396, h⟩ := bind_ex h
  refine CallOk.of (laws_szWord_ct e396) ?_
  conv => whnf
  exact CutK.piece (laws_FnExactCutWord_p3_ct  h) [some 128, some 192] [] ⟨⟨rfl, rfl⟩, ⟨rfl, ⟨rfl, rfl, trivial⟩, ⟨rfl, rfl, trivial⟩, trivial⟩, ⟨rfl, rfl⟩, ⟨rfl, rfl⟩, rfl, trivial⟩

def slices_Clone_2  (a1 : Rw) : Option Rw :=
  (nilD 2 a1 (some ([] : Rw)) (if a1.length ≤ cap ∧ (∀ cs ∈ a1, cs.length = 2) then some ([] ++ a1 : Rw) else none))
set_option maxHeartbeats 4000000 in
set_option maxRecDepth 100000 in
theorem slices_Clone_2_ct  {a1 : Rw} {r : Rw} (h : slices_Clone_2 a1 = some r) : Ct prog 155 [.d (D.sl a1)] (⟨[], []⟩) (.os 8 r.length) (⟨[], [(111, false, r)]⟩) := by
  rw [slices_Clone_2] at h
  refine Ct.of (c := _) mixed func155 ⟨rfl, rfl, rfl⟩ ?_ rfl
  conv => whnf
  obtain ⟨h2, h3⟩ := nilD_ex h
  refine NilCmp.mk ⟨fun e4 => ?_, ?_⟩
  · replace h := h2 e4
    conv => whnf
    cases h
    exact Done.of [none] [] rfl rfl ⟨⟨rfl, rfl⟩, ⟨rfl, rfl, trivial⟩, ⟨rfl, rfl⟩, trivial⟩
  · replace h := h3
    conv => whnf
    refine Take.all (by first | rfl | exact List.length_append.symm | (simp; done) | omega) ?_
    conv => whnf
    obtain ⟨g5, h⟩ := req_ex h
    refine Req.of (room0 (b := 32) (by decide) g5.1 g5.2) ?_
    conv => whnf
    cases h
    exact Done.of [some 448] [] rfl rfl ⟨⟨rfl, rfl⟩, ⟨rfl, ⟨rfl, rfl, rows_same⟩, trivial⟩, ⟨(by first | rfl | exact List.length_append.symm | (simp; done) | omega), rfl⟩, trivial⟩

def impl_join_l0 (k : Nat) (a2 : Rw) (K0 : Rw → Option Rw) : Rw → Rw → Option Rw
  | [], v14 => (K0 v14)
  | cs :: rest, v14 => (cell_bs cs fun x38 x39 => (if x38 = true then ((impl_Word_put_2 k v14 true x39).bind fun y42 => (impl_join_l0 k a2 K0 rest y42)) else ((impl_Word_put_2 k v14 false x39).bind fun y44 => (impl_join_l0 k a2 K0 rest y44))))
set_option maxRecDepth 100000 in
theorem impl_join_l0_ct {k : Nat} {a2 : Rw} {K0 : Rw → Option Rw} {r : Rw} (hx : a2.length ≤ cap) : ∀ (rest : Rw) (v13n : Nat) (v14 : Rw), a2.drop v13n = rest → impl_join_l0 k a2 K0 rest v14 = some r → LoopOk prog 0 (lp f96 0) (mk 26 [(4, .ptr 256 0), (5, .ptr 320 0), (13, .d (D.sl a2)), (14, .d (D.int .i64 (a2.length : Int))), (15, .d (D.int .i64 (v13n : Int)))] [(256, .box 56 [.es]), (320, .box 56 [.os 64000 v14.length]), (64000, .arr 111 false v14)]) (LoopEnd prog f96 0 26 (.agg [.os 8 r.length]) (⟨[], [(111, false, r)]⟩) (fun i ts os => (i = 0 ∧ ∃ v27 : Rw, K0 v27 = some r ∧ ts = [(4, .ptr 256 0), (5, .ptr 320 0)] ∧ os = [(256, .box 56 [.es]), (320, .box 56 [.os 67001 v27.length]), (67001, .arr 111 false v27)])))
  | [], v13n, v14, hd, h => by
      rw [impl_join_l0] at h
      have hn := drop_nil hd
      refine LoopOk.step ?_
      conv => whnf
      refine splD (fun g => absurd g hn) (fun _ => ?_)
      conv => whnf
      exact ⟨_, _, [some 256, some 320, some 64000], [], ⟨rfl, _, h, rfl, rfl⟩, ⟨⟨rfl, rfl⟩, ⟨rfl, ⟨rfl, trivial, trivial⟩, ⟨rfl, ⟨rfl, rfl⟩, trivial⟩, ⟨rfl, rfl, rows_same⟩, trivial⟩, ⟨rfl, rfl⟩, ⟨rfl, rfl⟩, trivial⟩⟩
  | cs :: rest, v13n, v14, hd, h => by
      rw [impl_join_l0] at h
      obtain ⟨hrow, hd1, hlt⟩ := drop_cons hd
      refine LoopOk.step ?_
      conv => whnf
      refine splD (fun _ => ?_) (fun g => absurd hlt g)
      conv => whnf
      obtain ⟨x38, x39, e40, h⟩ := cell_bs_ex h
      rw [e40] at hrow
      refine Req.of (Int.natCast_nonneg _) ?_
      refine Row.of _ hrow ?_
      conv => whnf
      refine spl (fun g41 => ?_) (fun g41 => ?_)
      · replace h := iteT h g41
        conv => whnf
        refine splT ?_
        conv => whnf
        refine Req.of (Nat.le_refl _) ?_
        conv => whnf
        obtain ⟨y42, e43, h⟩ := bind_ex h
        refine CallOk.of (impl_Word_put_2_ct e43) ?_
        conv => whnf
        refine CutK.go ?_
        conv => whnf
        exact LoopOk.back (impl_join_l0_ct hx rest (v13n + 1) _ hd1 h) [some 256, some 320, some 1472] [] ⟨⟨rfl, rfl⟩, ⟨rfl, ⟨rfl, trivial, trivial⟩, ⟨rfl, ⟨rfl, rfl⟩, trivial⟩, ⟨rfl, rfl, rows_same⟩, trivial⟩, ⟨rfl, rfl⟩, ⟨rfl, rfl⟩, rfl, rfl, i64eq (wrap_up hlt hx), trivial⟩
      · replace h := iteF h g41
        conv => whnf
        refine splF ?_
        conv => whnf
        refine Req.of (Nat.le_refl _) ?_
        conv => whnf
        obtain ⟨y44, e45, h⟩ := bind_ex h
        refine CallOk.of (impl_Word_put_2_ct e45) ?_
        conv => whnf
        refine CutK.go ?_
        conv => whnf
        exact LoopOk.back (impl_join_l0_ct hx rest (v13n + 1) _ hd1 h) [some 256, some 320, some 1472] [] ⟨⟨rfl, rfl⟩, ⟨rfl, ⟨rfl, trivial, trivial⟩, ⟨rfl, ⟨rfl, rfl⟩, trivial⟩, ⟨rfl, rfl, rows_same⟩, trivial⟩, ⟨rfl, rfl⟩, ⟨rfl, rfl⟩, rfl, rfl, i64eq (wrap_up hlt hx), trivial⟩
def impl_join (k : Nat) (a1 : Rw) (a2 : Rw) : Option Rw :=
  ((slices_Clone_2 a1).bind fun y3 => (if a2.length ≤ cap then (impl_join_l0 k a2 (fun (v27 : Rw) => some v27) a2 y3) else none))
set_option maxHeartbeats 4000000 in
set_option maxRecDepth 100000 in
theorem impl_join_ct {k : Nat} {a1 : Rw} {a2 : Rw} {r : Rw} (h : impl_join k a1 a2 = some r) : Ct prog 96 [.agg [.d (D.sl a1)], .agg [.d (D.sl a2)]] (⟨[], []⟩) (.agg [.os 8 r.length]) (⟨[], [(111, false, r)]⟩) := by
  rw [impl_join] at h
  refine Ct.of (c := _) mixed func96 ⟨rfl, rfl, rfl⟩ ?_ rfl
  conv => whnf
  obtain ⟨y3, e4, h⟩ := bind_ex h
  refine CallOk.of (slices_Clone_2_ct e4) ?_
  conv => whnf
  refine CutK.go ?_
  conv => whnf
  obtain ⟨g46, h⟩ := req_ex h
  refine LoopOk.into (impl_join_l0_ct  g46 _ _ _ rfl h) [some 256, some 320, some 640] [] ⟨⟨rfl, rfl⟩, ⟨rfl, ⟨rfl, trivial, trivial⟩, ⟨rfl, ⟨rfl, rfl⟩, trivial⟩, ⟨rfl, rfl, rows_same⟩, trivial⟩, ⟨rfl, rfl⟩, ⟨rfl, rfl⟩, rfl, rfl, rfl, trivial⟩ ?_ (fun _ hs => hs)
  rintro i ts os ⟨rfl, v27, h, rfl, rfl⟩
  conv => whnf
  refine CutK.go ?_
  conv => whnf
  cases h
  exact Done.of [some 67001] [] rfl rfl ⟨⟨rfl, rfl⟩, ⟨rfl, ⟨rfl, rfl, rows_same⟩, trivial⟩, ⟨⟨rfl, rfl⟩, trivial⟩, trivial⟩

def impl_JoinWords (k : Nat) (a1 : Rw) (a2 : Rw) : Option (Rw × Bool) :=
  ((impl_IsWord k a1).bind fun y3 => (if y3 = true then ((impl_IsWord k a2).bind fun y6 => (if y6 = true then ((impl_join k a1 a2).bind fun y9 => ((impl_toldWord k y9).bind fun y11 => (if y11.2 = true then some (y11.1, true) else some (y11.1, false)))) else some (([] : Rw), false))) else some (([] : Rw), false)))
set_option maxHeartbeats 4000000 in
set_option maxRecDepth 100000 in
theorem impl_JoinWords_ct {k : Nat} {a1 : Rw} {a2 : Rw} {r : Rw × Bool} (h : impl_JoinWords k a1 a2 = some r) : Ct prog 37 [.agg [.d (D.sl a1)], .agg [.d (D.sl a2)]] (⟨[], []⟩) (.tup [.agg [.os 8 r.1.length], .d (D.bool r.2)]) (⟨[], [(111, true, r.1)]⟩) := by
  rw [impl_JoinWords] at h
  refine Ct.of (c := _) mixed func37 ⟨rfl, rfl, rfl⟩ ?_ rfl
  conv => whnf
  obtain ⟨y3, e4, h⟩ := bind_ex h
  refine CallOk.of (impl_IsWord_ct e4) ?_
  conv => whnf
  refine spl (fun g5 => ?_) (fun g5 => ?_)
  · replace h := iteT h g5
    conv => whnf
    obtain ⟨y6, e7, h⟩ := bind_ex h
    refine CallOk.of (impl_IsWord_ct e7) ?_
    conv => whnf
    refine spl (fun g8 => ?_) (fun g8 => ?_)
    · replace h := iteT h g8
      conv => whnf
      refine CutK.go ?_
      conv => whnf
      refine CutK.go ?_
      conv => whnf
      obtain ⟨y9, e10, h⟩ := bind_ex h
      refine CallOk.of (impl_join_ct e10) ?_
      conv => whnf
      refine Take.all (rfl) ?_
      conv => whnf
      obtain ⟨y11, e12, h⟩ := bind_ex h
      refine CallOk.of (impl_toldWord_ct e12) ?_
      conv => whnf
      refine spl (fun g13 => ?_) (fun g13 => ?_)
      · replace h := iteT h g13
        conv => whnf
        refine CutK.go ?_
        conv => whnf
        cases h
        exact Done.of [some 1152] [] rfl rfl ⟨⟨rfl, rfl⟩, ⟨rfl, ⟨rfl, rfl, rows_same⟩, trivial⟩, ⟨⟨⟨rfl, rfl⟩, trivial⟩, rfl, trivial⟩, trivial⟩
      · replace h := iteF h g13
        conv => whnf
        refine CutK.go ?_
        conv => whnf
        cases h
        exact Done.of [some 1152] [] rfl rfl ⟨⟨rfl, rfl⟩, ⟨rfl, ⟨rfl, rfl, rows_same⟩, trivial⟩, ⟨⟨⟨rfl, rfl⟩, trivial⟩, rfl, trivial⟩, trivial⟩
    · replace h := iteF h g8
      conv => whnf
      refine CutK.go ?_
      conv => whnf
      cases h
      exact Done.of [none] [] rfl rfl ⟨⟨rfl, rfl⟩, ⟨rfl, rfl, trivial⟩, ⟨⟨⟨rfl, rfl⟩, trivial⟩, rfl, trivial⟩, trivial⟩
  · replace h := iteF h g5
    conv => whnf
    refine CutK.go ?_
    conv => whnf
    cases h
    exact Done.of [none] [] rfl rfl ⟨⟨rfl, rfl⟩, ⟨rfl, rfl, trivial⟩, ⟨⟨⟨rfl, rfl⟩, trivial⟩, rfl, trivial⟩, trivial⟩

def spec_JoinWords (k : Nat) (a1 : Rw) (a2 : Rw) : Option (Rw × Bool) :=
  ((spec_woGood k a1).bind fun y3 => (if y3 = true then ((spec_woGood k a2).bind fun y6 => (if y6 = true then ((spec_woJoin k a1 a2).bind fun y9 => ((spec_woIf k y9).bind fun y11 => (if y11.2 = true then some (y11.1, true) else some (y11.1, false)))) else some (([] : Rw), false))) else some (([] : Rw), false)))
set_option maxHeartbeats 4000000 in
set_option maxRecDepth 100000 in
theorem spec_JoinWords_ct {k : Nat} {a1 : Rw} {a2 : Rw} {r : Rw × Bool} (h : spec_JoinWords k a1 a2 = some r) : Ct prog 36 [.agg [.d (D.sl a1)], .agg [.d (D.sl a2)]] (⟨[], []⟩) (.tup [.agg [.os 8 r.1.length], .d (D.bool r.2)]) (⟨[], [(111, true, r.1)]⟩) := by
  rw [spec_JoinWords] at h
  refine Ct.of (c := _) mixed func36 ⟨rfl, rfl, rfl⟩ ?_ rfl
  conv => whnf
  obtain ⟨y3, e4, h⟩ := bind_ex h
  refine CallOk.of (spec_woGood_ct e4) ?_
  conv => whnf
  refine spl (fun g5 => ?_) (fun g5 => ?_)
  · replace h := iteT h g5
    conv => whnf
    obtain ⟨y6, e7, h⟩ := bind_ex h
    refine CallOk.of (spec_woGood_ct e7) ?_
    conv => whnf
    refine spl (fun g8 => ?_) (fun g8 => ?_)
    · replace h := iteT h g8
      conv => whnf
      refine CutK.go ?_
      conv => whnf
      refine CutK.go ?_
      conv => whnf
      obtain ⟨y9, e10, h⟩ := bind_ex h
      refine CallOk.of (spec_woJoin_ct e10) ?_
      conv => whnf
      obtain ⟨y11, e12, h⟩ := bind_ex h
      refine CallOk.of (spec_woIf_ct e12) ?_
      conv => whnf
      refine spl (fun g13 => ?_) (fun g13 => ?_)
      · replace h := iteT h g13
        conv => whnf
        refine CutK.go ?_
        conv => whnf
        cases h
        exact Done.of [some 1152] [] rfl rfl ⟨⟨rfl, rfl⟩, ⟨rfl, ⟨rfl, rfl, rows_same⟩, trivial⟩, ⟨⟨⟨rfl, rfl⟩, trivial⟩, rfl, trivial⟩, trivial⟩
      · replace h := iteF h g13
        conv => whnf
        refine CutK.go ?_
        conv => whnf
        cases h
        exact Done.of [some 1152] [] rfl rfl ⟨⟨rfl, rfl⟩, ⟨rfl, ⟨rfl, rfl, rows_same⟩, trivial⟩, ⟨⟨⟨rfl, rfl⟩, trivial⟩, rfl, trivial⟩, trivial⟩
    · replace h := iteF h g8
      conv => whnf
      refine CutK.go ?_
      conv => whnf
      cases h
      exact Done.of [none] [] rfl rfl ⟨⟨rfl, rfl⟩, ⟨rfl, rfl, trivial⟩, ⟨⟨⟨rfl, rfl⟩, trivial⟩, rfl, trivial⟩, trivial⟩
  · replace h := iteF h g5
    conv => whnf
    refine CutK.go ?_
    conv => whnf
    cases h
    exact Done.of [none] [] rfl rfl ⟨⟨rfl, rfl⟩, ⟨rfl, rfl, trivial⟩, ⟨⟨⟨rfl, rfl⟩, trivial⟩, rfl, trivial⟩, trivial⟩
end
end Go.Proofs.Try
