/- Printed by program (axgen): pure functions, and that the Go functions compute them. -/
import Derived.Test.YtlhdcdnbiodphaaPW0
set_option linter.unusedVariables false
set_option linter.unusedSimpArgs false
namespace Go.Proofs.Try
open Go Go.AX
noncomputable section
def spec_odPower_p11 (o79 : Rw) : Option (Rw × Bool) :=
  some (o79, true)
set_option maxHeartbeats 4000000 in
set_option maxRecDepth 100000 in
theorem spec_odPower_p11_ct {o79 : Rw} {r : Rw × Bool} (h : spec_odPower_p11 o79 = some r) : X prog 0 (tlF f83 11) (mk 78 [(4, .ptr 256 0), (5, .d (D.bool true))] [(256, .box 26 [.os 1119000 o79.length]), (1119000, .arr 104 false o79)]) (finK prog f83 0 (.tup [.agg [.d (D.sl r.1)], .d (D.bool r.2)]) (⟨[], []⟩)) := by
  rw [spec_odPower_p11] at h
  conv => whnf
  cases h
  exact Done.of [] [1119000] rfl rfl ⟨⟨rfl, rfl⟩, ⟨rfl, trivial⟩, ⟨⟨⟨rfl, Nat.le_of_eq rfl, eq_take rfl⟩, trivial⟩, rfl, trivial⟩, trivial⟩
def spec_odPower_p10 (k : Nat) (o67 : Rw) (o68 : Rw) : Option (Rw × Bool) :=
  ((spec_odTerm o68 1).bind fun y80 => ((spec_odTimes k y80 o67).bind fun y82 => (spec_odPower_p11 y82)))
set_option maxHeartbeats 4000000 in
set_option maxRecDepth 100000 in
theorem spec_odPower_p10_ct {k : Nat} {o67 : Rw} {o68 : Rw} {r : Rw × Bool} (h : spec_odPower_p10 k o67 o68 = some r) : X prog 0 (tlF f83 10) (mk 78 [(4, .ptr 256 0), (10, .ptr 640 0), (12, .ptr 768 0)] [(256, .box 26 [.es]), (640, .box 26 [.os 1114000 o67.length]), (768, .box 26 [.os 1114001 o68.length]), (1114000, .arr 104 false o67), (1114001, .arr 104 false o68)]) (finK prog f83 0 (.tup [.agg [.d (D.sl r.1)], .d (D.bool r.2)]) (⟨[], []⟩)) := by
  rw [spec_odPower_p10] at h
  conv => whnf
  refine Take.all (rfl) ?_
  conv => whnf
  obtain ⟨y80, e81, h⟩ := bind_ex h
  refine CallOk.of (spec_odTerm_ct e81) ?_
  conv => whnf
  refine Take.all (rfl) ?_
  conv => whnf
  refine Take.all (rfl) ?_
  conv => whnf
  obtain ⟨y82, e83, h⟩ := bind_ex h
  refine CallOk.of (spec_odTimes_ct e83) ?_
  conv => whnf
  exact CutK.piece (spec_odPower_p11_ct  h) [some 256, some 4928] [] ⟨⟨rfl, rfl⟩, ⟨rfl, ⟨rfl, ⟨rfl, rfl⟩, trivial⟩, ⟨rfl, rfl, rows_same⟩, trivial⟩, ⟨rfl, rfl⟩, rfl, trivial⟩
def spec_odPower_p9 (k : Nat) (a1 : Rw) (o59 : Rw) (o60 : Rw) (o61 : Rw) (v66 : Bool) : Option (Rw × Bool) :=
  (cond v66 (row_si a1 0 fun x84 x85 => ((spec_odTimes k x84 o59).bind fun y88 => (spec_odPower_p10 k o60 y88))) (spec_odPower_p10 k o60 o61))
set_option maxHeartbeats 4000000 in
set_option maxRecDepth 100000 in
theorem spec_odPower_p9_ct {k : Nat} {a1 : Rw} {o59 : Rw} {o60 : Rw} {o61 : Rw} {v66 : Bool} {r : Rw × Bool} (h : spec_odPower_p9 k a1 o59 o60 o61 v66 = some r) : X prog 0 (tlF f83 9) (mk 78 [(2, .ptr 128 0), (4, .ptr 256 0), (7, .ptr 448 0), (9, .d (D.bool v66)), (10, .ptr 640 0), (12, .ptr 768 0)] [(128, .box 26 [.d (D.sl a1)]), (256, .box 26 [.es]), (448, .box 26 [.d (D.sl o59)]), (640, .box 26 [.os 1109000 o60.length]), (768, .box 26 [.os 1109001 o61.length]), (1109000, .arr 104 false o60), (1109001, .arr 104 false o61)]) (finK prog f83 0 (.tup [.agg [.d (D.sl r.1)], .d (D.bool r.2)]) (⟨[], []⟩)) := by
  rw [spec_odPower_p9] at h
  cases v66
  · replace h := condF h
    conv => whnf
    exact CutK.piece (spec_odPower_p10_ct  h) [some 256, some 640, some 768, some 1109000, some 1109001] [] ⟨⟨rfl, rfl⟩, ⟨rfl, ⟨rfl, trivial, trivial⟩, ⟨rfl, ⟨rfl, rfl⟩, trivial⟩, ⟨rfl, ⟨rfl, rfl⟩, trivial⟩, ⟨rfl, rfl, rows_same⟩, ⟨rfl, rfl, rows_same⟩, trivial⟩, ⟨rfl, rfl⟩, ⟨rfl, rfl⟩, ⟨rfl, rfl⟩, trivial⟩
  · replace h := condT h
    conv => whnf
    obtain ⟨g87, x84, x85, e86, h⟩ := row_si_ex h
    refine Req.of g87 ?_
    refine Row.of _ e86 ?_
    conv => whnf
    obtain ⟨y88, e89, h⟩ := bind_ex h
    refine CallOk.of (spec_odTimes_ct e89) ?_
    conv => whnf
    exact CutK.piece (spec_odPower_p10_ct  h) [some 256, some 640, some 768, some 1109000, some 4672] [] ⟨⟨rfl, rfl⟩, ⟨rfl, ⟨rfl, trivial, trivial⟩, ⟨rfl, ⟨rfl, rfl⟩, trivial⟩, ⟨rfl, ⟨rfl, rfl⟩, trivial⟩, ⟨rfl, rfl, rows_same⟩, ⟨rfl, rfl, rows_same⟩, trivial⟩, ⟨rfl, rfl⟩, ⟨rfl, rfl⟩, ⟨rfl, rfl⟩, trivial⟩
def spec_odPower_p8 (k : Nat) (a1 : Rw) (o48 : Rw) (o49 : Rw) (o50 : Rw) (v54 : Bool) : Option (Rw × Bool) :=
  (cond v54 ((spec_odTerm o49 1).bind fun y94 => ((spec_odOver k o48 y94).bind fun y96 => (spec_odPower_p9 k a1 o48 o50 y96.1 true))) ((spec_odTerm o49 1).bind fun y90 => ((spec_odOver k o48 y90).bind fun y92 => (spec_odPower_p9 k a1 o48 o50 y92.1 false))))
set_option maxHeartbeats 4000000 in
set_option maxRecDepth 100000 in
theorem spec_odPower_p8_ct {k : Nat} {a1 : Rw} {o48 : Rw} {o49 : Rw} {o50 : Rw} {v54 : Bool} {r : Rw × Bool} (h : spec_odPower_p8 k a1 o48 o49 o50 v54 = some r) : X prog 0 (tlF f83 8) (mk 78 [(2, .ptr 128 0), (4, .ptr 256 0), (7, .ptr 448 0), (8, .ptr 512 0), (9, .d (D.bool v54)), (10, .ptr 640 0)] [(128, .box 26 [.d (D.sl a1)]), (256, .box 26 [.es]), (448, .box 26 [.d (D.sl o48)]), (512, .box 26 [.d (D.sl o49)]), (640, .box 26 [.os 1104000 o50.length]), (1104000, .arr 104 false o50)]) (finK prog f83 0 (.tup [.agg [.d (D.sl r.1)], .d (D.bool r.2)]) (⟨[], []⟩)) := by
  rw [spec_odPower_p8] at h
  cases v54
  · replace h := condF h
    conv => whnf
    obtain ⟨y90, e91, h⟩ := bind_ex h
    refine CallOk.of (spec_odTerm_ct e91) ?_
    conv => whnf
    refine Take.all (rfl) ?_
    conv => whnf
    obtain ⟨y92, e93, h⟩ := bind_ex h
    refine CallOk.of (spec_odOver_ct e93) ?_
    conv => whnf
    exact CutK.piece (spec_odPower_p9_ct  h) [some 128, some 256, some 448, some 640, some 768, some 1104000, some 4032] [] ⟨⟨rfl, rfl⟩, ⟨rfl, ⟨rfl, rfl, trivial⟩, ⟨rfl, trivial, trivial⟩, ⟨rfl, rfl, trivial⟩, ⟨rfl, ⟨rfl, rfl⟩, trivial⟩, ⟨rfl, ⟨rfl, rfl⟩, trivial⟩, ⟨rfl, rfl, rows_same⟩, ⟨rfl, rfl, rows_same⟩, trivial⟩, ⟨rfl, rfl⟩, ⟨rfl, rfl⟩, ⟨rfl, rfl⟩, rfl, ⟨rfl, rfl⟩, ⟨rfl, rfl⟩, trivial⟩
  · replace h := condT h
    conv => whnf
    obtain ⟨y94, e95, h⟩ := bind_ex h
    refine CallOk.of (spec_odTerm_ct e95) ?_
    conv => whnf
    refine Take.all (rfl) ?_
    conv => whnf
    obtain ⟨y96, e97, h⟩ := bind_ex h
    refine CallOk.of (spec_odOver_ct e97) ?_
    conv => whnf
    exact CutK.piece (spec_odPower_p9_ct  h) [some 128, some 256, some 448, some 640, some 768, some 1104000, some 4032] [] ⟨⟨rfl, rfl⟩, ⟨rfl, ⟨rfl, rfl, trivial⟩, ⟨rfl, trivial, trivial⟩, ⟨rfl, rfl, trivial⟩, ⟨rfl, ⟨rfl, rfl⟩, trivial⟩, ⟨rfl, ⟨rfl, rfl⟩, trivial⟩, ⟨rfl, rfl, rows_same⟩, ⟨rfl, rfl, rows_same⟩, trivial⟩, ⟨rfl, rfl⟩, ⟨rfl, rfl⟩, ⟨rfl, rfl⟩, rfl, ⟨rfl, rfl⟩, ⟨rfl, rfl⟩, trivial⟩
def spec_odPower_p7 (k : Nat) (a1 : Rw) (o36 : Rw) (o37 : Rw) (o38 : Rw) (v39 : Bool) (v44 : Bool) : Option (Rw × Bool) :=
  (cond v39 (cond v44 ((spec_odZero o36).bind fun y101 => (if y101 = true then some (o38, true) else (spec_odPower_p8 k a1 o36 o37 o38 true))) ((spec_odZero o36).bind fun y98 => (if y98 = true then some (o38, true) else (spec_odPower_p8 k a1 o36 o37 o38 false)))) (cond v44 (some (o38, false)) (some (o38, false))))
set_option maxHeartbeats 4000000 in
set_option maxRecDepth 100000 in
theorem spec_odPower_p7_ct {k : Nat} {a1 : Rw} {o36 : Rw} {o37 : Rw} {o38 : Rw} {v39 : Bool} {v44 : Bool} {r : Rw × Bool} (h : spec_odPower_p7 k a1 o36 o37 o38 v39 v44 = some r) : X prog 0 (tlF f83 7) (mk 78 [(2, .ptr 128 0), (4, .ptr 256 0), (7, .ptr 448 0), (8, .ptr 512 0), (9, .d (D.bool v44)), (10, .ptr 640 0), (11, .d (D.bool v39))] [(128, .box 26 [.d (D.sl a1)]), (256, .box 26 [.es]), (448, .box 26 [.d (D.sl o36)]), (512, .box 26 [.d (D.sl o37)]), (640, .box 26 [.os 1099000 o38.length]), (1099000, .arr 104 false o38)]) (finK prog f83 0 (.tup [.agg [.d (D.sl r.1)], .d (D.bool r.2)]) (⟨[], []⟩)) := by
  rw [spec_odPower_p7] at h
  cases v39
  · replace h := condF h
    cases v44
    · replace h := condF h
      conv => whnf
      refine CutK.norm [2, 4, 7, 8, 9, 10, 11, 56] [128, 256, 448, 512, 640, 1099000] ?_
      conv => whnf
      cases h
      exact Done.of [] [1099000] rfl rfl ⟨⟨rfl, rfl⟩, ⟨rfl, trivial⟩, ⟨⟨⟨rfl, Nat.le_of_eq rfl, eq_take rfl⟩, trivial⟩, rfl, trivial⟩, trivial⟩
    · replace h := condT h
      conv => whnf
      refine CutK.norm [2, 4, 7, 8, 9, 10, 11, 56] [128, 256, 448, 512, 640, 1099000] ?_
      conv => whnf
      cases h
      exact Done.of [] [1099000] rfl rfl ⟨⟨rfl, rfl⟩, ⟨rfl, trivial⟩, ⟨⟨⟨rfl, Nat.le_of_eq rfl, eq_take rfl⟩, trivial⟩, rfl, trivial⟩, trivial⟩
  · replace h := condT h
    cases v44
    · replace h := condF h
      conv => whnf
      obtain ⟨y98, e99, h⟩ := bind_ex h
      refine CallOk.of (spec_odZero_ct e99) ?_
      conv => whnf
      refine spl (fun g100 => ?_) (fun g100 => ?_)
      · replace h := iteT h g100
        conv => whnf
        refine CutK.norm [2, 4, 7, 8, 9, 10, 11, 56] [128, 256, 448, 512, 640, 1099000] ?_
        conv => whnf
        cases h
        exact Done.of [] [1099000] rfl rfl ⟨⟨rfl, rfl⟩, ⟨rfl, trivial⟩, ⟨⟨⟨rfl, Nat.le_of_eq rfl, eq_take rfl⟩, trivial⟩, rfl, trivial⟩, trivial⟩
      · replace h := iteF h g100
        conv => whnf
        refine CutK.norm [2, 4, 7, 8, 9, 10, 11, 56] [128, 256, 448, 512, 640, 1099000] ?_
        conv => whnf
        exact CutK.piece (spec_odPower_p8_ct  h) [some 128, some 256, some 448, some 512, some 640, some 1099000] [] ⟨⟨rfl, rfl⟩, ⟨rfl, ⟨rfl, rfl, trivial⟩, ⟨rfl, trivial, trivial⟩, ⟨rfl, rfl, trivial⟩, ⟨rfl, rfl, trivial⟩, ⟨rfl, ⟨rfl, rfl⟩, trivial⟩, ⟨rfl, rfl, rows_same⟩, trivial⟩, ⟨rfl, rfl⟩, ⟨rfl, rfl⟩, ⟨rfl, rfl⟩, ⟨rfl, rfl⟩, rfl, ⟨rfl, rfl⟩, trivial⟩
    · replace h := condT h
      conv => whnf
      obtain ⟨y101, e102, h⟩ := bind_ex h
      refine CallOk.of (spec_odZero_ct e102) ?_
      conv => whnf
      refine spl (fun g103 => ?_) (fun g103 => ?_)
      · replace h := iteT h g103
        conv => whnf
        refine CutK.norm [2, 4, 7, 8, 9, 10, 11, 56] [128, 256, 448, 512, 640, 1099000] ?_
        conv => whnf
        cases h
        exact Done.of [] [1099000] rfl rfl ⟨⟨rfl, rfl⟩, ⟨rfl, trivial⟩, ⟨⟨⟨rfl, Nat.le_of_eq rfl, eq_take rfl⟩, trivial⟩, rfl, trivial⟩, trivial⟩
      · replace h := iteF h g103
        conv => whnf
        refine CutK.norm [2, 4, 7, 8, 9, 10, 11, 56] [128, 256, 448, 512, 640, 1099000] ?_
        conv => whnf
        exact CutK.piece (spec_odPower_p8_ct  h) [some 128, some 256, some 448, some 512, some 640, some 1099000] [] ⟨⟨rfl, rfl⟩, ⟨rfl, ⟨rfl, rfl, trivial⟩, ⟨rfl, trivial, trivial⟩, ⟨rfl, rfl, trivial⟩, ⟨rfl, rfl, trivial⟩, ⟨rfl, ⟨rfl, rfl⟩, trivial⟩, ⟨rfl, rfl, rows_same⟩, trivial⟩, ⟨rfl, rfl⟩, ⟨rfl, rfl⟩, ⟨rfl, rfl⟩, ⟨rfl, rfl⟩, rfl, ⟨rfl, rfl⟩, trivial⟩
def spec_odPower_p5 (k : Nat) (a1 : Rw) (o29 : Int) (o30 : Rw) (o31 : Rw) (v32 : Bool) : Option (Rw × Bool) :=
  (cond v32 (if (40 : Int) < o29 then some (([] : Rw), false) else ((spec_odRepeat k a1 o29).bind fun y108 => (if y108.2 = true then (spec_odPower_p7 k a1 o30 o31 y108.1 true true) else (spec_odPower_p7 k a1 o30 o31 y108.1 false true)))) ((spec_odRepeat k a1 o29).bind fun y104 => (if y104.2 = true then (spec_odPower_p7 k a1 o30 o31 y104.1 true false) else (spec_odPower_p7 k a1 o30 o31 y104.1 false false))))
set_option maxHeartbeats 4000000 in
set_option maxRecDepth 100000 in
theorem spec_odPower_p5_ct {k : Nat} {a1 : Rw} {o29 : Int} {o30 : Rw} {o31 : Rw} {v32 : Bool} {r : Rw × Bool} (h : spec_odPower_p5 k a1 o29 o30 o31 v32 = some r) : X prog 0 (tlF f83 5) (mk 78 [(2, .ptr 128 0), (4, .ptr 256 0), (6, .d (D.int .i64 o29)), (7, .ptr 448 0), (8, .ptr 512 0), (9, .d (D.bool v32))] [(128, .box 26 [.d (D.sl a1)]), (256, .box 26 [.es]), (448, .box 26 [.d (D.sl o30)]), (512, .box 26 [.d (D.sl o31)])]) (finK prog f83 0 (.tup [.agg [.d (D.sl r.1)], .d (D.bool r.2)]) (⟨[], []⟩)) := by
  rw [spec_odPower_p5] at h
  cases v32
  · replace h := condF h
    conv => whnf
    obtain ⟨y104, e105, h⟩ := bind_ex h
    refine CallOk.of (spec_odRepeat_ct e105) ?_
    conv => whnf
    refine spl (fun g106 => ?_) (fun g106 => ?_)
    · replace h := iteT h g106
      conv => whnf
      exact CutK.piece (spec_odPower_p7_ct  h) [some 128, some 256, some 448, some 512, some 640, some 3072] [] ⟨⟨rfl, rfl⟩, ⟨rfl, ⟨rfl, rfl, trivial⟩, ⟨rfl, trivial, trivial⟩, ⟨rfl, rfl, trivial⟩, ⟨rfl, rfl, trivial⟩, ⟨rfl, ⟨rfl, rfl⟩, trivial⟩, ⟨rfl, rfl, rows_same⟩, trivial⟩, ⟨rfl, rfl⟩, ⟨rfl, rfl⟩, ⟨rfl, rfl⟩, ⟨rfl, rfl⟩, rfl, ⟨rfl, rfl⟩, rfl, trivial⟩
    · replace h := iteF h g106
      conv => whnf
      exact CutK.piece (spec_odPower_p7_ct  h) [some 128, some 256, some 448, some 512, some 640, some 3072] [] ⟨⟨rfl, rfl⟩, ⟨rfl, ⟨rfl, rfl, trivial⟩, ⟨rfl, trivial, trivial⟩, ⟨rfl, rfl, trivial⟩, ⟨rfl, rfl, trivial⟩, ⟨rfl, ⟨rfl, rfl⟩, trivial⟩, ⟨rfl, rfl, rows_same⟩, trivial⟩, ⟨rfl, rfl⟩, ⟨rfl, rfl⟩, ⟨rfl, rfl⟩, ⟨rfl, rfl⟩, rfl, ⟨rfl, rfl⟩, rfl, trivial⟩
  · replace h := condT h
    conv => whnf
    refine splD (fun g107 => ?_) (fun g107 => ?_)
    · replace h := iteP h g107
      conv => whnf
      cases h
      exact Done.of [] [] rfl rfl ⟨⟨rfl, rfl⟩, ⟨rfl, trivial⟩, ⟨⟨rfl, trivial⟩, rfl, trivial⟩, trivial⟩
    · replace h := iteN h g107
      conv => whnf
      obtain ⟨y108, e109, h⟩ := bind_ex h
      refine CallOk.of (spec_odRepeat_ct e109) ?_
      conv => whnf
      refine spl (fun g110 => ?_) (fun g110 => ?_)
      · replace h := iteT h g110
        conv => whnf
        exact CutK.piece (spec_odPower_p7_ct  h) [some 128, some 256, some 448, some 512, some 640, some 3072] [] ⟨⟨rfl, rfl⟩, ⟨rfl, ⟨rfl, rfl, trivial⟩, ⟨rfl, trivial, trivial⟩, ⟨rfl, rfl, trivial⟩, ⟨rfl, rfl, trivial⟩, ⟨rfl, ⟨rfl, rfl⟩, trivial⟩, ⟨rfl, rfl, rows_same⟩, trivial⟩, ⟨rfl, rfl⟩, ⟨rfl, rfl⟩, ⟨rfl, rfl⟩, ⟨rfl, rfl⟩, rfl, ⟨rfl, rfl⟩, rfl, trivial⟩
      · replace h := iteF h g110
        conv => whnf
        exact CutK.piece (spec_odPower_p7_ct  h) [some 128, some 256, some 448, some 512, some 640, some 3072] [] ⟨⟨rfl, rfl⟩, ⟨rfl, ⟨rfl, rfl, trivial⟩, ⟨rfl, trivial, trivial⟩, ⟨rfl, rfl, trivial⟩, ⟨rfl, rfl, trivial⟩, ⟨rfl, ⟨rfl, rfl⟩, trivial⟩, ⟨rfl, rfl, rows_same⟩, trivial⟩, ⟨rfl, rfl⟩, ⟨rfl, rfl⟩, ⟨rfl, rfl⟩, ⟨rfl, rfl⟩, rfl, ⟨rfl, rfl⟩, rfl, trivial⟩
def spec_odPower_p4 (k : Nat) (a1 : Rw) (o21 : Int) (o22 : Rw) (o23 : Rw) : Option (Rw × Bool) :=
  ((spec_odTerm o23 1).bind fun y111 => ((spec_odCmp k a1 y111).bind fun y113 => (if (0 : Int) ≤ y113 then (spec_odPower_p5 k a1 o21 o22 o23 true) else (spec_odPower_p5 k a1 o21 o22 o23 false))))
set_option maxHeartbeats 4000000 in
set_option maxRecDepth 100000 in
theorem spec_odPower_p4_ct {k : Nat} {a1 : Rw} {o21 : Int} {o22 : Rw} {o23 : Rw} {r : Rw × Bool} (h : spec_odPower_p4 k a1 o21 o22 o23 = some r) : X prog 0 (tlF f83 4) (mk 78 [(2, .ptr 128 0), (4, .ptr 256 0), (6, .d (D.int .i64 o21)), (7, .ptr 448 0), (8, .ptr 512 0)] [(128, .box 26 [.d (D.sl a1)]), (256, .box 26 [.es]), (448, .box 26 [.d (D.sl o22)]), (512, .box 26 [.os 1084000 o23.length]), (1084000, .arr 104 false o23)]) (finK prog f83 0 (.tup [.agg [.d (D.sl r.1)], .d (D.bool r.2)]) (⟨[], []⟩)) := by
  rw [spec_odPower_p4] at h
  conv => whnf
  refine Take.all (rfl) ?_
  conv => whnf
  obtain ⟨y111, e112, h⟩ := bind_ex h
  refine CallOk.of (spec_odTerm_ct e112) ?_
  conv => whnf
  refine Take.all (rfl) ?_
  conv => whnf
  obtain ⟨y113, e114, h⟩ := bind_ex h
  refine CallOk.of (spec_odCmp_ct e114) ?_
  conv => whnf
  refine splD (fun g115 => ?_) (fun g115 => ?_)
  · replace h := iteP h g115
    conv => whnf
    exact CutK.piece (spec_odPower_p5_ct  h) [some 128, some 256, some 448, some 512] [] ⟨⟨rfl, rfl⟩, ⟨rfl, ⟨rfl, rfl, trivial⟩, ⟨rfl, trivial, trivial⟩, ⟨rfl, rfl, trivial⟩, ⟨rfl, ⟨Nat.le_of_eq rfl, eq_take rfl⟩, trivial⟩, trivial⟩, ⟨rfl, rfl⟩, ⟨rfl, rfl⟩, rfl, ⟨rfl, rfl⟩, ⟨rfl, rfl⟩, rfl, trivial⟩
  · replace h := iteN h g115
    conv => whnf
    exact CutK.piece (spec_odPower_p5_ct  h) [some 128, some 256, some 448, some 512] [] ⟨⟨rfl, rfl⟩, ⟨rfl, ⟨rfl, rfl, trivial⟩, ⟨rfl, trivial, trivial⟩, ⟨rfl, rfl, trivial⟩, ⟨rfl, ⟨Nat.le_of_eq rfl, eq_take rfl⟩, trivial⟩, trivial⟩, ⟨rfl, rfl⟩, ⟨rfl, rfl⟩, rfl, ⟨rfl, rfl⟩, ⟨rfl, rfl⟩, rfl, trivial⟩
def spec_odPower_p3 (k : Nat) (a1 : Rw) (a2 : Rw) (o9 : Int) (o10 : Rw) (o11 : Rw) : Option (Rw × Bool) :=
  ((spec_odZero a2).bind fun y116 => (if y116 = true then some (o11, true) else ((spec_odCmp k a1 o11).bind fun y119 => (if y119 = (0 : Int) then some (o11, true) else ((spec_odZero a1).bind fun y122 => (if y122 = true then some (a1, true) else (spec_odPower_p4 k a1 o9 o10 o11)))))))
set_option maxHeartbeats 4000000 in
set_option maxRecDepth 100000 in
theorem spec_odPower_p3_ct {k : Nat} {a1 : Rw} {a2 : Rw} {o9 : Int} {o10 : Rw} {o11 : Rw} {r : Rw × Bool} (h : spec_odPower_p3 k a1 a2 o9 o10 o11 = some r) : X prog 0 (tlF f83 3) (mk 78 [(2, .ptr 128 0), (3, .ptr 192 0), (4, .ptr 256 0), (6, .d (D.int .i64 o9)), (7, .ptr 448 0), (8, .ptr 512 0)] [(128, .box 26 [.d (D.sl a1)]), (192, .box 26 [.d (D.sl a2)]), (256, .box 26 [.es]), (448, .box 26 [.d (D.sl o10)]), (512, .box 26 [.os 1079000 o11.length]), (1079000, .arr 104 false o11)]) (finK prog f83 0 (.tup [.agg [.d (D.sl r.1)], .d (D.bool r.2)]) (⟨[], []⟩)) := by
  rw [spec_odPower_p3] at h
  conv => whnf
  obtain ⟨y116, e117, h⟩ := bind_ex h
  refine CallOk.of (spec_odZero_ct e117) ?_
  conv => whnf
  refine spl (fun g118 => ?_) (fun g118 => ?_)
  · replace h := iteT h g118
    conv => whnf
    refine CutK.norm [2, 4, 6, 7, 8, 20] [128, 256, 448, 512, 1079000] ?_
    conv => whnf
    cases h
    exact Done.of [] [1079000] rfl rfl ⟨⟨rfl, rfl⟩, ⟨rfl, trivial⟩, ⟨⟨⟨rfl, Nat.le_of_eq rfl, eq_take rfl⟩, trivial⟩, rfl, trivial⟩, trivial⟩
  · replace h := iteF h g118
    conv => whnf
    refine Take.all (rfl) ?_
    conv => whnf
    obtain ⟨y119, e120, h⟩ := bind_ex h
    refine CallOk.of (spec_odCmp_ct e120) ?_
    conv => whnf
    refine splD (fun g121 => ?_) (fun g121 => ?_)
    · replace h := iteP h g121
      conv => whnf
      refine CutK.norm [2, 4, 6, 7, 8, 20] [128, 256, 448, 512, 1079000] ?_
      conv => whnf
      cases h
      exact Done.of [] [1079000] rfl rfl ⟨⟨rfl, rfl⟩, ⟨rfl, trivial⟩, ⟨⟨⟨rfl, Nat.le_of_eq rfl, eq_take rfl⟩, trivial⟩, rfl, trivial⟩, trivial⟩
    · replace h := iteN h g121
      conv => whnf
      refine CutK.norm [2, 4, 6, 7, 8, 20] [128, 256, 448, 512, 1079000] ?_
      conv => whnf
      obtain ⟨y122, e123, h⟩ := bind_ex h
      refine CallOk.of (spec_odZero_ct e123) ?_
      conv => whnf
      refine spl (fun g124 => ?_) (fun g124 => ?_)
      · replace h := iteT h g124
        conv => whnf
        refine CutK.norm [2, 4, 6, 7, 8, 30] [128, 256, 448, 512, 1079000] ?_
        conv => whnf
        cases h
        exact Done.of [] [] rfl rfl ⟨⟨rfl, rfl⟩, ⟨rfl, trivial⟩, ⟨⟨rfl, trivial⟩, rfl, trivial⟩, trivial⟩
      · replace h := iteF h g124
        conv => whnf
        refine CutK.norm [2, 4, 6, 7, 8, 30] [128, 256, 448, 512, 1079000] ?_
        conv => whnf
        exact CutK.piece (spec_odPower_p4_ct  h) [some 128, some 256, some 448, some 512, some 1079000] [] ⟨⟨rfl, rfl⟩, ⟨rfl, ⟨rfl, rfl, trivial⟩, ⟨rfl, trivial, trivial⟩, ⟨rfl, rfl, trivial⟩, ⟨rfl, ⟨rfl, rfl⟩, trivial⟩, ⟨rfl, rfl, rows_same⟩, trivial⟩, ⟨rfl, rfl⟩, ⟨rfl, rfl⟩, rfl, ⟨rfl, rfl⟩, ⟨rfl, rfl⟩, trivial⟩
def spec_odPower_p2 (k : Nat) (a1 : Rw) (a2 : Rw) (o5 : Int) (o6 : Rw) : Option (Rw × Bool) :=
  ((spec_odInt 1).bind fun y125 => (spec_odPower_p3 k a1 a2 o5 o6 y125))
set_option maxHeartbeats 4000000 in
set_option maxRecDepth 100000 in
theorem spec_odPower_p2_ct {k : Nat} {a1 : Rw} {a2 : Rw} {o5 : Int} {o6 : Rw} {r : Rw × Bool} (h : spec_odPower_p2 k a1 a2 o5 o6 = some r) : X prog 0 (tlF f83 2) (mk 78 [(2, .ptr 128 0), (3, .ptr 192 0), (4, .ptr 256 0), (6, .d (D.int .i64 o5)), (7, .ptr 448 0)] [(128, .box 26 [.d (D.sl a1)]), (192, .box 26 [.d (D.sl a2)]), (256, .box 26 [.es]), (448, .box 26 [.d (D.sl o6)])]) (finK prog f83 0 (.tup [.agg [.d (D.sl r.1)], .d (D.bool r.2)]) (⟨[], []⟩)) := by
  rw [spec_odPower_p2] at h
  conv => whnf
  obtain ⟨y125, e126, h⟩ := bind_ex h
  refine CallOk.of (spec_odInt_ct e126) ?_
  conv => whnf
  exact CutK.piece (spec_odPower_p3_ct  h) [some 128, some 192, some 256, some 448, some 512, some 1216] [] ⟨⟨rfl, rfl⟩, ⟨rfl, ⟨rfl, rfl, trivial⟩, ⟨rfl, rfl, trivial⟩, ⟨rfl, trivial, trivial⟩, ⟨rfl, rfl, trivial⟩, ⟨rfl, ⟨rfl, rfl⟩, trivial⟩, ⟨rfl, rfl, rows_same⟩, trivial⟩, ⟨rfl, rfl⟩, ⟨rfl, rfl⟩, ⟨rfl, rfl⟩, rfl, ⟨rfl, rfl⟩, ⟨rfl, rfl⟩, trivial⟩
def spec_odPower (k : Nat) (a1 : Rw) (a2 : Rw) : Option (Rw × Bool) :=
  ((spec_odFinite a2).bind fun y127 => (spec_odPower_p2 k a1 a2 y127.1 y127.2))
set_option maxHeartbeats 4000000 in
set_option maxRecDepth 100000 in
theorem spec_odPower_ct {k : Nat} {a1 : Rw} {a2 : Rw} {r : Rw × Bool} (h : spec_odPower k a1 a2 = some r) : Ct prog 83 [.agg [.d (D.sl a1)], .agg [.d (D.sl a2)]] (⟨[], []⟩) (.tup [.agg [.d (D.sl r.1)], .d (D.bool r.2)]) (⟨[], []⟩) := by
  rw [spec_odPower] at h
  refine Ct.of (c := _) mixed func83 ⟨rfl, rfl, rfl⟩ ?_ rfl
  conv => whnf
  obtain ⟨y127, e128, h⟩ := bind_ex h
  refine CallOk.of (spec_odFinite_ct e128) ?_
  conv => whnf
  exact CutK.piece (spec_odPower_p2_ct  h) [some 128, some 192, some 256, some 448] [] ⟨⟨rfl, rfl⟩, ⟨rfl, ⟨rfl, rfl, trivial⟩, ⟨rfl, rfl, trivial⟩, ⟨rfl, trivial, trivial⟩, ⟨rfl, rfl, trivial⟩, trivial⟩, ⟨rfl, rfl⟩, ⟨rfl, rfl⟩, ⟨rfl, rfl⟩, rfl, ⟨rfl, rfl⟩, trivial⟩

def spec_odOwn_l0 (rec_spec_odOwn : Rw → Option Rw) (a1 : Rw) (K0 : Rw → Option Rw) : Rw → Rw → Option Rw
  | [], v10 => (K0 v10)
  | cs :: rest, v10 => (cell_si cs fun x28 x29 => ((rec_spec_odOwn x28).bind fun y31 => (if v10.length + 1 ≤ cap then (spec_odOwn_l0 rec_spec_odOwn a1 K0 rest (v10 ++ ([[D.sl y31, D.int .i64 x29]]))) else none)))
set_option maxRecDepth 100000 in
theorem spec_odOwn_l0_ct {rec_spec_odOwn : Rw → Option Rw} {a1 : Rw} {K0 : Rw → Option Rw} (hrec_spec_odOwn : ∀ (a1 : Rw) (r : Rw), rec_spec_odOwn a1 = some r → Ct prog 166 [.agg [.d (D.sl a1)]] (⟨[], []⟩) (.agg [.os 8 r.length]) (⟨[], [(104, true, r)]⟩)) {r : Rw} (hx : a1.length ≤ cap) : ∀ (rest : Rw) (v9n : Nat) (v10 : Rw), a1.drop v9n = rest → spec_odOwn_l0 rec_spec_odOwn a1 K0 rest v10 = some r → LoopOk prog 0 (lp f166 0) (mk 27 [(2, .ptr 128 0), (3, .ptr 192 0), (8, .d (D.sl a1)), (9, .d (D.int .i64 (a1.length : Int))), (10, .d (D.int .i64 (v9n : Int)))] [(128, .box 26 [.es]), (192, .box 26 [.os 64000 v10.length]), (64000, .arr 104 true v10)]) (LoopEnd prog f166 0 27 (.agg [.os 8 r.length]) (⟨[], [(104, true, r)]⟩) (fun i ts os => (i = 0 ∧ ∃ v19 : Rw, K0 v19 = some r ∧ ts = [(2, .ptr 128 0), (3, .ptr 192 0)] ∧ os = [(128, .box 26 [.es]), (192, .box 26 [.os 67001 v19.length]), (67001, .arr 104 true v19)])))
  | [], v9n, v10, hd, h => by
      rw [spec_odOwn_l0] at h
      have hn := drop_nil hd
      refine LoopOk.step ?_
      conv => whnf
      refine splD (fun g => absurd g hn) (fun _ => ?_)
      conv => whnf
      exact ⟨_, _, [some 128, some 192, some 64000], [], ⟨rfl, _, h, rfl, rfl⟩, ⟨⟨rfl, rfl⟩, ⟨rfl, ⟨rfl, trivial, trivial⟩, ⟨rfl, ⟨rfl, rfl⟩, trivial⟩, ⟨rfl, rfl, rows_same⟩, trivial⟩, ⟨rfl, rfl⟩, ⟨rfl, rfl⟩, trivial⟩⟩
  | cs :: rest, v9n, v10, hd, h => by
      rw [spec_odOwn_l0] at h
      obtain ⟨hrow, hd1, hlt⟩ := drop_cons hd
      refine LoopOk.step ?_
      conv => whnf
      refine splD (fun _ => ?_) (fun g => absurd hlt g)
      conv => whnf
      obtain ⟨x28, x29, e30, h⟩ := cell_si_ex h
      rw [e30] at hrow
      refine Req.of (Int.natCast_nonneg _) ?_
      refine Row.of _ hrow ?_
      conv => whnf
      obtain ⟨y31, e32, h⟩ := bind_ex h
      refine CallOk.of (hrec_spec_odOwn _ _ e32) ?_
      conv => whnf
      refine Take.all (rfl) ?_
      conv => whnf
      refine Take.all (rfl) ?_
      conv => whnf
      refine Take.all (by first | rfl | exact List.length_append.symm | (simp; done) | omega) ?_
      conv => whnf
      obtain ⟨g33, h⟩ := req_ex h
      refine Req.of (room (b := 32) (by decide) g33 (wide1 rfl wide0)) ?_
      conv => whnf
      refine CutK.go ?_
      conv => whnf
      exact LoopOk.back (spec_odOwn_l0_ct hrec_spec_odOwn hx rest (v9n + 1) _ hd1 h) [some 128, some 192, some 1472] [] ⟨⟨rfl, rfl⟩, ⟨rfl, ⟨rfl, trivial, trivial⟩, ⟨rfl, ⟨(by first | rfl | exact List.length_append.symm | (simp; done) | omega), rfl⟩, trivial⟩, ⟨rfl, rfl, rows_same⟩, trivial⟩, ⟨rfl, rfl⟩, ⟨rfl, rfl⟩, rfl, rfl, i64eq (wrap_up hlt hx), trivial⟩
def spec_odOwn_b (rec_spec_odOwn : Rw → Option Rw) (a1 : Rw) : Option Rw :=
  (if a1.length ≤ cap then (spec_odOwn_l0 rec_spec_odOwn a1 (fun (v19 : Rw) => some v19) a1 ([] : Rw)) else none)
set_option maxHeartbeats 4000000 in
set_option maxRecDepth 100000 in
theorem spec_odOwn_b_ct {rec_spec_odOwn : Rw → Option Rw} (hrec_spec_odOwn : ∀ (a1 : Rw) (r : Rw), rec_spec_odOwn a1 = some r → Ct prog 166 [.agg [.d (D.sl a1)]] (⟨[], []⟩) (.agg [.os 8 r.length]) (⟨[], [(104, true, r)]⟩)) {a1 : Rw} {r : Rw} (h : spec_odOwn_b rec_spec_odOwn a1 = some r) : Ct prog 166 [.agg [.d (D.sl a1)]] (⟨[], []⟩) (.agg [.os 8 r.length]) (⟨[], [(104, true, r)]⟩) := by
  rw [spec_odOwn_b] at h
  refine Ct.of (c := _) mixed func166 ⟨rfl, rfl, rfl⟩ ?_ rfl
  conv => whnf
  obtain ⟨g34, h⟩ := req_ex h
  refine LoopOk.into (spec_odOwn_l0_ct hrec_spec_odOwn g34 _ _ _ rfl h) [some 128, some 192, none] [] ⟨⟨rfl, rfl⟩, ⟨rfl, ⟨rfl, trivial, trivial⟩, ⟨rfl, ⟨rfl, rfl⟩, trivial⟩, rfl, trivial⟩, ⟨rfl, rfl⟩, ⟨rfl, rfl⟩, rfl, rfl, rfl, trivial⟩ ?_ (fun _ hs => hs)
  rintro i ts os ⟨rfl, v19, h, rfl, rfl⟩
  conv => whnf
  refine CutK.go ?_
  conv => whnf
  cases h
  exact Done.of [some 67001] [] rfl rfl ⟨⟨rfl, rfl⟩, ⟨rfl, ⟨rfl, rfl, rows_same⟩, trivial⟩, ⟨⟨rfl, rfl⟩, trivial⟩, trivial⟩
def spec_odOwn : Nat → Rw → Option Rw
  | 0, _ => none
  | k + 1, a1 => spec_odOwn_b (spec_odOwn k) a1
theorem spec_odOwn_ct' : ∀ (k : Nat) (a1 : Rw) (r : Rw), spec_odOwn k a1 = some r → Ct prog 166 [.agg [.d (D.sl a1)]] (⟨[], []⟩) (.agg [.os 8 r.length]) (⟨[], [(104, true, r)]⟩)
  | 0, _, _, h => by rw [spec_odOwn] at h; cases h
  | k + 1, _, _, h => by rw [spec_odOwn] at h; exact spec_odOwn_b_ct (spec_odOwn_ct' k) h
theorem spec_odOwn_ct {k : Nat} {a1 : Rw} {r : Rw} (h : spec_odOwn k a1 = some r) : Ct prog 166 [.agg [.d (D.sl a1)]] (⟨[], []⟩) (.agg [.os 8 r.length]) (⟨[], [(104, true, r)]⟩) := spec_odOwn_ct' k _ _ h

def spec_odIf (k : Nat) (a1 : Rw) : Option (Rw × Bool) :=
  ((spec_odGood k a1).bind fun y2 => (if y2 = true then ((spec_odOwn k a1).bind fun y5 => some (y5, true)) else some (([] : Rw), false)))
set_option maxHeartbeats 4000000 in
set_option maxRecDepth 100000 in
theorem spec_odIf_ct {k : Nat} {a1 : Rw} {r : Rw × Bool} (h : spec_odIf k a1 = some r) : Ct prog 84 [.agg [.d (D.sl a1)]] (⟨[], []⟩) (.tup [.agg [.os 8 r.1.length], .d (D.bool r.2)]) (⟨[], [(104, true, r.1)]⟩) := by
  rw [spec_odIf] at h
  refine Ct.of (c := _) mixed func84 ⟨rfl, rfl, rfl⟩ ?_ rfl
  conv => whnf
  obtain ⟨y2, e3, h⟩ := bind_ex h
  refine CallOk.of (spec_odGood_ct e3) ?_
  conv => whnf
  refine spl (fun g4 => ?_) (fun g4 => ?_)
  · replace h := iteT h g4
    conv => whnf
    refine CutK.go ?_
    conv => whnf
    refine CutK.go ?_
    conv => whnf
    obtain ⟨y5, e6, h⟩ := bind_ex h
    refine CallOk.of (spec_odOwn_ct e6) ?_
    conv => whnf
    refine CutK.go ?_
    conv => whnf
    cases h
    exact Done.of [some 576] [] rfl rfl ⟨⟨rfl, rfl⟩, ⟨rfl, ⟨rfl, rfl, rows_same⟩, trivial⟩, ⟨⟨⟨rfl, rfl⟩, trivial⟩, rfl, trivial⟩, trivial⟩
  · replace h := iteF h g4
    conv => whnf
    refine CutK.go ?_
    conv => whnf
    cases h
    exact Done.of [none] [] rfl rfl ⟨⟨rfl, rfl⟩, ⟨rfl, rfl, trivial⟩, ⟨⟨⟨rfl, rfl⟩, trivial⟩, rfl, trivial⟩, trivial⟩

def spec_PowerOfOrdinals (k : Nat) (a1 : Rw) (a2 : Rw) : Option (Rw × Bool) :=
  ((spec_odGood k a1).bind fun y3 => (if y3 = true then ((spec_odGood k a2).bind fun y6 => (if y6 = true then ((spec_odPower k a1 a2).bind fun y9 => (if y9.2 = true then ((spec_odIf k y9.1).bind fun y12 => (if y12.2 = true then some (y12.1, true) else some (y12.1, false))) else some (([] : Rw), false))) else some (([] : Rw), false))) else some (([] : Rw), false)))
set_option maxHeartbeats 4000000 in
set_option maxRecDepth 100000 in
theorem spec_PowerOfOrdinals_ct {k : Nat} {a1 : Rw} {a2 : Rw} {r : Rw × Bool} (h : spec_PowerOfOrdinals k a1 a2 = some r) : Ct prog 19 [.agg [.d (D.sl a1)], .agg [.d (D.sl a2)]] (⟨[], []⟩) (.tup [.agg [.os 8 r.1.length], .d (D.bool r.2)]) (⟨[], [(104, true, r.1)]⟩) := by
  rw [spec_PowerOfOrdinals] at h
  refine Ct.of (c := _) mixed func19 ⟨rfl, rfl, rfl⟩ ?_ rfl
  conv => whnf
  obtain ⟨y3, e4, h⟩ := bind_ex h
  refine CallOk.of (spec_odGood_ct e4) ?_
  conv => whnf
  refine spl (fun g5 => ?_) (fun g5 => ?_)
  · replace h := iteT h g5
    conv => whnf
    obtain ⟨y6, e7, h⟩ := bind_ex h
    refine CallOk.of (spec_odGood_ct e7) ?_
    conv => whnf
    refine spl (fun g8 => ?_) (fun g8 => ?_)
    · replace h := iteT h g8
      conv => whnf
      refine CutK.go ?_
      conv => whnf
      refine CutK.go ?_
      conv => whnf
      obtain ⟨y9, e10, h⟩ := bind_ex h
      refine CallOk.of (spec_odPower_ct e10) ?_
      conv => whnf
      refine spl (fun g11 => ?_) (fun g11 => ?_)
      · replace h := iteT h g11
        conv => whnf
        refine CutK.go ?_
        conv => whnf
        obtain ⟨y12, e13, h⟩ := bind_ex h
        refine CallOk.of (spec_odIf_ct e13) ?_
        conv => whnf
        refine spl (fun g14 => ?_) (fun g14 => ?_)
        · replace h := iteT h g14
          conv => whnf
          refine CutK.go ?_
          conv => whnf
          cases h
          exact Done.of [some 1728] [] rfl rfl ⟨⟨rfl, rfl⟩, ⟨rfl, ⟨rfl, rfl, rows_same⟩, trivial⟩, ⟨⟨⟨rfl, rfl⟩, trivial⟩, rfl, trivial⟩, trivial⟩
        · replace h := iteF h g14
          conv => whnf
          refine CutK.go ?_
          conv => whnf
          cases h
          exact Done.of [some 1728] [] rfl rfl ⟨⟨rfl, rfl⟩, ⟨rfl, ⟨rfl, rfl, rows_same⟩, trivial⟩, ⟨⟨⟨rfl, rfl⟩, trivial⟩, rfl, trivial⟩, trivial⟩
      · replace h := iteF h g11
        conv => whnf
        refine CutK.go ?_
        conv => whnf
        cases h
        exact Done.of [none] [] rfl rfl ⟨⟨rfl, rfl⟩, ⟨rfl, rfl, trivial⟩, ⟨⟨⟨rfl, rfl⟩, trivial⟩, rfl, trivial⟩, trivial⟩
    · replace h := iteF h g8
      conv => whnf
      refine CutK.go ?_
      conv => whnf
      cases h
      exact Done.of [none] [] rfl rfl ⟨⟨rfl, rfl⟩, ⟨rfl, rfl, trivial⟩, ⟨⟨⟨rfl, rfl⟩, trivial⟩, rfl, trivial⟩, trivial⟩
  · replace h := iteF h g5
    conv => whnf
    refine CutK.go ?_
    conv => whnf
    cases h
    exact Done.of [none] [] rfl rfl ⟨⟨rfl, rfl⟩, ⟨rfl, rfl, trivial⟩, ⟨⟨⟨rfl, rfl⟩, trivial⟩, rfl, trivial⟩, trivial⟩

def laws_szOrdinalTerm (rec_laws_szOrdinal : Rw → Int → Option Int) (a1 : Rw) (a2 : Int) (a3 : Int) : Option Int :=
  ((rec_laws_szOrdinal a1 a3).bind fun y4 => (if y4 < (0 : Int) then some (-1) else some y4))
set_option maxHeartbeats 4000000 in
set_option maxRecDepth 100000 in
theorem laws_szOrdinalTerm_ct {rec_laws_szOrdinal : Rw → Int → Option Int} (hrec_laws_szOrdinal : ∀ (a1 : Rw) (a2 : Int) (r : Int), rec_laws_szOrdinal a1 a2 = some r → Ct prog 18 [.agg [.d (D.sl a1)], .d (D.int .i64 a2)] (⟨[], []⟩) (.d (D.int .i64 r)) (⟨[], []⟩)) {a1 : Rw} {a2 : Int} {a3 : Int} {r : Int} (h : laws_szOrdinalTerm rec_laws_szOrdinal a1 a2 a3 = some r) : Ct prog 160 [.agg [.d (D.sl a1), .d (D.int .i64 a2)], .d (D.int .i64 a3)] (⟨[], []⟩) (.d (D.int .i64 r)) (⟨[], []⟩) := by
  rw [laws_szOrdinalTerm] at h
  refine Ct.of (c := _) mixed func160 ⟨rfl, rfl, rfl⟩ ?_ rfl
  conv => whnf
  obtain ⟨y4, e5, h⟩ := bind_ex h
  refine CallOk.of (hrec_laws_szOrdinal _ _ _ e5) ?_
  conv => whnf
  refine CutK.go ?_
  conv => whnf
  refine splD (fun g6 => ?_) (fun g6 => ?_)
  · replace h := iteP h g6
    conv => whnf
    cases h
    exact Done.of [] [] rfl rfl ⟨⟨rfl, rfl⟩, ⟨rfl, trivial⟩, rfl, trivial⟩
  · replace h := iteN h g6
    conv => whnf
    cases h
    exact Done.of [] [] rfl rfl ⟨⟨rfl, rfl⟩, ⟨rfl, trivial⟩, rfl, trivial⟩

def laws_szOrdinalTermS_l0 (rec_laws_szOrdinal : Rw → Int → Option Int) (a1 : Rw) (K0 : Int → Option Int) : Rw → Int → Option Int
  | [], v12 => (K0 v12)
  | cs :: rest, v12 => (cell_si cs fun x31 x32 => ((laws_szOrdinalTerm rec_laws_szOrdinal x31 x32 v12).bind fun y34 => (if y34 < (0 : Int) then some (-1) else (laws_szOrdinalTermS_l0 rec_laws_szOrdinal a1 K0 rest y34))))
set_option maxRecDepth 100000 in
theorem laws_szOrdinalTermS_l0_ct {rec_laws_szOrdinal : Rw → Int → Option Int} {a1 : Rw} {K0 : Int → Option Int} (hrec_laws_szOrdinal : ∀ (a1 : Rw) (a2 : Int) (r : Int), rec_laws_szOrdinal a1 a2 = some r → Ct prog 18 [.agg [.d (D.sl a1)], .d (D.int .i64 a2)] (⟨[], []⟩) (.d (D.int .i64 r)) (⟨[], []⟩)) {r : Int} (hx : a1.length ≤ cap) : ∀ (rest : Rw) (v13n : Nat) (v12 : Int), a1.drop v13n = rest → laws_szOrdinalTermS_l0 rec_laws_szOrdinal a1 K0 rest v12 = some r → LoopOk prog 0 (lp f82 0) (mk 27 [(0, .d (D.sl a1)), (1, .d (D.int .i64 v12)), (5, .d (D.int .i64 (v13n : Int)))] []) (LoopEnd prog f82 0 27 (.d (D.int .i64 r)) (⟨[], []⟩) (fun i ts os => (i = 0 ∧ ∃ v22 : Int, K0 v22 = some r ∧ ts = [(1, .d (D.int .i64 v22))] ∧ os = [])))
  | [], v13n, v12, hd, h => by
      rw [laws_szOrdinalTermS_l0] at h
      have hn := drop_nil hd
      refine LoopOk.step ?_
      conv => whnf
      refine splD (fun g => absurd g hn) (fun _ => ?_)
      conv => whnf
      exact ⟨_, _, [], [], ⟨rfl, _, h, rfl, rfl⟩, ⟨⟨rfl, rfl⟩, ⟨rfl, trivial⟩, rfl, trivial⟩⟩
  | cs :: rest, v13n, v12, hd, h => by
      rw [laws_szOrdinalTermS_l0] at h
      obtain ⟨hrow, hd1, hlt⟩ := drop_cons hd
      refine LoopOk.step ?_
      conv => whnf
      refine splD (fun _ => ?_) (fun g => absurd hlt g)
      conv => whnf
      obtain ⟨x31, x32, e33, h⟩ := cell_si_ex h
      rw [e33] at hrow
      refine Req.of (Int.natCast_nonneg _) ?_
      refine Row.of _ hrow ?_
      conv => whnf
      obtain ⟨y34, e35, h⟩ := bind_ex h
      refine CallOk.of (laws_szOrdinalTerm_ct hrec_laws_szOrdinal e35) ?_
      conv => whnf
      refine CutK.go ?_
      conv => whnf
      refine splD (fun g36 => ?_) (fun g36 => ?_)
      · replace h := iteP h g36
        conv => whnf
        cases h
        exact Done.of [] [] rfl rfl ⟨⟨rfl, rfl⟩, ⟨rfl, trivial⟩, rfl, trivial⟩
      · replace h := iteN h g36
        conv => whnf
        refine CutK.go ?_
        conv => whnf
        exact LoopOk.back (laws_szOrdinalTermS_l0_ct hrec_laws_szOrdinal hx rest (v13n + 1) _ hd1 h) [] [] ⟨⟨rfl, rfl⟩, ⟨rfl, trivial⟩, rfl, rfl, i64eq (wrap_up hlt hx), trivial⟩
def laws_szOrdinalTermS (rec_laws_szOrdinal : Rw → Int → Option Int) (a1 : Rw) (a2 : Int) : Option Int :=
  (if (IntKind.i64.wrap (a2 - (a1.length : Int))) < (0 : Int) then some (-1) else (if a1.length ≤ cap then (laws_szOrdinalTermS_l0 rec_laws_szOrdinal a1 (fun (v22 : Int) => some v22) a1 (IntKind.i64.wrap (a2 - (a1.length : Int)))) else none))
set_option maxHeartbeats 4000000 in
set_option maxRecDepth 100000 in
theorem laws_szOrdinalTermS_ct {rec_laws_szOrdinal : Rw → Int → Option Int} (hrec_laws_szOrdinal : ∀ (a1 : Rw) (a2 : Int) (r : Int), rec_laws_szOrdinal a1 a2 = some r → Ct prog 18 [.agg [.d (D.sl a1)], .d (D.int .i64 a2)] (⟨[], []⟩) (.d (D.int .i64 r)) (⟨[], []⟩)) {a1 : Rw} {a2 : Int} {r : Int} (h : laws_szOrdinalTermS rec_laws_szOrdinal a1 a2 = some r) : Ct prog 82 [.d (D.sl a1), .d (D.int .i64 a2)] (⟨[], []⟩) (.d (D.int .i64 r)) (⟨[], []⟩) := by
  rw [laws_szOrdinalTermS] at h
  refine Ct.of (c := _) mixed func82 ⟨rfl, rfl, rfl⟩ ?_ rfl
  conv => whnf
  refine splD (fun g3 => ?_) (fun g3 => ?_)
  · replace h := iteP h g3
    conv => whnf
    cases h
    exact Done.of [] [] rfl rfl ⟨⟨rfl, rfl⟩, ⟨rfl, trivial⟩, rfl, trivial⟩
  · replace h := iteN h g3
    conv => whnf
    obtain ⟨g37, h⟩ := req_ex h
    refine LoopOk.into (laws_szOrdinalTermS_l0_ct hrec_laws_szOrdinal g37 _ _ _ rfl h) [] [] ⟨⟨rfl, rfl⟩, ⟨rfl, trivial⟩, rfl, rfl, rfl, trivial⟩ ?_ (fun _ hs => hs)
    rintro i ts os ⟨rfl, v22, h, rfl, rfl⟩
    conv => whnf
    refine CutK.go ?_
    conv => whnf
    cases h
    exact Done.of [] [] rfl rfl ⟨⟨rfl, rfl⟩, ⟨rfl, trivial⟩, rfl, trivial⟩

def laws_szOrdinal_b (rec_laws_szOrdinal : Rw → Int → Option Int) (a1 : Rw) (a2 : Int) : Option Int :=
  ((laws_szOrdinalTermS rec_laws_szOrdinal a1 a2).bind fun y3 => (if y3 < (0 : Int) then some (-1) else some y3))
set_option maxHeartbeats 4000000 in
set_option maxRecDepth 100000 in
theorem laws_szOrdinal_b_ct {rec_laws_szOrdinal : Rw → Int → Option Int} (hrec_laws_szOrdinal : ∀ (a1 : Rw) (a2 : Int) (r : Int), rec_laws_szOrdinal a1 a2 = some r → Ct prog 18 [.agg [.d (D.sl a1)], .d (D.int .i64 a2)] (⟨[], []⟩) (.d (D.int .i64 r)) (⟨[], []⟩)) {a1 : Rw} {a2 : Int} {r : Int} (h : laws_szOrdinal_b rec_laws_szOrdinal a1 a2 = some r) : Ct prog 18 [.agg [.d (D.sl a1)], .d (D.int .i64 a2)] (⟨[], []⟩) (.d (D.int .i64 r)) (⟨[], []⟩) := by
  rw [laws_szOrdinal_b] at h
  refine Ct.of (c := _) mixed func18 ⟨rfl, rfl, rfl⟩ ?_ rfl
  conv => whnf
  obtain ⟨y3, e4, h⟩ := bind_ex h
  refine CallOk.of (laws_szOrdinalTermS_ct hrec_laws_szOrdinal e4) ?_
  conv => whnf
  refine CutK.go ?_
  conv => whnf
  refine splD (fun g5 => ?_) (fun g5 => ?_)
  · replace h := iteP h g5
    conv => whnf
    cases h
    exact Done.of [] [] rfl rfl ⟨⟨rfl, rfl⟩, ⟨rfl, trivial⟩, rfl, trivial⟩
  · replace h := iteN h g5
    conv => whnf
    cases h
    exact Done.of [] [] rfl rfl ⟨⟨rfl, rfl⟩, ⟨rfl, trivial⟩, rfl, trivial⟩
def laws_szOrdinal : Nat → Rw → Int → Option Int
  | 0, _, _ => none
  | k + 1, a1, a2 => laws_szOrdinal_b (laws_szOrdinal k) a1 a2
theorem laws_szOrdinal_ct' : ∀ (k : Nat) (a1 : Rw) (a2 : Int) (r : Int), laws_szOrdinal k a1 a2 = some r → Ct prog 18 [.agg [.d (D.sl a1)], .d (D.int .i64 a2)] (⟨[], []⟩) (.d (D.int .i64 r)) (⟨[], []⟩)
  | 0, _, _, _, h => by rw [laws_szOrdinal] at h; cases h
  | k + 1, _, _, _, h => by rw [laws_szOrdinal] at h; exact laws_szOrdinal_b_ct (laws_szOrdinal_ct' k) h
theorem laws_szOrdinal_ct {k : Nat} {a1 : Rw} {a2 : Int} {r : Int} (h : laws_szOrdinal k a1 a2 = some r) : Ct prog 18 [.agg [.d (D.sl a1)], .d (D.int .i64 a2)] (⟨[], []⟩) (.d (D.int .i64 r)) (⟨[], []⟩) := laws_szOrdinal_ct' k _ _ _ h

def laws_FnExactPowerOfOrdinals_p27 (o230 : Int) (o231 : Int) : Option Bool :=
  (if o231 < (0 : Int) then some false else (if o231 = o230 then some true else some false))
set_option maxHeartbeats 4000000 in
set_option maxRecDepth 100000 in
theorem laws_FnExactPowerOfOrdinals_p27_ct {o230 : Int} {o231 : Int} {r : Bool} (h : laws_FnExactPowerOfOrdinals_p27 o230 o231 = some r) : X prog 0 (tlF f4 27) (mk 119 [(13, .d (D.int .i64 o230)), (14, .d (D.int .i64 o231))] []) (finK prog f4 0 (.d (D.bool r)) (⟨[], []⟩)) := by
  rw [laws_FnExactPowerOfOrdinals_p27] at h
  conv => whnf
  refine splD (fun g234 => ?_) (fun g234 => ?_)
  · replace h := iteP h g234
    conv => whnf
    cases h
    exact Done.of [] [] rfl rfl ⟨⟨rfl, rfl⟩, ⟨rfl, trivial⟩, rfl, trivial⟩
  · replace h := iteN h g234
    conv => whnf
    refine splN (fun g235 => ?_) (fun g235 => ?_)
    · replace h := iteN h g235
      conv => whnf
      cases h
      exact Done.of [] [] rfl rfl ⟨⟨rfl, rfl⟩, ⟨rfl, trivial⟩, rfl, trivial⟩
    · replace h := iteP h g235
      conv => whnf
      cases h
      exact Done.of [] [] rfl rfl ⟨⟨rfl, rfl⟩, ⟨rfl, trivial⟩, rfl, trivial⟩
def laws_FnExactPowerOfOrdinals_p25 (k : Nat) (o217 : Int) (o218 : Rw) : Option Bool :=
  ((laws_heldOrdinal k o218 1).bind fun y236 => (laws_FnExactPowerOfOrdinals_p27 o217 y236))
set_option maxHeartbeats 4000000 in
set_option maxRecDepth 100000 in
theorem laws_FnExactPowerOfOrdinals_p25_ct {k : Nat} {o217 : Int} {o218 : Rw} {r : Bool} (h : laws_FnExactPowerOfOrdinals_p25 k o217 o218 = some r) : X prog 0 (tlF f4 25) (mk 119 [(10, .ptr 640 0), (13, .d (D.int .i64 o217))] [(640, .box 26 [.os 1189000 o218.length]), (1189000, .arr 104 true o218)]) (finK prog f4 0 (.d (D.bool r)) (⟨[], []⟩)) := by
  rw [laws_FnExactPowerOfOrdinals_p25] at h
  conv => whnf
  refine Choice.old ?_
  conv => whnf
  refine Take.all (rfl) ?_
  conv => whnf
  obtain ⟨y236, e237, h⟩ := bind_ex h
  refine CallOk.of (laws_heldOrdinal_ct e237) ?_
  conv => whnf
  exact CutK.piece (laws_FnExactPowerOfOrdinals_p27_ct  h) [] [] ⟨⟨rfl, rfl⟩, ⟨rfl, trivial⟩, rfl, rfl, trivial⟩
def laws_FnExactPowerOfOrdinals_p24 (k : Nat) (o199 : Int) (o200 : Rw) (o201 : Rw) (o202 : Rw) (v203 : Bool) (v213 : Bool) : Option Bool :=
  (cond v203 (cond v213 ((laws_eqOrdinal k o202 o200).bind fun y247 => (if y247 = true then (laws_FnExactPowerOfOrdinals_p25 k o199 o201) else some false)) ((laws_eqOrdinal k o202 o200).bind fun y244 => (if y244 = true then some false else some false))) (cond v213 ((laws_eqOrdinal k o202 o200).bind fun y241 => (if y241 = true then some false else some false)) ((laws_eqOrdinal k o202 o200).bind fun y238 => (if y238 = true then (laws_FnExactPowerOfOrdinals_p25 k o199 o201) else some false))))
set_option maxHeartbeats 4000000 in
set_option maxRecDepth 100000 in
theorem laws_FnExactPowerOfOrdinals_p24_ct {k : Nat} {o199 : Int} {o200 : Rw} {o201 : Rw} {o202 : Rw} {v203 : Bool} {v213 : Bool} {r : Bool} (h : laws_FnExactPowerOfOrdinals_p24 k o199 o200 o201 o202 v203 v213 = some r) : X prog 0 (tlF f4 24) (mk 119 [(6, .ptr 384 0), (7, .d (D.bool v213)), (10, .ptr 640 0), (13, .d (D.int .i64 o199)), (15, .ptr 960 0), (16, .d (D.bool v203))] [(384, .box 26 [.os 1184000 o200.length]), (640, .box 26 [.os 1184001 o201.length]), (960, .box 26 [.os 1184002 o202.length]), (1184000, .arr 104 true o200), (1184001, .arr 104 true o201), (1184002, .arr 104 true o202)]) (finK prog f4 0 (.d (D.bool r)) (⟨[], []⟩)) := by
  rw [laws_FnExactPowerOfOrdinals_p24] at h
  cases v203
  · replace h := condF h
    cases v213
    · replace h := condF h
      conv => whnf
      refine Take.all (rfl) ?_
      conv => whnf
      refine Take.all (rfl) ?_
      conv => whnf
      obtain ⟨y238, e239, h⟩ := bind_ex h
      refine CallOk.of (laws_eqOrdinal_ct e239) ?_
      conv => whnf
      refine spl (fun g240 => ?_) (fun g240 => ?_)
      · replace h := iteT h g240
        conv => whnf
        refine splF ?_
        conv => whnf
        refine CutK.norm [10, 13, 110] [640, 1184001] ?_
        conv => whnf
        exact CutK.piece (laws_FnExactPowerOfOrdinals_p25_ct  h) [some 640, some 1184001] [] ⟨⟨rfl, rfl⟩, ⟨rfl, ⟨rfl, ⟨rfl, rfl⟩, trivial⟩, ⟨rfl, rfl, rows_same⟩, trivial⟩, ⟨rfl, rfl⟩, rfl, trivial⟩
      · replace h := iteF h g240
        conv => whnf
        refine CutK.norm [10, 13, 110] [640, 1184001] ?_
        conv => whnf
        cases h
        exact Done.of [] [] rfl rfl ⟨⟨rfl, rfl⟩, ⟨rfl, trivial⟩, rfl, trivial⟩
    · replace h := condT h
      conv => whnf
      refine Take.all (rfl) ?_
      conv => whnf
      refine Take.all (rfl) ?_
      conv => whnf
      obtain ⟨y241, e242, h⟩ := bind_ex h
      refine CallOk.of (laws_eqOrdinal_ct e242) ?_
      conv => whnf
      refine spl (fun g243 => ?_) (fun g243 => ?_)
      · replace h := iteT h g243
        conv => whnf
        refine splT ?_
        conv => whnf
        refine CutK.norm [10, 13, 110] [640, 1184001] ?_
        conv => whnf
        cases h
        exact Done.of [] [] rfl rfl ⟨⟨rfl, rfl⟩, ⟨rfl, trivial⟩, rfl, trivial⟩
      · replace h := iteF h g243
        conv => whnf
        refine CutK.norm [10, 13, 110] [640, 1184001] ?_
        conv => whnf
        cases h
        exact Done.of [] [] rfl rfl ⟨⟨rfl, rfl⟩, ⟨rfl, trivial⟩, rfl, trivial⟩
  · replace h := condT h
    cases v213
    · replace h := condF h
      conv => whnf
      refine Take.all (rfl) ?_
      conv => whnf
      refine Take.all (rfl) ?_
      conv => whnf
      obtain ⟨y244, e245, h⟩ := bind_ex h
      refine CallOk.of (laws_eqOrdinal_ct e245) ?_
      conv => whnf
      refine spl (fun g246 => ?_) (fun g246 => ?_)
      · replace h := iteT h g246
        conv => whnf
        refine splT ?_
        conv => whnf
        refine CutK.norm [10, 13, 110] [640, 1184001] ?_
        conv => whnf
        cases h
        exact Done.of [] [] rfl rfl ⟨⟨rfl, rfl⟩, ⟨rfl, trivial⟩, rfl, trivial⟩
      · replace h := iteF h g246
        conv => whnf
        refine CutK.norm [10, 13, 110] [640, 1184001] ?_
        conv => whnf
        cases h
        exact Done.of [] [] rfl rfl ⟨⟨rfl, rfl⟩, ⟨rfl, trivial⟩, rfl, trivial⟩
    · replace h := condT h
      conv => whnf
      refine Take.all (rfl) ?_
      conv => whnf
      refine Take.all (rfl) ?_
      conv => whnf
      obtain ⟨y247, e248, h⟩ := bind_ex h
      refine CallOk.of (laws_eqOrdinal_ct e248) ?_
      conv => whnf
      refine spl (fun g249 => ?_) (fun g249 => ?_)
      · replace h := iteT h g249
        conv => whnf
        refine splF ?_
        conv => whnf
        refine CutK.norm [10, 13, 110] [640, 1184001] ?_
        conv => whnf
        exact CutK.piece (laws_FnExactPowerOfOrdinals_p25_ct  h) [some 640, some 1184001] [] ⟨⟨rfl, rfl⟩, ⟨rfl, ⟨rfl, ⟨rfl, rfl⟩, trivial⟩, ⟨rfl, rfl, rows_same⟩, trivial⟩, ⟨rfl, rfl⟩, rfl, trivial⟩
      · replace h := iteF h g249
        conv => whnf
        refine CutK.norm [10, 13, 110] [640, 1184001] ?_
        conv => whnf
        cases h
        exact Done.of [] [] rfl rfl ⟨⟨rfl, rfl⟩, ⟨rfl, trivial⟩, rfl, trivial⟩
def laws_FnExactPowerOfOrdinals_p21 (k : Nat) (a1 : Rw) (a2 : Rw) (o183 : Int) (o184 : Int) (o185 : Rw) (o186 : Rw) (v189 : Bool) : Option Bool :=
  (cond v189 (if o184 < (0 : Int) then some false else (if o184 = o183 then ((laws_toOrdinal k a1).bind fun y261 => ((laws_toOrdinal k a2).bind fun y263 => ((impl_PowerOfOrdinals k y261 y263).bind fun y265 => (if y265.2 = true then (laws_FnExactPowerOfOrdinals_p24 k o183 o185 o186 y265.1 true true) else (laws_FnExactPowerOfOrdinals_p24 k o183 o185 o186 y265.1 false true))))) else some false)) (if o184 < (0 : Int) then some false else (if o184 = o183 then ((laws_toOrdinal k a1).bind fun y252 => ((laws_toOrdinal k a2).bind fun y254 => ((impl_PowerOfOrdinals k y252 y254).bind fun y256 => (if y256.2 = true then (laws_FnExactPowerOfOrdinals_p24 k o183 o185 o186 y256.1 true false) else (laws_FnExactPowerOfOrdinals_p24 k o183 o185 o186 y256.1 false false))))) else some false)))
set_option maxHeartbeats 4000000 in
set_option maxRecDepth 100000 in
theorem laws_FnExactPowerOfOrdinals_p21_ct {k : Nat} {a1 : Rw} {a2 : Rw} {o183 : Int} {o184 : Int} {o185 : Rw} {o186 : Rw} {v189 : Bool} {r : Bool} (h : laws_FnExactPowerOfOrdinals_p21 k a1 a2 o183 o184 o185 o186 v189 = some r) : X prog 0 (tlF f4 21) (mk 119 [(2, .ptr 128 0), (3, .ptr 192 0), (6, .ptr 384 0), (7, .d (D.bool v189)), (10, .ptr 640 0), (13, .d (D.int .i64 o183)), (14, .d (D.int .i64 o184))] [(128, .box 36 [.d (D.sl a1)]), (192, .box 36 [.d (D.sl a2)]), (384, .box 26 [.os 1169000 o185.length]), (640, .box 26 [.os 1169001 o186.length]), (1169000, .arr 104 true o185), (1169001, .arr 104 true o186)]) (finK prog f4 0 (.d (D.bool r)) (⟨[], []⟩)) := by
  rw [laws_FnExactPowerOfOrdinals_p21] at h
  cases v189
  · replace h := condF h
    conv => whnf
    refine splD (fun g250 => ?_) (fun g250 => ?_)
    · replace h := iteP h g250
      conv => whnf
      cases h
      exact Done.of [] [] rfl rfl ⟨⟨rfl, rfl⟩, ⟨rfl, trivial⟩, rfl, trivial⟩
    · replace h := iteN h g250
      conv => whnf
      refine splN (fun g251 => ?_) (fun g251 => ?_)
      · replace h := iteN h g251
        conv => whnf
        cases h
        exact Done.of [] [] rfl rfl ⟨⟨rfl, rfl⟩, ⟨rfl, trivial⟩, rfl, trivial⟩
      · replace h := iteP h g251
        conv => whnf
        obtain ⟨y252, e253, h⟩ := bind_ex h
        refine CallOk.of (laws_toOrdinal_ct e253) ?_
        conv => whnf
        obtain ⟨y254, e255, h⟩ := bind_ex h
        refine CallOk.of (laws_toOrdinal_ct e255) ?_
        conv => whnf
        refine Take.all (rfl) ?_
        conv => whnf
        refine Take.all (rfl) ?_
        conv => whnf
        obtain ⟨y256, e257, h⟩ := bind_ex h
        refine CallOk.of (impl_PowerOfOrdinals_ct e257) ?_
        conv => whnf
        refine spl (fun g258 => ?_) (fun g258 => ?_)
        · replace h := iteT h g258
          conv => whnf
          exact CutK.piece (laws_FnExactPowerOfOrdinals_p24_ct  h) [some 384, some 640, some 960, some 1169000, some 1169001, some 6336] [] ⟨⟨rfl, rfl⟩, ⟨rfl, ⟨rfl, ⟨rfl, rfl⟩, trivial⟩, ⟨rfl, ⟨rfl, rfl⟩, trivial⟩, ⟨rfl, ⟨rfl, rfl⟩, trivial⟩, ⟨rfl, rfl, rows_same⟩, ⟨rfl, rfl, rows_same⟩, ⟨rfl, rfl, rows_same⟩, trivial⟩, ⟨rfl, rfl⟩, rfl, ⟨rfl, rfl⟩, rfl, ⟨rfl, rfl⟩, rfl, trivial⟩
        · replace h := iteF h g258
          conv => whnf
          exact CutK.piece (laws_FnExactPowerOfOrdinals_p24_ct  h) [some 384, some 640, some 960, some 1169000, some 1169001, some 6336] [] ⟨⟨rfl, rfl⟩, ⟨rfl, ⟨rfl, ⟨rfl, rfl⟩, trivial⟩, ⟨rfl, ⟨rfl, rfl⟩, trivial⟩, ⟨rfl, ⟨rfl, rfl⟩, trivial⟩, ⟨rfl, rfl, rows_same⟩, ⟨rfl, rfl, rows_same⟩, ⟨rfl, rfl, rows_same⟩, trivial⟩, ⟨rfl, rfl⟩, rfl, ⟨rfl, rfl⟩, rfl, ⟨rfl, rfl⟩, rfl, trivial⟩
  · replace h := condT h
    conv => whnf
    refine splD (fun g259 => ?_) (fun g259 => ?_)
    · replace h := iteP h g259
      conv => whnf
      cases h
      exact Done.of [] [] rfl rfl ⟨⟨rfl, rfl⟩, ⟨rfl, trivial⟩, rfl, trivial⟩
    · replace h := iteN h g259
      conv => whnf
      refine splN (fun g260 => ?_) (fun g260 => ?_)
      · replace h := iteN h g260
        conv => whnf
        cases h
        exact Done.of [] [] rfl rfl ⟨⟨rfl, rfl⟩, ⟨rfl, trivial⟩, rfl, trivial⟩
      · replace h := iteP h g260
        conv => whnf
        obtain ⟨y261, e262, h⟩ := bind_ex h
        refine CallOk.of (laws_toOrdinal_ct e262) ?_
        conv => whnf
        obtain ⟨y263, e264, h⟩ := bind_ex h
        refine CallOk.of (laws_toOrdinal_ct e264) ?_
        conv => whnf
        refine Take.all (rfl) ?_
        conv => whnf
        refine Take.all (rfl) ?_
        conv => whnf
        obtain ⟨y265, e266, h⟩ := bind_ex h
        refine CallOk.of (impl_PowerOfOrdinals_ct e266) ?_
        conv => whnf
        refine spl (fun g267 => ?_) (fun g267 => ?_)
        · replace h := iteT h g267
          conv => whnf
          exact CutK.piece (laws_FnExactPowerOfOrdinals_p24_ct  h) [some 384, some 640, some 960, some 1169000, some 1169001, some 6336] [] ⟨⟨rfl, rfl⟩, ⟨rfl, ⟨rfl, ⟨rfl, rfl⟩, trivial⟩, ⟨rfl, ⟨rfl, rfl⟩, trivial⟩, ⟨rfl, ⟨rfl, rfl⟩, trivial⟩, ⟨rfl, rfl, rows_same⟩, ⟨rfl, rfl, rows_same⟩, ⟨rfl, rfl, rows_same⟩, trivial⟩, ⟨rfl, rfl⟩, rfl, ⟨rfl, rfl⟩, rfl, ⟨rfl, rfl⟩, rfl, trivial⟩
        · replace h := iteF h g267
          conv => whnf
          exact CutK.piece (laws_FnExactPowerOfOrdinals_p24_ct  h) [some 384, some 640, some 960, some 1169000, some 1169001, some 6336] [] ⟨⟨rfl, rfl⟩, ⟨rfl, ⟨rfl, ⟨rfl, rfl⟩, trivial⟩, ⟨rfl, ⟨rfl, rfl⟩, trivial⟩, ⟨rfl, ⟨rfl, rfl⟩, trivial⟩, ⟨rfl, rfl, rows_same⟩, ⟨rfl, rfl, rows_same⟩, ⟨rfl, rfl, rows_same⟩, trivial⟩, ⟨rfl, rfl⟩, rfl, ⟨rfl, rfl⟩, rfl, ⟨rfl, rfl⟩, rfl, trivial⟩
def laws_FnExactPowerOfOrdinals_p19 (k : Nat) (a1 : Rw) (a2 : Rw) (o174 : Int) (o175 : Rw) (o176 : Rw) (v180 : Bool) : Option Bool :=
  (cond v180 ((laws_heldOrdinal k o176 1).bind fun y270 => (laws_FnExactPowerOfOrdinals_p21 k a1 a2 o174 y270 o175 o176 true)) ((laws_heldOrdinal k o176 1).bind fun y268 => (laws_FnExactPowerOfOrdinals_p21 k a1 a2 o174 y268 o175 o176 false)))
set_option maxHeartbeats 4000000 in
set_option maxRecDepth 100000 in
theorem laws_FnExactPowerOfOrdinals_p19_ct {k : Nat} {a1 : Rw} {a2 : Rw} {o174 : Int} {o175 : Rw} {o176 : Rw} {v180 : Bool} {r : Bool} (h : laws_FnExactPowerOfOrdinals_p19 k a1 a2 o174 o175 o176 v180 = some r) : X prog 0 (tlF f4 19) (mk 119 [(2, .ptr 128 0), (3, .ptr 192 0), (6, .ptr 384 0), (7, .d (D.bool v180)), (10, .ptr 640 0), (13, .d (D.int .i64 o174))] [(128, .box 36 [.d (D.sl a1)]), (192, .box 36 [.d (D.sl a2)]), (384, .box 26 [.os 1159000 o175.length]), (640, .box 26 [.os 1159001 o176.length]), (1159000, .arr 104 true o175), (1159001, .arr 104 true o176)]) (finK prog f4 0 (.d (D.bool r)) (⟨[], []⟩)) := by
  rw [laws_FnExactPowerOfOrdinals_p19] at h
  cases v180
  · replace h := condF h
    conv => whnf
    refine Choice.old ?_
    conv => whnf
    refine Take.all (rfl) ?_
    conv => whnf
    obtain ⟨y268, e269, h⟩ := bind_ex h
    refine CallOk.of (laws_heldOrdinal_ct e269) ?_
    conv => whnf
    exact CutK.piece (laws_FnExactPowerOfOrdinals_p21_ct  h) [some 128, some 192, some 384, some 640, some 1159000, some 1159001] [] ⟨⟨rfl, rfl⟩, ⟨rfl, ⟨rfl, rfl, trivial⟩, ⟨rfl, rfl, trivial⟩, ⟨rfl, ⟨rfl, rfl⟩, trivial⟩, ⟨rfl, ⟨rfl, rfl⟩, trivial⟩, ⟨rfl, rfl, rows_same⟩, ⟨rfl, rfl, rows_same⟩, trivial⟩, ⟨rfl, rfl⟩, ⟨rfl, rfl⟩, ⟨rfl, rfl⟩, rfl, ⟨rfl, rfl⟩, rfl, rfl, trivial⟩
  · replace h := condT h
    conv => whnf
    refine Choice.old ?_
    conv => whnf
    refine Take.all (rfl) ?_
    conv => whnf
    obtain ⟨y270, e271, h⟩ := bind_ex h
    refine CallOk.of (laws_heldOrdinal_ct e271) ?_
    conv => whnf
    exact CutK.piece (laws_FnExactPowerOfOrdinals_p21_ct  h) [some 128, some 192, some 384, some 640, some 1159000, some 1159001] [] ⟨⟨rfl, rfl⟩, ⟨rfl, ⟨rfl, rfl, trivial⟩, ⟨rfl, rfl, trivial⟩, ⟨rfl, ⟨rfl, rfl⟩, trivial⟩, ⟨rfl, ⟨rfl, rfl⟩, trivial⟩, ⟨rfl, rfl, rows_same⟩, ⟨rfl, rfl, rows_same⟩, trivial⟩, ⟨rfl, rfl⟩, ⟨rfl, rfl⟩, ⟨rfl, rfl⟩, rfl, ⟨rfl, rfl⟩, rfl, rfl, trivial⟩
def laws_FnExactPowerOfOrdinals_p17 (k : Nat) (a1 : Rw) (a2 : Rw) (o156 : Rw) (o157 : Rw) (v170 : Bool) : Option Bool :=
  (cond v170 ((laws_markOrdinal k o157 1).bind fun y275 => (if y275.2.length = o157.length then (laws_FnExactPowerOfOrdinals_p19 k a1 a2 y275.1 o156 y275.2 true) else none)) ((laws_markOrdinal k o157 1).bind fun y272 => (if y272.2.length = o157.length then (laws_FnExactPowerOfOrdinals_p19 k a1 a2 y272.1 o156 y272.2 false) else none)))
set_option maxHeartbeats 4000000 in
set_option maxRecDepth 100000 in
theorem laws_FnExactPowerOfOrdinals_p17_ct {k : Nat} {a1 : Rw} {a2 : Rw} {o156 : Rw} {o157 : Rw} {v170 : Bool} {r : Bool} (h : laws_FnExactPowerOfOrdinals_p17 k a1 a2 o156 o157 v170 = some r) : X prog 0 (tlF f4 17) (mk 119 [(2, .ptr 128 0), (3, .ptr 192 0), (6, .ptr 384 0), (7, .d (D.bool v170)), (10, .ptr 640 0)] [(128, .box 36 [.d (D.sl a1)]), (192, .box 36 [.d (D.sl a2)]), (384, .box 26 [.os 1149000 o156.length]), (640, .box 26 [.os 1149001 o157.length]), (1149000, .arr 104 true o156), (1149001, .arr 104 true o157)]) (finK prog f4 0 (.d (D.bool r)) (⟨[], []⟩)) := by
  rw [laws_FnExactPowerOfOrdinals_p17] at h
  cases v170
  · replace h := condF h
    conv => whnf
    refine Choice.new ?_
    conv => whnf
    refine Req.of (rfl) ?_
    conv => whnf
    obtain ⟨y272, e273, h⟩ := bind_ex h
    refine MarkOk.of (laws_markOrdinal_ct e273) ?_
    conv => whnf
    obtain ⟨g274, h⟩ := req_ex h
    exact CutK.piece (laws_FnExactPowerOfOrdinals_p19_ct  h) [some 128, some 192, some 384, some 640, some 1149000, some 1149001] [] ⟨⟨rfl, rfl⟩, ⟨rfl, ⟨rfl, rfl, trivial⟩, ⟨rfl, rfl, trivial⟩, ⟨rfl, ⟨rfl, rfl⟩, trivial⟩, ⟨rfl, ⟨(by first | rfl | exact List.length_append.symm | (simp; done) | omega), rfl⟩, trivial⟩, ⟨rfl, rfl, rows_same⟩, ⟨rfl, rfl, rows_same⟩, trivial⟩, ⟨rfl, rfl⟩, ⟨rfl, rfl⟩, ⟨rfl, rfl⟩, rfl, ⟨rfl, rfl⟩, rfl, trivial⟩
  · replace h := condT h
    conv => whnf
    refine Choice.new ?_
    conv => whnf
    refine Req.of (rfl) ?_
    conv => whnf
    obtain ⟨y275, e276, h⟩ := bind_ex h
    refine MarkOk.of (laws_markOrdinal_ct e276) ?_
    conv => whnf
    obtain ⟨g277, h⟩ := req_ex h
    exact CutK.piece (laws_FnExactPowerOfOrdinals_p19_ct  h) [some 128, some 192, some 384, some 640, some 1149000, some 1149001] [] ⟨⟨rfl, rfl⟩, ⟨rfl, ⟨rfl, rfl, trivial⟩, ⟨rfl, rfl, trivial⟩, ⟨rfl, ⟨rfl, rfl⟩, trivial⟩, ⟨rfl, ⟨(by first | rfl | exact List.length_append.symm | (simp; done) | omega), rfl⟩, trivial⟩, ⟨rfl, rfl, rows_same⟩, ⟨rfl, rfl, rows_same⟩, trivial⟩, ⟨rfl, rfl⟩, ⟨rfl, rfl⟩, ⟨rfl, rfl⟩, rfl, ⟨rfl, rfl⟩, rfl, trivial⟩
def laws_FnExactPowerOfOrdinals_p16 (k : Nat) (a1 : Rw) (a2 : Rw) (o138 : Int) (o139 : Rw) (o140 : Rw) (v144 : Bool) (v148 : Bool) : Option Bool :=
  (cond v144 (cond v148 (if o138 < (0 : Int) then some false else ((laws_eqOrdinal k o140 o139).bind fun y291 => (if y291 = true then (laws_FnExactPowerOfOrdinals_p17 k a1 a2 o139 o140 true) else some false))) (if o138 < (0 : Int) then some false else ((laws_eqOrdinal k o140 o139).bind fun y287 => (if y287 = true then some false else some false)))) (cond v148 (if o138 < (0 : Int) then some false else ((laws_eqOrdinal k o140 o139).bind fun y283 => (if y283 = true then some false else some false))) (if o138 < (0 : Int) then some false else ((laws_eqOrdinal k o140 o139).bind fun y279 => (if y279 = true then (laws_FnExactPowerOfOrdinals_p17 k a1 a2 o139 o140 false) else some false)))))
set_option maxHeartbeats 4000000 in
set_option maxRecDepth 100000 in
theorem laws_FnExactPowerOfOrdinals_p16_ct {k : Nat} {a1 : Rw} {a2 : Rw} {o138 : Int} {o139 : Rw} {o140 : Rw} {v144 : Bool} {v148 : Bool} {r : Bool} (h : laws_FnExactPowerOfOrdinals_p16 k a1 a2 o138 o139 o140 v144 v148 = some r) : X prog 0 (tlF f4 16) (mk 119 [(2, .ptr 128 0), (3, .ptr 192 0), (6, .ptr 384 0), (7, .d (D.bool v144)), (10, .ptr 640 0), (11, .d (D.bool v148)), (12, .d (D.int .i64 o138))] [(128, .box 36 [.d (D.sl a1)]), (192, .box 36 [.d (D.sl a2)]), (384, .box 26 [.os 1144000 o139.length]), (640, .box 26 [.os 1144001 o140.length]), (1144000, .arr 104 true o139), (1144001, .arr 104 true o140)]) (finK prog f4 0 (.d (D.bool r)) (⟨[], []⟩)) := by
  rw [laws_FnExactPowerOfOrdinals_p16] at h
  cases v144
  · replace h := condF h
    cases v148
    · replace h := condF h
      conv => whnf
      refine splD (fun g278 => ?_) (fun g278 => ?_)
      · replace h := iteP h g278
        conv => whnf
        refine CutK.norm [2, 3, 6, 7, 10, 82] [128, 192, 384, 640, 1144000, 1144001] ?_
        conv => whnf
        cases h
        exact Done.of [] [] rfl rfl ⟨⟨rfl, rfl⟩, ⟨rfl, trivial⟩, rfl, trivial⟩
      · replace h := iteN h g278
        conv => whnf
        refine Take.all (rfl) ?_
        conv => whnf
        refine Take.all (rfl) ?_
        conv => whnf
        obtain ⟨y279, e280, h⟩ := bind_ex h
        refine CallOk.of (laws_eqOrdinal_ct e280) ?_
        conv => whnf
        refine spl (fun g281 => ?_) (fun g281 => ?_)
        · replace h := iteT h g281
          conv => whnf
          refine splF ?_
          conv => whnf
          refine CutK.norm [2, 3, 6, 7, 10, 82] [128, 192, 384, 640, 1144000, 1144001] ?_
          conv => whnf
          exact CutK.piece (laws_FnExactPowerOfOrdinals_p17_ct  h) [some 128, some 192, some 384, some 640, some 1144000, some 1144001] [] ⟨⟨rfl, rfl⟩, ⟨rfl, ⟨rfl, rfl, trivial⟩, ⟨rfl, rfl, trivial⟩, ⟨rfl, ⟨rfl, rfl⟩, trivial⟩, ⟨rfl, ⟨rfl, rfl⟩, trivial⟩, ⟨rfl, rfl, rows_same⟩, ⟨rfl, rfl, rows_same⟩, trivial⟩, ⟨rfl, rfl⟩, ⟨rfl, rfl⟩, ⟨rfl, rfl⟩, rfl, ⟨rfl, rfl⟩, trivial⟩
        · replace h := iteF h g281
          conv => whnf
          refine CutK.norm [2, 3, 6, 7, 10, 82] [128, 192, 384, 640, 1144000, 1144001] ?_
          conv => whnf
          cases h
          exact Done.of [] [] rfl rfl ⟨⟨rfl, rfl⟩, ⟨rfl, trivial⟩, rfl, trivial⟩
    · replace h := condT h
      conv => whnf
      refine splD (fun g282 => ?_) (fun g282 => ?_)
      · replace h := iteP h g282
        conv => whnf
        refine CutK.norm [2, 3, 6, 7, 10, 82] [128, 192, 384, 640, 1144000, 1144001] ?_
        conv => whnf
        cases h
        exact Done.of [] [] rfl rfl ⟨⟨rfl, rfl⟩, ⟨rfl, trivial⟩, rfl, trivial⟩
      · replace h := iteN h g282
        conv => whnf
        refine Take.all (rfl) ?_
        conv => whnf
        refine Take.all (rfl) ?_
        conv => whnf
        obtain ⟨y283, e284, h⟩ := bind_ex h
        refine CallOk.of (laws_eqOrdinal_ct e284) ?_
        conv => whnf
        refine spl (fun g285 => ?_) (fun g285 => ?_)
        · replace h := iteT h g285
          conv => whnf
          refine splT ?_
          conv => whnf
          refine CutK.norm [2, 3, 6, 7, 10, 82] [128, 192, 384, 640, 1144000, 1144001] ?_
          conv => whnf
          cases h
          exact Done.of [] [] rfl rfl ⟨⟨rfl, rfl⟩, ⟨rfl, trivial⟩, rfl, trivial⟩
        · replace h := iteF h g285
          conv => whnf
          refine CutK.norm [2, 3, 6, 7, 10, 82] [128, 192, 384, 640, 1144000, 1144001] ?_
          conv => whnf
          cases h
          exact Done.of [] [] rfl rfl ⟨⟨rfl, rfl⟩, ⟨rfl, trivial⟩, rfl, trivial⟩
  · replace h := condT h
    cases v148
    · replace h := condF h
      conv => whnf
      refine splD (fun g286 => ?_) (fun g286 => ?_)
      · replace h := iteP h g286
        conv => whnf
        refine CutK.norm [2, 3, 6, 7, 10, 82] [128, 192, 384, 640, 1144000, 1144001] ?_
        conv => whnf
        cases h
        exact Done.of [] [] rfl rfl ⟨⟨rfl, rfl⟩, ⟨rfl, trivial⟩, rfl, trivial⟩
      · replace h := iteN h g286
        conv => whnf
        refine Take.all (rfl) ?_
        conv => whnf
        refine Take.all (rfl) ?_
        conv => whnf
        obtain ⟨y287, e288, h⟩ := bind_ex h
        refine CallOk.of (laws_eqOrdinal_ct e288) ?_
        conv => whnf
        refine spl (fun g289 => ?_) (fun g289 => ?_)
        · replace h := iteT h g289
          conv => whnf
          refine splT ?_
          conv => whnf
          refine CutK.norm [2, 3, 6, 7, 10, 82] [128, 192, 384, 640, 1144000, 1144001] ?_
          conv => whnf
          cases h
          exact Done.of [] [] rfl rfl ⟨⟨rfl, rfl⟩, ⟨rfl, trivial⟩, rfl, trivial⟩
        · replace h := iteF h g289
          conv => whnf
          refine CutK.norm [2, 3, 6, 7, 10, 82] [128, 192, 384, 640, 1144000, 1144001] ?_
          conv => whnf
          cases h
          exact Done.of [] [] rfl rfl ⟨⟨rfl, rfl⟩, ⟨rfl, trivial⟩, rfl, trivial⟩
    · replace h := condT h
      conv => whnf
      refine splD (fun g290 => ?_) (fun g290 => ?_)
      · replace h := iteP h g290
        conv => whnf
        refine CutK.norm [2, 3, 6, 7, 10, 82] [128, 192, 384, 640, 1144000, 1144001] ?_
        conv => whnf
        cases h
        exact Done.of [] [] rfl rfl ⟨⟨rfl, rfl⟩, ⟨rfl, trivial⟩, rfl, trivial⟩
      · replace h := iteN h g290
        conv => whnf
        refine Take.all (rfl) ?_
        conv => whnf
        refine Take.all (rfl) ?_
        conv => whnf
        obtain ⟨y291, e292, h⟩ := bind_ex h
        refine CallOk.of (laws_eqOrdinal_ct e292) ?_
        conv => whnf
        refine spl (fun g293 => ?_) (fun g293 => ?_)
        · replace h := iteT h g293
          conv => whnf
          refine splF ?_
          conv => whnf
          refine CutK.norm [2, 3, 6, 7, 10, 82] [128, 192, 384, 640, 1144000, 1144001] ?_
          conv => whnf
          exact CutK.piece (laws_FnExactPowerOfOrdinals_p17_ct  h) [some 128, some 192, some 384, some 640, some 1144000, some 1144001] [] ⟨⟨rfl, rfl⟩, ⟨rfl, ⟨rfl, rfl, trivial⟩, ⟨rfl, rfl, trivial⟩, ⟨rfl, ⟨rfl, rfl⟩, trivial⟩, ⟨rfl, ⟨rfl, rfl⟩, trivial⟩, ⟨rfl, rfl, rows_same⟩, ⟨rfl, rfl, rows_same⟩, trivial⟩, ⟨rfl, rfl⟩, ⟨rfl, rfl⟩, ⟨rfl, rfl⟩, rfl, ⟨rfl, rfl⟩, trivial⟩
        · replace h := iteF h g293
          conv => whnf
          refine CutK.norm [2, 3, 6, 7, 10, 82] [128, 192, 384, 640, 1144000, 1144001] ?_
          conv => whnf
          cases h
          exact Done.of [] [] rfl rfl ⟨⟨rfl, rfl⟩, ⟨rfl, trivial⟩, rfl, trivial⟩
def laws_FnExactPowerOfOrdinals_p15 (k : Nat) (a1 : Rw) (a2 : Rw) (o120 : Int) (o121 : Rw) (o122 : Rw) (o123 : Rw) (v127 : Bool) (v131 : Bool) : Option Bool :=
  (cond v127 (cond v131 ((laws_markOrdinal k o122 o120).bind fun y303 => (if y303.2.length = o122.length then (laws_FnExactPowerOfOrdinals_p16 k a1 a2 y303.1 o121 o123 true true) else none)) ((laws_markOrdinal k o122 o120).bind fun y300 => (if y300.2.length = o122.length then (laws_FnExactPowerOfOrdinals_p16 k a1 a2 y300.1 o121 o123 false true) else none))) (cond v131 ((laws_markOrdinal k o122 o120).bind fun y297 => (if y297.2.length = o122.length then (laws_FnExactPowerOfOrdinals_p16 k a1 a2 y297.1 o121 o123 true false) else none)) ((laws_markOrdinal k o122 o120).bind fun y294 => (if y294.2.length = o122.length then (laws_FnExactPowerOfOrdinals_p16 k a1 a2 y294.1 o121 o123 false false) else none))))
set_option maxHeartbeats 4000000 in
set_option maxRecDepth 100000 in
theorem laws_FnExactPowerOfOrdinals_p15_ct {k : Nat} {a1 : Rw} {a2 : Rw} {o120 : Int} {o121 : Rw} {o122 : Rw} {o123 : Rw} {v127 : Bool} {v131 : Bool} {r : Bool} (h : laws_FnExactPowerOfOrdinals_p15 k a1 a2 o120 o121 o122 o123 v127 v131 = some r) : X prog 0 (tlF f4 15) (mk 119 [(2, .ptr 128 0), (3, .ptr 192 0), (6, .ptr 384 0), (7, .d (D.bool v131)), (9, .ptr 576 0), (10, .ptr 640 0), (11, .d (D.bool v127)), (12, .d (D.int .i64 o120))] [(128, .box 36 [.d (D.sl a1)]), (192, .box 36 [.d (D.sl a2)]), (384, .box 26 [.os 1139000 o121.length]), (576, .box 26 [.os 1139001 o122.length]), (640, .box 26 [.os 1139002 o123.length]), (1139000, .arr 104 true o121), (1139001, .arr 104 true o122), (1139002, .arr 104 true o123)]) (finK prog f4 0 (.d (D.bool r)) (⟨[], []⟩)) := by
  rw [laws_FnExactPowerOfOrdinals_p15] at h
  cases v127
  · replace h := condF h
    cases v131
    · replace h := condF h
      conv => whnf
      refine Choice.new ?_
      conv => whnf
      refine Req.of (rfl) ?_
      conv => whnf
      obtain ⟨y294, e295, h⟩ := bind_ex h
      refine MarkOk.of (laws_markOrdinal_ct e295) ?_
      conv => whnf
      obtain ⟨g296, h⟩ := req_ex h
      exact CutK.piece (laws_FnExactPowerOfOrdinals_p16_ct  h) [some 128, some 192, some 384, some 640, some 1139000, some 1139002] [] ⟨⟨rfl, rfl⟩, ⟨rfl, ⟨rfl, rfl, trivial⟩, ⟨rfl, rfl, trivial⟩, ⟨rfl, ⟨rfl, rfl⟩, trivial⟩, ⟨rfl, ⟨rfl, rfl⟩, trivial⟩, ⟨rfl, rfl, rows_same⟩, ⟨rfl, rfl, rows_same⟩, trivial⟩, ⟨rfl, rfl⟩, ⟨rfl, rfl⟩, ⟨rfl, rfl⟩, rfl, ⟨rfl, rfl⟩, rfl, rfl, trivial⟩
    · replace h := condT h
      conv => whnf
      refine Choice.new ?_
      conv => whnf
      refine Req.of (rfl) ?_
      conv => whnf
      obtain ⟨y297, e298, h⟩ := bind_ex h
      refine MarkOk.of (laws_markOrdinal_ct e298) ?_
      conv => whnf
      obtain ⟨g299, h⟩ := req_ex h
      exact CutK.piece (laws_FnExactPowerOfOrdinals_p16_ct  h) [some 128, some 192, some 384, some 640, some 1139000, some 1139002] [] ⟨⟨rfl, rfl⟩, ⟨rfl, ⟨rfl, rfl, trivial⟩, ⟨rfl, rfl, trivial⟩, ⟨rfl, ⟨rfl, rfl⟩, trivial⟩, ⟨rfl, ⟨rfl, rfl⟩, trivial⟩, ⟨rfl, rfl, rows_same⟩, ⟨rfl, rfl, rows_same⟩, trivial⟩, ⟨rfl, rfl⟩, ⟨rfl, rfl⟩, ⟨rfl, rfl⟩, rfl, ⟨rfl, rfl⟩, rfl, rfl, trivial⟩
  · replace h := condT h
    cases v131
    · replace h := condF h
      conv => whnf
      refine Choice.new ?_
      conv => whnf
      refine Req.of (rfl) ?_
      conv => whnf
      obtain ⟨y300, e301, h⟩ := bind_ex h
      refine MarkOk.of (laws_markOrdinal_ct e301) ?_
      conv => whnf
      obtain ⟨g302, h⟩ := req_ex h
      exact CutK.piece (laws_FnExactPowerOfOrdinals_p16_ct  h) [some 128, some 192, some 384, some 640, some 1139000, some 1139002] [] ⟨⟨rfl, rfl⟩, ⟨rfl, ⟨rfl, rfl, trivial⟩, ⟨rfl, rfl, trivial⟩, ⟨rfl, ⟨rfl, rfl⟩, trivial⟩, ⟨rfl, ⟨rfl, rfl⟩, trivial⟩, ⟨rfl, rfl, rows_same⟩, ⟨rfl, rfl, rows_same⟩, trivial⟩, ⟨rfl, rfl⟩, ⟨rfl, rfl⟩, ⟨rfl, rfl⟩, rfl, ⟨rfl, rfl⟩, rfl, rfl, trivial⟩
    · replace h := condT h
      conv => whnf
      refine Choice.new ?_
      conv => whnf
      refine Req.of (rfl) ?_
      conv => whnf
      obtain ⟨y303, e304, h⟩ := bind_ex h
      refine MarkOk.of (laws_markOrdinal_ct e304) ?_
      conv => whnf
      obtain ⟨g305, h⟩ := req_ex h
      exact CutK.piece (laws_FnExactPowerOfOrdinals_p16_ct  h) [some 128, some 192, some 384, some 640, some 1139000, some 1139002] [] ⟨⟨rfl, rfl⟩, ⟨rfl, ⟨rfl, rfl, trivial⟩, ⟨rfl, rfl, trivial⟩, ⟨rfl, ⟨rfl, rfl⟩, trivial⟩, ⟨rfl, ⟨rfl, rfl⟩, trivial⟩, ⟨rfl, rfl, rows_same⟩, ⟨rfl, rfl, rows_same⟩, trivial⟩, ⟨rfl, rfl⟩, ⟨rfl, rfl⟩, ⟨rfl, rfl⟩, rfl, ⟨rfl, rfl⟩, rfl, rfl, trivial⟩
def laws_FnExactPowerOfOrdinals_p13 (k : Nat) (a1 : Rw) (a2 : Rw) (o96 : Rw) (o97 : Rw) (o98 : Rw) (o99 : Rw) (v105 : Bool) (v111 : Bool) : Option Bool :=
  (cond v105 (cond v111 ((laws_markOrdinal k o97 1).bind fun y315 => (if y315.2.length = o97.length then (laws_FnExactPowerOfOrdinals_p15 k a1 a2 y315.1 o96 o98 o99 true true) else none)) ((laws_markOrdinal k o97 1).bind fun y312 => (if y312.2.length = o97.length then (laws_FnExactPowerOfOrdinals_p15 k a1 a2 y312.1 o96 o98 o99 false true) else none))) (cond v111 ((laws_markOrdinal k o97 1).bind fun y309 => (if y309.2.length = o97.length then (laws_FnExactPowerOfOrdinals_p15 k a1 a2 y309.1 o96 o98 o99 true false) else none)) ((laws_markOrdinal k o97 1).bind fun y306 => (if y306.2.length = o97.length then (laws_FnExactPowerOfOrdinals_p15 k a1 a2 y306.1 o96 o98 o99 false false) else none))))
set_option maxHeartbeats 4000000 in
set_option maxRecDepth 100000 in
theorem laws_FnExactPowerOfOrdinals_p13_ct {k : Nat} {a1 : Rw} {a2 : Rw} {o96 : Rw} {o97 : Rw} {o98 : Rw} {o99 : Rw} {v105 : Bool} {v111 : Bool} {r : Bool} (h : laws_FnExactPowerOfOrdinals_p13 k a1 a2 o96 o97 o98 o99 v105 v111 = some r) : X prog 0 (tlF f4 13) (mk 119 [(2, .ptr 128 0), (3, .ptr 192 0), (6, .ptr 384 0), (7, .d (D.bool v105)), (8, .ptr 512 0), (9, .ptr 576 0), (10, .ptr 640 0), (11, .d (D.bool v111))] [(128, .box 36 [.d (D.sl a1)]), (192, .box 36 [.d (D.sl a2)]), (384, .box 26 [.os 1129000 o96.length]), (512, .box 26 [.os 1129001 o97.length]), (576, .box 26 [.os 1129002 o98.length]), (640, .box 26 [.os 1129003 o99.length]), (1129000, .arr 104 true o96), (1129001, .arr 104 true o97), (1129002, .arr 104 true o98), (1129003, .arr 104 true o99)]) (finK prog f4 0 (.d (D.bool r)) (⟨[], []⟩)) := by
  rw [laws_FnExactPowerOfOrdinals_p13] at h
  cases v105
  · replace h := condF h
    cases v111
    · replace h := condF h
      conv => whnf
      refine Choice.new ?_
      conv => whnf
      refine Req.of (rfl) ?_
      conv => whnf
      obtain ⟨y306, e307, h⟩ := bind_ex h
      refine MarkOk.of (laws_markOrdinal_ct e307) ?_
      conv => whnf
      obtain ⟨g308, h⟩ := req_ex h
      exact CutK.piece (laws_FnExactPowerOfOrdinals_p15_ct  h) [some 128, some 192, some 384, some 576, some 640, some 1129000, some 1129002, some 1129003] [] ⟨⟨rfl, rfl⟩, ⟨rfl, ⟨rfl, rfl, trivial⟩, ⟨rfl, rfl, trivial⟩, ⟨rfl, ⟨rfl, rfl⟩, trivial⟩, ⟨rfl, ⟨rfl, rfl⟩, trivial⟩, ⟨rfl, ⟨rfl, rfl⟩, trivial⟩, ⟨rfl, rfl, rows_same⟩, ⟨rfl, rfl, rows_same⟩, ⟨rfl, rfl, rows_same⟩, trivial⟩, ⟨rfl, rfl⟩, ⟨rfl, rfl⟩, ⟨rfl, rfl⟩, rfl, ⟨rfl, rfl⟩, ⟨rfl, rfl⟩, rfl, rfl, trivial⟩
    · replace h := condT h
      conv => whnf
      refine Choice.new ?_
      conv => whnf
      refine Req.of (rfl) ?_
      conv => whnf
      obtain ⟨y309, e310, h⟩ := bind_ex h
      refine MarkOk.of (laws_markOrdinal_ct e310) ?_
      conv => whnf
      obtain ⟨g311, h⟩ := req_ex h
      exact CutK.piece (laws_FnExactPowerOfOrdinals_p15_ct  h) [some 128, some 192, some 384, some 576, some 640, some 1129000, some 1129002, some 1129003] [] ⟨⟨rfl, rfl⟩, ⟨rfl, ⟨rfl, rfl, trivial⟩, ⟨rfl, rfl, trivial⟩, ⟨rfl, ⟨rfl, rfl⟩, trivial⟩, ⟨rfl, ⟨rfl, rfl⟩, trivial⟩, ⟨rfl, ⟨rfl, rfl⟩, trivial⟩, ⟨rfl, rfl, rows_same⟩, ⟨rfl, rfl, rows_same⟩, ⟨rfl, rfl, rows_same⟩, trivial⟩, ⟨rfl, rfl⟩, ⟨rfl, rfl⟩, ⟨rfl, rfl⟩, rfl, ⟨rfl, rfl⟩, ⟨rfl, rfl⟩, rfl, rfl, trivial⟩
  · replace h := condT h
    cases v111
    · replace h := condF h
      conv => whnf
      refine Choice.new ?_
      conv => whnf
      refine Req.of (rfl) ?_
      conv => whnf
      obtain ⟨y312, e313, h⟩ := bind_ex h
      refine MarkOk.of (laws_markOrdinal_ct e313) ?_
      conv => whnf
      obtain ⟨g314, h⟩ := req_ex h
      exact CutK.piece (laws_FnExactPowerOfOrdinals_p15_ct  h) [some 128, some 192, some 384, some 576, some 640, some 1129000, some 1129002, some 1129003] [] ⟨⟨rfl, rfl⟩, ⟨rfl, ⟨rfl, rfl, trivial⟩, ⟨rfl, rfl, trivial⟩, ⟨rfl, ⟨rfl, rfl⟩, trivial⟩, ⟨rfl, ⟨rfl, rfl⟩, trivial⟩, ⟨rfl, ⟨rfl, rfl⟩, trivial⟩, ⟨rfl, rfl, rows_same⟩, ⟨rfl, rfl, rows_same⟩, ⟨rfl, rfl, rows_same⟩, trivial⟩, ⟨rfl, rfl⟩, ⟨rfl, rfl⟩, ⟨rfl, rfl⟩, rfl, ⟨rfl, rfl⟩, ⟨rfl, rfl⟩, rfl, rfl, trivial⟩
    · replace h := condT h
      conv => whnf
      refine Choice.new ?_
      conv => whnf
      refine Req.of (rfl) ?_
      conv => whnf
      obtain ⟨y315, e316, h⟩ := bind_ex h
      refine MarkOk.of (laws_markOrdinal_ct e316) ?_
      conv => whnf
      obtain ⟨g317, h⟩ := req_ex h
      exact CutK.piece (laws_FnExactPowerOfOrdinals_p15_ct  h) [some 128, some 192, some 384, some 576, some 640, some 1129000, some 1129002, some 1129003] [] ⟨⟨rfl, rfl⟩, ⟨rfl, ⟨rfl, rfl, trivial⟩, ⟨rfl, rfl, trivial⟩, ⟨rfl, ⟨rfl, rfl⟩, trivial⟩, ⟨rfl, ⟨rfl, rfl⟩, trivial⟩, ⟨rfl, ⟨rfl, rfl⟩, trivial⟩, ⟨rfl, rfl, rows_same⟩, ⟨rfl, rfl, rows_same⟩, ⟨rfl, rfl, rows_same⟩, trivial⟩, ⟨rfl, rfl⟩, ⟨rfl, rfl⟩, ⟨rfl, rfl⟩, rfl, ⟨rfl, rfl⟩, ⟨rfl, rfl⟩, rfl, rfl, trivial⟩
def laws_FnExactPowerOfOrdinals_p12 (k : Nat) (a1 : Rw) (a2 : Rw) (o70 : Rw) (o71 : Rw) (o72 : Rw) (o73 : Rw) (v79 : Bool) (v85 : Bool) : Option Bool :=
  (cond v79 (cond v85 ((laws_toOrdinal k a2).bind fun y333 => ((laws_eqOrdinal k o72 y333).bind fun y335 => (if y335 = true then (laws_FnExactPowerOfOrdinals_p13 k a1 a2 o70 o71 o72 o73 true true) else some false))) ((laws_toOrdinal k a2).bind fun y328 => ((laws_eqOrdinal k o72 y328).bind fun y330 => (if y330 = true then (laws_FnExactPowerOfOrdinals_p13 k a1 a2 o70 o71 o72 o73 false true) else some false)))) (cond v85 ((laws_toOrdinal k a2).bind fun y323 => ((laws_eqOrdinal k o72 y323).bind fun y325 => (if y325 = true then (laws_FnExactPowerOfOrdinals_p13 k a1 a2 o70 o71 o72 o73 true false) else some false))) ((laws_toOrdinal k a2).bind fun y318 => ((laws_eqOrdinal k o72 y318).bind fun y320 => (if y320 = true then (laws_FnExactPowerOfOrdinals_p13 k a1 a2 o70 o71 o72 o73 false false) else some false)))))
set_option maxHeartbeats 4000000 in
set_option maxRecDepth 100000 in
theorem laws_FnExactPowerOfOrdinals_p12_ct {k : Nat} {a1 : Rw} {a2 : Rw} {o70 : Rw} {o71 : Rw} {o72 : Rw} {o73 : Rw} {v79 : Bool} {v85 : Bool} {r : Bool} (h : laws_FnExactPowerOfOrdinals_p12 k a1 a2 o70 o71 o72 o73 v79 v85 = some r) : X prog 0 (tlF f4 12) (mk 119 [(2, .ptr 128 0), (3, .ptr 192 0), (6, .ptr 384 0), (7, .d (D.bool v85)), (8, .ptr 512 0), (9, .ptr 576 0), (10, .ptr 640 0), (11, .d (D.bool v79))] [(128, .box 36 [.d (D.sl a1)]), (192, .box 36 [.d (D.sl a2)]), (384, .box 26 [.os 1124000 o70.length]), (512, .box 26 [.os 1124001 o71.length]), (576, .box 26 [.os 1124002 o72.length]), (640, .box 26 [.os 1124003 o73.length]), (1124000, .arr 104 true o70), (1124001, .arr 104 true o71), (1124002, .arr 104 true o72), (1124003, .arr 104 true o73)]) (finK prog f4 0 (.d (D.bool r)) (⟨[], []⟩)) := by
  rw [laws_FnExactPowerOfOrdinals_p12] at h
  cases v79
  · replace h := condF h
    cases v85
    · replace h := condF h
      conv => whnf
      obtain ⟨y318, e319, h⟩ := bind_ex h
      refine CallOk.of (laws_toOrdinal_ct e319) ?_
      conv => whnf
      refine Take.all (rfl) ?_
      conv => whnf
      refine Take.all (rfl) ?_
      conv => whnf
      obtain ⟨y320, e321, h⟩ := bind_ex h
      refine CallOk.of (laws_eqOrdinal_ct e321) ?_
      conv => whnf
      refine spl (fun g322 => ?_) (fun g322 => ?_)
      · replace h := iteT h g322
        conv => whnf
        refine CutK.norm [2, 3, 6, 7, 8, 9, 10, 11, 63] [128, 192, 384, 512, 576, 640, 1124000, 1124001, 1124002, 1124003] ?_
        conv => whnf
        exact CutK.piece (laws_FnExactPowerOfOrdinals_p13_ct  h) [some 128, some 192, some 384, some 512, some 576, some 640, some 1124000, some 1124001, some 1124002, some 1124003] [] ⟨⟨rfl, rfl⟩, ⟨rfl, ⟨rfl, rfl, trivial⟩, ⟨rfl, rfl, trivial⟩, ⟨rfl, ⟨rfl, rfl⟩, trivial⟩, ⟨rfl, ⟨rfl, rfl⟩, trivial⟩, ⟨rfl, ⟨rfl, rfl⟩, trivial⟩, ⟨rfl, ⟨rfl, rfl⟩, trivial⟩, ⟨rfl, rfl, rows_same⟩, ⟨rfl, rfl, rows_same⟩, ⟨rfl, rfl, rows_same⟩, ⟨rfl, rfl, rows_same⟩, trivial⟩, ⟨rfl, rfl⟩, ⟨rfl, rfl⟩, ⟨rfl, rfl⟩, rfl, ⟨rfl, rfl⟩, ⟨rfl, rfl⟩, ⟨rfl, rfl⟩, rfl, trivial⟩
      · replace h := iteF h g322
        conv => whnf
        refine CutK.norm [2, 3, 6, 7, 8, 9, 10, 11, 63] [128, 192, 384, 512, 576, 640, 1124000, 1124001, 1124002, 1124003] ?_
        conv => whnf
        cases h
        exact Done.of [] [] rfl rfl ⟨⟨rfl, rfl⟩, ⟨rfl, trivial⟩, rfl, trivial⟩
    · replace h := condT h
      conv => whnf
      obtain ⟨y323, e324, h⟩ := bind_ex h
      refine CallOk.of (laws_toOrdinal_ct e324) ?_
      conv => whnf
      refine Take.all (rfl) ?_
      conv => whnf
      refine Take.all (rfl) ?_
      conv => whnf
      obtain ⟨y325, e326, h⟩ := bind_ex h
      refine CallOk.of (laws_eqOrdinal_ct e326) ?_
      conv => whnf
      refine spl (fun g327 => ?_) (fun g327 => ?_)
      · replace h := iteT h g327
        conv => whnf
        refine CutK.norm [2, 3, 6, 7, 8, 9, 10, 11, 63] [128, 192, 384, 512, 576, 640, 1124000, 1124001, 1124002, 1124003] ?_
        conv => whnf
        exact CutK.piece (laws_FnExactPowerOfOrdinals_p13_ct  h) [some 128, some 192, some 384, some 512, some 576, some 640, some 1124000, some 1124001, some 1124002, some 1124003] [] ⟨⟨rfl, rfl⟩, ⟨rfl, ⟨rfl, rfl, trivial⟩, ⟨rfl, rfl, trivial⟩, ⟨rfl, ⟨rfl, rfl⟩, trivial⟩, ⟨rfl, ⟨rfl, rfl⟩, trivial⟩, ⟨rfl, ⟨rfl, rfl⟩, trivial⟩, ⟨rfl, ⟨rfl, rfl⟩, trivial⟩, ⟨rfl, rfl, rows_same⟩, ⟨rfl, rfl, rows_same⟩, ⟨rfl, rfl, rows_same⟩, ⟨rfl, rfl, rows_same⟩, trivial⟩, ⟨rfl, rfl⟩, ⟨rfl, rfl⟩, ⟨rfl, rfl⟩, rfl, ⟨rfl, rfl⟩, ⟨rfl, rfl⟩, ⟨rfl, rfl⟩, rfl, trivial⟩
      · replace h := iteF h g327
        conv => whnf
        refine CutK.norm [2, 3, 6, 7, 8, 9, 10, 11, 63] [128, 192, 384, 512, 576, 640, 1124000, 1124001, 1124002, 1124003] ?_
        conv => whnf
        cases h
        exact Done.of [] [] rfl rfl ⟨⟨rfl, rfl⟩, ⟨rfl, trivial⟩, rfl, trivial⟩
  · replace h := condT h
    cases v85
    · replace h := condF h
      conv => whnf
      obtain ⟨y328, e329, h⟩ := bind_ex h
      refine CallOk.of (laws_toOrdinal_ct e329) ?_
      conv => whnf
      refine Take.all (rfl) ?_
      conv => whnf
      refine Take.all (rfl) ?_
      conv => whnf
      obtain ⟨y330, e331, h⟩ := bind_ex h
      refine CallOk.of (laws_eqOrdinal_ct e331) ?_
      conv => whnf
      refine spl (fun g332 => ?_) (fun g332 => ?_)
      · replace h := iteT h g332
        conv => whnf
        refine CutK.norm [2, 3, 6, 7, 8, 9, 10, 11, 63] [128, 192, 384, 512, 576, 640, 1124000, 1124001, 1124002, 1124003] ?_
        conv => whnf
        exact CutK.piece (laws_FnExactPowerOfOrdinals_p13_ct  h) [some 128, some 192, some 384, some 512, some 576, some 640, some 1124000, some 1124001, some 1124002, some 1124003] [] ⟨⟨rfl, rfl⟩, ⟨rfl, ⟨rfl, rfl, trivial⟩, ⟨rfl, rfl, trivial⟩, ⟨rfl, ⟨rfl, rfl⟩, trivial⟩, ⟨rfl, ⟨rfl, rfl⟩, trivial⟩, ⟨rfl, ⟨rfl, rfl⟩, trivial⟩, ⟨rfl, ⟨rfl, rfl⟩, trivial⟩, ⟨rfl, rfl, rows_same⟩, ⟨rfl, rfl, rows_same⟩, ⟨rfl, rfl, rows_same⟩, ⟨rfl, rfl, rows_same⟩, trivial⟩, ⟨rfl, rfl⟩, ⟨rfl, rfl⟩, ⟨rfl, rfl⟩, rfl, ⟨rfl, rfl⟩, ⟨rfl, rfl⟩, ⟨rfl, rfl⟩, rfl, trivial⟩
      · replace h := iteF h g332
        conv => whnf
        refine CutK.norm [2, 3, 6, 7, 8, 9, 10, 11, 63] [128, 192, 384, 512, 576, 640, 1124000, 1124001, 1124002, 1124003] ?_
        conv => whnf
        cases h
        exact Done.of [] [] rfl rfl ⟨⟨rfl, rfl⟩, ⟨rfl, trivial⟩, rfl, trivial⟩
    · replace h := condT h
      conv => whnf
      obtain ⟨y333, e334, h⟩ := bind_ex h
      refine CallOk.of (laws_toOrdinal_ct e334) ?_
      conv => whnf
      refine Take.all (rfl) ?_
      conv => whnf
      refine Take.all (rfl) ?_
      conv => whnf
      obtain ⟨y335, e336, h⟩ := bind_ex h
      refine CallOk.of (laws_eqOrdinal_ct e336) ?_
      conv => whnf
      refine spl (fun g337 => ?_) (fun g337 => ?_)
      · replace h := iteT h g337
        conv => whnf
        refine CutK.norm [2, 3, 6, 7, 8, 9, 10, 11, 63] [128, 192, 384, 512, 576, 640, 1124000, 1124001, 1124002, 1124003] ?_
        conv => whnf
        exact CutK.piece (laws_FnExactPowerOfOrdinals_p13_ct  h) [some 128, some 192, some 384, some 512, some 576, some 640, some 1124000, some 1124001, some 1124002, some 1124003] [] ⟨⟨rfl, rfl⟩, ⟨rfl, ⟨rfl, rfl, trivial⟩, ⟨rfl, rfl, trivial⟩, ⟨rfl, ⟨rfl, rfl⟩, trivial⟩, ⟨rfl, ⟨rfl, rfl⟩, trivial⟩, ⟨rfl, ⟨rfl, rfl⟩, trivial⟩, ⟨rfl, ⟨rfl, rfl⟩, trivial⟩, ⟨rfl, rfl, rows_same⟩, ⟨rfl, rfl, rows_same⟩, ⟨rfl, rfl, rows_same⟩, ⟨rfl, rfl, rows_same⟩, trivial⟩, ⟨rfl, rfl⟩, ⟨rfl, rfl⟩, ⟨rfl, rfl⟩, rfl, ⟨rfl, rfl⟩, ⟨rfl, rfl⟩, ⟨rfl, rfl⟩, rfl, trivial⟩
      · replace h := iteF h g337
        conv => whnf
        refine CutK.norm [2, 3, 6, 7, 8, 9, 10, 11, 63] [128, 192, 384, 512, 576, 640, 1124000, 1124001, 1124002, 1124003] ?_
        conv => whnf
        cases h
        exact Done.of [] [] rfl rfl ⟨⟨rfl, rfl⟩, ⟨rfl, trivial⟩, rfl, trivial⟩
def laws_FnExactPowerOfOrdinals_p11 (k : Nat) (a1 : Rw) (a2 : Rw) (o50 : Rw) (o51 : Rw) (o52 : Rw) (o53 : Rw) (v63 : Bool) (v64 : Bool) : Option Bool :=
  (cond v63 (cond v64 ((laws_toOrdinal k a1).bind fun y353 => ((laws_eqOrdinal k o51 y353).bind fun y355 => (if y355 = true then (laws_FnExactPowerOfOrdinals_p12 k a1 a2 o50 o51 o52 o53 true true) else some false))) ((laws_toOrdinal k a1).bind fun y348 => ((laws_eqOrdinal k o51 y348).bind fun y350 => (if y350 = true then (laws_FnExactPowerOfOrdinals_p12 k a1 a2 o50 o51 o52 o53 false true) else some false)))) (cond v64 ((laws_toOrdinal k a1).bind fun y343 => ((laws_eqOrdinal k o51 y343).bind fun y345 => (if y345 = true then (laws_FnExactPowerOfOrdinals_p12 k a1 a2 o50 o51 o52 o53 true false) else some false))) ((laws_toOrdinal k a1).bind fun y338 => ((laws_eqOrdinal k o51 y338).bind fun y340 => (if y340 = true then (laws_FnExactPowerOfOrdinals_p12 k a1 a2 o50 o51 o52 o53 false false) else some false)))))
set_option maxHeartbeats 4000000 in
set_option maxRecDepth 100000 in
theorem laws_FnExactPowerOfOrdinals_p11_ct {k : Nat} {a1 : Rw} {a2 : Rw} {o50 : Rw} {o51 : Rw} {o52 : Rw} {o53 : Rw} {v63 : Bool} {v64 : Bool} {r : Bool} (h : laws_FnExactPowerOfOrdinals_p11 k a1 a2 o50 o51 o52 o53 v63 v64 = some r) : X prog 0 (tlF f4 11) (mk 119 [(2, .ptr 128 0), (3, .ptr 192 0), (6, .ptr 384 0), (7, .d (D.bool v63)), (8, .ptr 512 0), (9, .ptr 576 0), (10, .ptr 640 0), (11, .d (D.bool v64))] [(128, .box 36 [.d (D.sl a1)]), (192, .box 36 [.d (D.sl a2)]), (384, .box 26 [.os 1119000 o50.length]), (512, .box 26 [.os 1119001 o51.length]), (576, .box 26 [.os 1119002 o52.length]), (640, .box 26 [.os 1119003 o53.length]), (1119000, .arr 104 true o50), (1119001, .arr 104 true o51), (1119002, .arr 104 true o52), (1119003, .arr 104 true o53)]) (finK prog f4 0 (.d (D.bool r)) (⟨[], []⟩)) := by
  rw [laws_FnExactPowerOfOrdinals_p11] at h
  cases v63
  · replace h := condF h
    cases v64
    · replace h := condF h
      conv => whnf
      obtain ⟨y338, e339, h⟩ := bind_ex h
      refine CallOk.of (laws_toOrdinal_ct e339) ?_
      conv => whnf
      refine Take.all (rfl) ?_
      conv => whnf
      refine Take.all (rfl) ?_
      conv => whnf
      obtain ⟨y340, e341, h⟩ := bind_ex h
      refine CallOk.of (laws_eqOrdinal_ct e341) ?_
      conv => whnf
      refine spl (fun g342 => ?_) (fun g342 => ?_)
      · replace h := iteT h g342
        conv => whnf
        refine CutK.norm [2, 3, 6, 7, 8, 9, 10, 11, 58] [128, 192, 384, 512, 576, 640, 1119000, 1119001, 1119002, 1119003] ?_
        conv => whnf
        exact CutK.piece (laws_FnExactPowerOfOrdinals_p12_ct  h) [some 128, some 192, some 384, some 512, some 576, some 640, some 1119000, some 1119001, some 1119002, some 1119003] [] ⟨⟨rfl, rfl⟩, ⟨rfl, ⟨rfl, rfl, trivial⟩, ⟨rfl, rfl, trivial⟩, ⟨rfl, ⟨rfl, rfl⟩, trivial⟩, ⟨rfl, ⟨rfl, rfl⟩, trivial⟩, ⟨rfl, ⟨rfl, rfl⟩, trivial⟩, ⟨rfl, ⟨rfl, rfl⟩, trivial⟩, ⟨rfl, rfl, rows_same⟩, ⟨rfl, rfl, rows_same⟩, ⟨rfl, rfl, rows_same⟩, ⟨rfl, rfl, rows_same⟩, trivial⟩, ⟨rfl, rfl⟩, ⟨rfl, rfl⟩, ⟨rfl, rfl⟩, rfl, ⟨rfl, rfl⟩, ⟨rfl, rfl⟩, ⟨rfl, rfl⟩, rfl, trivial⟩
      · replace h := iteF h g342
        conv => whnf
        refine CutK.norm [2, 3, 6, 7, 8, 9, 10, 11, 58] [128, 192, 384, 512, 576, 640, 1119000, 1119001, 1119002, 1119003] ?_
        conv => whnf
        cases h
        exact Done.of [] [] rfl rfl ⟨⟨rfl, rfl⟩, ⟨rfl, trivial⟩, rfl, trivial⟩
    · replace h := condT h
      conv => whnf
      obtain ⟨y343, e344, h⟩ := bind_ex h
      refine CallOk.of (laws_toOrdinal_ct e344) ?_
      conv => whnf
      refine Take.all (rfl) ?_
      conv => whnf
      refine Take.all (rfl) ?_
      conv => whnf
      obtain ⟨y345, e346, h⟩ := bind_ex h
      refine CallOk.of (laws_eqOrdinal_ct e346) ?_
      conv => whnf
      refine spl (fun g347 => ?_) (fun g347 => ?_)
      · replace h := iteT h g347
        conv => whnf
        refine CutK.norm [2, 3, 6, 7, 8, 9, 10, 11, 58] [128, 192, 384, 512, 576, 640, 1119000, 1119001, 1119002, 1119003] ?_
        conv => whnf
        exact CutK.piece (laws_FnExactPowerOfOrdinals_p12_ct  h) [some 128, some 192, some 384, some 512, some 576, some 640, some 1119000, some 1119001, some 1119002, some 1119003] [] ⟨⟨rfl, rfl⟩, ⟨rfl, ⟨rfl, rfl, trivial⟩, ⟨rfl, rfl, trivial⟩, ⟨rfl, ⟨rfl, rfl⟩, trivial⟩, ⟨rfl, ⟨rfl, rfl⟩, trivial⟩, ⟨rfl, ⟨rfl, rfl⟩, trivial⟩, ⟨rfl, ⟨rfl, rfl⟩, trivial⟩, ⟨rfl, rfl, rows_same⟩, ⟨rfl, rfl, rows_same⟩, ⟨rfl, rfl, rows_same⟩, ⟨rfl, rfl, rows_same⟩, trivial⟩, ⟨rfl, rfl⟩, ⟨rfl, rfl⟩, ⟨rfl, rfl⟩, rfl, ⟨rfl, rfl⟩, ⟨rfl, rfl⟩, ⟨rfl, rfl⟩, rfl, trivial⟩
      · replace h := iteF h g347
        conv => whnf
        refine CutK.norm [2, 3, 6, 7, 8, 9, 10, 11, 58] [128, 192, 384, 512, 576, 640, 1119000, 1119001, 1119002, 1119003] ?_
        conv => whnf
        cases h
        exact Done.of [] [] rfl rfl ⟨⟨rfl, rfl⟩, ⟨rfl, trivial⟩, rfl, trivial⟩
  · replace h := condT h
    cases v64
    · replace h := condF h
      conv => whnf
      obtain ⟨y348, e349, h⟩ := bind_ex h
      refine CallOk.of (laws_toOrdinal_ct e349) ?_
      conv => whnf
      refine Take.all (rfl) ?_
      conv => whnf
      refine Take.all (rfl) ?_
      conv => whnf
      obtain ⟨y350, e351, h⟩ := bind_ex h
      refine CallOk.of (laws_eqOrdinal_ct e351) ?_
      conv => whnf
      refine spl (fun g352 => ?_) (fun g352 => ?_)
      · replace h := iteT h g352
        conv => whnf
        refine CutK.norm [2, 3, 6, 7, 8, 9, 10, 11, 58] [128, 192, 384, 512, 576, 640, 1119000, 1119001, 1119002, 1119003] ?_
        conv => whnf
        exact CutK.piece (laws_FnExactPowerOfOrdinals_p12_ct  h) [some 128, some 192, some 384, some 512, some 576, some 640, some 1119000, some 1119001, some 1119002, some 1119003] [] ⟨⟨rfl, rfl⟩, ⟨rfl, ⟨rfl, rfl, trivial⟩, ⟨rfl, rfl, trivial⟩, ⟨rfl, ⟨rfl, rfl⟩, trivial⟩, ⟨rfl, ⟨rfl, rfl⟩, trivial⟩, ⟨rfl, ⟨rfl, rfl⟩, trivial⟩, ⟨rfl, ⟨rfl, rfl⟩, trivial⟩, ⟨rfl, rfl, rows_same⟩, ⟨rfl, rfl, rows_same⟩, ⟨rfl, rfl, rows_same⟩, ⟨rfl, rfl, rows_same⟩, trivial⟩, ⟨rfl, rfl⟩, ⟨rfl, rfl⟩, ⟨rfl, rfl⟩, rfl, ⟨rfl, rfl⟩, ⟨rfl, rfl⟩, ⟨rfl, rfl⟩, rfl, trivial⟩
      · replace h := iteF h g352
        conv => whnf
        refine CutK.norm [2, 3, 6, 7, 8, 9, 10, 11, 58] [128, 192, 384, 512, 576, 640, 1119000, 1119001, 1119002, 1119003] ?_
        conv => whnf
        cases h
        exact Done.of [] [] rfl rfl ⟨⟨rfl, rfl⟩, ⟨rfl, trivial⟩, rfl, trivial⟩
    · replace h := condT h
      conv => whnf
      obtain ⟨y353, e354, h⟩ := bind_ex h
      refine CallOk.of (laws_toOrdinal_ct e354) ?_
      conv => whnf
      refine Take.all (rfl) ?_
      conv => whnf
      refine Take.all (rfl) ?_
      conv => whnf
      obtain ⟨y355, e356, h⟩ := bind_ex h
      refine CallOk.of (laws_eqOrdinal_ct e356) ?_
      conv => whnf
      refine spl (fun g357 => ?_) (fun g357 => ?_)
      · replace h := iteT h g357
        conv => whnf
        refine CutK.norm [2, 3, 6, 7, 8, 9, 10, 11, 58] [128, 192, 384, 512, 576, 640, 1119000, 1119001, 1119002, 1119003] ?_
        conv => whnf
        exact CutK.piece (laws_FnExactPowerOfOrdinals_p12_ct  h) [some 128, some 192, some 384, some 512, some 576, some 640, some 1119000, some 1119001, some 1119002, some 1119003] [] ⟨⟨rfl, rfl⟩, ⟨rfl, ⟨rfl, rfl, trivial⟩, ⟨rfl, rfl, trivial⟩, ⟨rfl, ⟨rfl, rfl⟩, trivial⟩, ⟨rfl, ⟨rfl, rfl⟩, trivial⟩, ⟨rfl, ⟨rfl, rfl⟩, trivial⟩, ⟨rfl, ⟨rfl, rfl⟩, trivial⟩, ⟨rfl, rfl, rows_same⟩, ⟨rfl, rfl, rows_same⟩, ⟨rfl, rfl, rows_same⟩, ⟨rfl, rfl, rows_same⟩, trivial⟩, ⟨rfl, rfl⟩, ⟨rfl, rfl⟩, ⟨rfl, rfl⟩, rfl, ⟨rfl, rfl⟩, ⟨rfl, rfl⟩, ⟨rfl, rfl⟩, rfl, trivial⟩
      · replace h := iteF h g357
        conv => whnf
        refine CutK.norm [2, 3, 6, 7, 8, 9, 10, 11, 58] [128, 192, 384, 512, 576, 640, 1119000, 1119001, 1119002, 1119003] ?_
        conv => whnf
        cases h
        exact Done.of [] [] rfl rfl ⟨⟨rfl, rfl⟩, ⟨rfl, trivial⟩, rfl, trivial⟩
def laws_FnExactPowerOfOrdinals_p10 (k : Nat) (a1 : Rw) (a2 : Rw) (o38 : Rw) (o39 : Rw) (o40 : Rw) (o41 : Rw) (v42 : Bool) (v46 : Bool) : Option Bool :=
  (cond v42 (cond v46 ((laws_eqOrdinal k o41 o38).bind fun y367 => (if y367 = true then (laws_FnExactPowerOfOrdinals_p11 k a1 a2 o38 o39 o40 o41 true true) else some false)) ((laws_eqOrdinal k o41 o38).bind fun y364 => (if y364 = true then some false else some false))) (cond v46 ((laws_eqOrdinal k o41 o38).bind fun y361 => (if y361 = true then some false else some false)) ((laws_eqOrdinal k o41 o38).bind fun y358 => (if y358 = true then (laws_FnExactPowerOfOrdinals_p11 k a1 a2 o38 o39 o40 o41 false false) else some false))))
set_option maxHeartbeats 4000000 in
set_option maxRecDepth 100000 in
theorem laws_FnExactPowerOfOrdinals_p10_ct {k : Nat} {a1 : Rw} {a2 : Rw} {o38 : Rw} {o39 : Rw} {o40 : Rw} {o41 : Rw} {v42 : Bool} {v46 : Bool} {r : Bool} (h : laws_FnExactPowerOfOrdinals_p10 k a1 a2 o38 o39 o40 o41 v42 v46 = some r) : X prog 0 (tlF f4 10) (mk 119 [(2, .ptr 128 0), (3, .ptr 192 0), (6, .ptr 384 0), (7, .d (D.bool v46)), (8, .ptr 512 0), (9, .ptr 576 0), (10, .ptr 640 0), (11, .d (D.bool v42))] [(128, .box 36 [.d (D.sl a1)]), (192, .box 36 [.d (D.sl a2)]), (384, .box 26 [.os 1114000 o38.length]), (512, .box 26 [.os 1114001 o39.length]), (576, .box 26 [.os 1114002 o40.length]), (640, .box 26 [.os 1114003 o41.length]), (1114000, .arr 104 true o38), (1114001, .arr 104 true o39), (1114002, .arr 104 true o40), (1114003, .arr 104 true o41)]) (finK prog f4 0 (.d (D.bool r)) (⟨[], []⟩)) := by
  rw [laws_FnExactPowerOfOrdinals_p10] at h
  cases v42
  · replace h := condF h
    cases v46
    · replace h := condF h
      conv => whnf
      refine Take.all (rfl) ?_
      conv => whnf
      refine Take.all (rfl) ?_
      conv => whnf
      obtain ⟨y358, e359, h⟩ := bind_ex h
      refine CallOk.of (laws_eqOrdinal_ct e359) ?_
      conv => whnf
      refine spl (fun g360 => ?_) (fun g360 => ?_)
      · replace h := iteT h g360
        conv => whnf
        refine splF ?_
        conv => whnf
        refine CutK.norm [2, 3, 6, 7, 8, 9, 10, 11, 53] [128, 192, 384, 512, 576, 640, 1114000, 1114001, 1114002, 1114003] ?_
        conv => whnf
        exact CutK.piece (laws_FnExactPowerOfOrdinals_p11_ct  h) [some 128, some 192, some 384, some 512, some 576, some 640, some 1114000, some 1114001, some 1114002, some 1114003] [] ⟨⟨rfl, rfl⟩, ⟨rfl, ⟨rfl, rfl, trivial⟩, ⟨rfl, rfl, trivial⟩, ⟨rfl, ⟨rfl, rfl⟩, trivial⟩, ⟨rfl, ⟨rfl, rfl⟩, trivial⟩, ⟨rfl, ⟨rfl, rfl⟩, trivial⟩, ⟨rfl, ⟨rfl, rfl⟩, trivial⟩, ⟨rfl, rfl, rows_same⟩, ⟨rfl, rfl, rows_same⟩, ⟨rfl, rfl, rows_same⟩, ⟨rfl, rfl, rows_same⟩, trivial⟩, ⟨rfl, rfl⟩, ⟨rfl, rfl⟩, ⟨rfl, rfl⟩, rfl, ⟨rfl, rfl⟩, ⟨rfl, rfl⟩, ⟨rfl, rfl⟩, rfl, trivial⟩
      · replace h := iteF h g360
        conv => whnf
        refine CutK.norm [2, 3, 6, 7, 8, 9, 10, 11, 53] [128, 192, 384, 512, 576, 640, 1114000, 1114001, 1114002, 1114003] ?_
        conv => whnf
        cases h
        exact Done.of [] [] rfl rfl ⟨⟨rfl, rfl⟩, ⟨rfl, trivial⟩, rfl, trivial⟩
    · replace h := condT h
      conv => whnf
      refine Take.all (rfl) ?_
      conv => whnf
      refine Take.all (rfl) ?_
      conv => whnf
      obtain ⟨y361, e362, h⟩ := bind_ex h
      refine CallOk.of (laws_eqOrdinal_ct e362) ?_
      conv => whnf
      refine spl (fun g363 => ?_) (fun g363 => ?_)
      · replace h := iteT h g363
        conv => whnf
        refine splT ?_
        conv => whnf
        refine CutK.norm [2, 3, 6, 7, 8, 9, 10, 11, 53] [128, 192, 384, 512, 576, 640, 1114000, 1114001, 1114002, 1114003] ?_
        conv => whnf
        cases h
        exact Done.of [] [] rfl rfl ⟨⟨rfl, rfl⟩, ⟨rfl, trivial⟩, rfl, trivial⟩
      · replace h := iteF h g363
        conv => whnf
        refine CutK.norm [2, 3, 6, 7, 8, 9, 10, 11, 53] [128, 192, 384, 512, 576, 640, 1114000, 1114001, 1114002, 1114003] ?_
        conv => whnf
        cases h
        exact Done.of [] [] rfl rfl ⟨⟨rfl, rfl⟩, ⟨rfl, trivial⟩, rfl, trivial⟩
  · replace h := condT h
    cases v46
    · replace h := condF h
      conv => whnf
      refine Take.all (rfl) ?_
      conv => whnf
      refine Take.all (rfl) ?_
      conv => whnf
      obtain ⟨y364, e365, h⟩ := bind_ex h
      refine CallOk.of (laws_eqOrdinal_ct e365) ?_
      conv => whnf
      refine spl (fun g366 => ?_) (fun g366 => ?_)
      · replace h := iteT h g366
        conv => whnf
        refine splT ?_
        conv => whnf
        refine CutK.norm [2, 3, 6, 7, 8, 9, 10, 11, 53] [128, 192, 384, 512, 576, 640, 1114000, 1114001, 1114002, 1114003] ?_
        conv => whnf
        cases h
        exact Done.of [] [] rfl rfl ⟨⟨rfl, rfl⟩, ⟨rfl, trivial⟩, rfl, trivial⟩
      · replace h := iteF h g366
        conv => whnf
        refine CutK.norm [2, 3, 6, 7, 8, 9, 10, 11, 53] [128, 192, 384, 512, 576, 640, 1114000, 1114001, 1114002, 1114003] ?_
        conv => whnf
        cases h
        exact Done.of [] [] rfl rfl ⟨⟨rfl, rfl⟩, ⟨rfl, trivial⟩, rfl, trivial⟩
    · replace h := condT h
      conv => whnf
      refine Take.all (rfl) ?_
      conv => whnf
      refine Take.all (rfl) ?_
      conv => whnf
      obtain ⟨y367, e368, h⟩ := bind_ex h
      refine CallOk.of (laws_eqOrdinal_ct e368) ?_
      conv => whnf
      refine spl (fun g369 => ?_) (fun g369 => ?_)
      · replace h := iteT h g369
        conv => whnf
        refine splF ?_
        conv => whnf
        refine CutK.norm [2, 3, 6, 7, 8, 9, 10, 11, 53] [128, 192, 384, 512, 576, 640, 1114000, 1114001, 1114002, 1114003] ?_
        conv => whnf
        exact CutK.piece (laws_FnExactPowerOfOrdinals_p11_ct  h) [some 128, some 192, some 384, some 512, some 576, some 640, some 1114000, some 1114001, some 1114002, some 1114003] [] ⟨⟨rfl, rfl⟩, ⟨rfl, ⟨rfl, rfl, trivial⟩, ⟨rfl, rfl, trivial⟩, ⟨rfl, ⟨rfl, rfl⟩, trivial⟩, ⟨rfl, ⟨rfl, rfl⟩, trivial⟩, ⟨rfl, ⟨rfl, rfl⟩, trivial⟩, ⟨rfl, ⟨rfl, rfl⟩, trivial⟩, ⟨rfl, rfl, rows_same⟩, ⟨rfl, rfl, rows_same⟩, ⟨rfl, rfl, rows_same⟩, ⟨rfl, rfl, rows_same⟩, trivial⟩, ⟨rfl, rfl⟩, ⟨rfl, rfl⟩, ⟨rfl, rfl⟩, rfl, ⟨rfl, rfl⟩, ⟨rfl, rfl⟩, ⟨rfl, rfl⟩, rfl, trivial⟩
      · replace h := iteF h g369
        conv => whnf
        refine CutK.norm [2, 3, 6, 7, 8, 9, 10, 11, 53] [128, 192, 384, 512, 576, 640, 1114000, 1114001, 1114002, 1114003] ?_
        conv => whnf
        cases h
        exact Done.of [] [] rfl rfl ⟨⟨rfl, rfl⟩, ⟨rfl, trivial⟩, rfl, trivial⟩
def laws_FnExactPowerOfOrdinals_p9 (k : Nat) (a1 : Rw) (a2 : Rw) (o29 : Rw) (o30 : Rw) (o31 : Rw) (v34 : Bool) : Option Bool :=
  (cond v34 ((impl_PowerOfOrdinals k o30 o31).bind fun y373 => (if y373.2 = true then (laws_FnExactPowerOfOrdinals_p10 k a1 a2 o29 o30 o31 y373.1 true true) else (laws_FnExactPowerOfOrdinals_p10 k a1 a2 o29 o30 o31 y373.1 false true))) ((impl_PowerOfOrdinals k o30 o31).bind fun y370 => (if y370.2 = true then (laws_FnExactPowerOfOrdinals_p10 k a1 a2 o29 o30 o31 y370.1 true false) else (laws_FnExactPowerOfOrdinals_p10 k a1 a2 o29 o30 o31 y370.1 false false))))
set_option maxHeartbeats 4000000 in
set_option maxRecDepth 100000 in
theorem laws_FnExactPowerOfOrdinals_p9_ct {k : Nat} {a1 : Rw} {a2 : Rw} {o29 : Rw} {o30 : Rw} {o31 : Rw} {v34 : Bool} {r : Bool} (h : laws_FnExactPowerOfOrdinals_p9 k a1 a2 o29 o30 o31 v34 = some r) : X prog 0 (tlF f4 9) (mk 119 [(2, .ptr 128 0), (3, .ptr 192 0), (6, .ptr 384 0), (7, .d (D.bool v34)), (8, .ptr 512 0), (9, .ptr 576 0)] [(128, .box 36 [.d (D.sl a1)]), (192, .box 36 [.d (D.sl a2)]), (384, .box 26 [.os 1109000 o29.length]), (512, .box 26 [.os 1109001 o30.length]), (576, .box 26 [.os 1109002 o31.length]), (1109000, .arr 104 true o29), (1109001, .arr 104 true o30), (1109002, .arr 104 true o31)]) (finK prog f4 0 (.d (D.bool r)) (⟨[], []⟩)) := by
  rw [laws_FnExactPowerOfOrdinals_p9] at h
  cases v34
  · replace h := condF h
    conv => whnf
    refine Take.all (rfl) ?_
    conv => whnf
    refine Take.all (rfl) ?_
    conv => whnf
    obtain ⟨y370, e371, h⟩ := bind_ex h
    refine CallOk.of (impl_PowerOfOrdinals_ct e371) ?_
    conv => whnf
    refine spl (fun g372 => ?_) (fun g372 => ?_)
    · replace h := iteT h g372
      conv => whnf
      exact CutK.piece (laws_FnExactPowerOfOrdinals_p10_ct  h) [some 128, some 192, some 384, some 512, some 576, some 640, some 1109000, some 1109001, some 1109002, some 2688] [] ⟨⟨rfl, rfl⟩, ⟨rfl, ⟨rfl, rfl, trivial⟩, ⟨rfl, rfl, trivial⟩, ⟨rfl, ⟨rfl, rfl⟩, trivial⟩, ⟨rfl, ⟨rfl, rfl⟩, trivial⟩, ⟨rfl, ⟨rfl, rfl⟩, trivial⟩, ⟨rfl, ⟨rfl, rfl⟩, trivial⟩, ⟨rfl, rfl, rows_same⟩, ⟨rfl, rfl, rows_same⟩, ⟨rfl, rfl, rows_same⟩, ⟨rfl, rfl, rows_same⟩, trivial⟩, ⟨rfl, rfl⟩, ⟨rfl, rfl⟩, ⟨rfl, rfl⟩, rfl, ⟨rfl, rfl⟩, ⟨rfl, rfl⟩, ⟨rfl, rfl⟩, rfl, trivial⟩
    · replace h := iteF h g372
      conv => whnf
      exact CutK.piece (laws_FnExactPowerOfOrdinals_p10_ct  h) [some 128, some 192, some 384, some 512, some 576, some 640, some 1109000, some 1109001, some 1109002, some 2688] [] ⟨⟨rfl, rfl⟩, ⟨rfl, ⟨rfl, rfl, trivial⟩, ⟨rfl, rfl, trivial⟩, ⟨rfl, ⟨rfl, rfl⟩, trivial⟩, ⟨rfl, ⟨rfl, rfl⟩, trivial⟩, ⟨rfl, ⟨rfl, rfl⟩, trivial⟩, ⟨rfl, ⟨rfl, rfl⟩, trivial⟩, ⟨rfl, rfl, rows_same⟩, ⟨rfl, rfl, rows_same⟩, ⟨rfl, rfl, rows_same⟩, ⟨rfl, rfl, rows_same⟩, trivial⟩, ⟨rfl, rfl⟩, ⟨rfl, rfl⟩, ⟨rfl, rfl⟩, rfl, ⟨rfl, rfl⟩, ⟨rfl, rfl⟩, ⟨rfl, rfl⟩, rfl, trivial⟩
  · replace h := condT h
    conv => whnf
    refine Take.all (rfl) ?_
    conv => whnf
    refine Take.all (rfl) ?_
    conv => whnf
    obtain ⟨y373, e374, h⟩ := bind_ex h
    refine CallOk.of (impl_PowerOfOrdinals_ct e374) ?_
    conv => whnf
    refine spl (fun g375 => ?_) (fun g375 => ?_)
    · replace h := iteT h g375
      conv => whnf
      exact CutK.piece (laws_FnExactPowerOfOrdinals_p10_ct  h) [some 128, some 192, some 384, some 512, some 576, some 640, some 1109000, some 1109001, some 1109002, some 2688] [] ⟨⟨rfl, rfl⟩, ⟨rfl, ⟨rfl, rfl, trivial⟩, ⟨rfl, rfl, trivial⟩, ⟨rfl, ⟨rfl, rfl⟩, trivial⟩, ⟨rfl, ⟨rfl, rfl⟩, trivial⟩, ⟨rfl, ⟨rfl, rfl⟩, trivial⟩, ⟨rfl, ⟨rfl, rfl⟩, trivial⟩, ⟨rfl, rfl, rows_same⟩, ⟨rfl, rfl, rows_same⟩, ⟨rfl, rfl, rows_same⟩, ⟨rfl, rfl, rows_same⟩, trivial⟩, ⟨rfl, rfl⟩, ⟨rfl, rfl⟩, ⟨rfl, rfl⟩, rfl, ⟨rfl, rfl⟩, ⟨rfl, rfl⟩, ⟨rfl, rfl⟩, rfl, trivial⟩
    · replace h := iteF h g375
      conv => whnf
      exact CutK.piece (laws_FnExactPowerOfOrdinals_p10_ct  h) [some 128, some 192, some 384, some 512, some 576, some 640, some 1109000, some 1109001, some 1109002, some 2688] [] ⟨⟨rfl, rfl⟩, ⟨rfl, ⟨rfl, rfl, trivial⟩, ⟨rfl, rfl, trivial⟩, ⟨rfl, ⟨rfl, rfl⟩, trivial⟩, ⟨rfl, ⟨rfl, rfl⟩, trivial⟩, ⟨rfl, ⟨rfl, rfl⟩, trivial⟩, ⟨rfl, ⟨rfl, rfl⟩, trivial⟩, ⟨rfl, rfl, rows_same⟩, ⟨rfl, rfl, rows_same⟩, ⟨rfl, rfl, rows_same⟩, ⟨rfl, rfl, rows_same⟩, trivial⟩, ⟨rfl, rfl⟩, ⟨rfl, rfl⟩, ⟨rfl, rfl⟩, rfl, ⟨rfl, rfl⟩, ⟨rfl, rfl⟩, ⟨rfl, rfl⟩, rfl, trivial⟩
def laws_FnExactPowerOfOrdinals_p8 (k : Nat) (a1 : Rw) (a2 : Rw) (o22 : Rw) (o23 : Rw) (v26 : Bool) : Option Bool :=
  (cond v26 ((laws_toOrdinal k a2).bind fun y378 => (laws_FnExactPowerOfOrdinals_p9 k a1 a2 o22 o23 y378 true)) ((laws_toOrdinal k a2).bind fun y376 => (laws_FnExactPowerOfOrdinals_p9 k a1 a2 o22 o23 y376 false)))
set_option maxHeartbeats 4000000 in
set_option maxRecDepth 100000 in
theorem laws_FnExactPowerOfOrdinals_p8_ct {k : Nat} {a1 : Rw} {a2 : Rw} {o22 : Rw} {o23 : Rw} {v26 : Bool} {r : Bool} (h : laws_FnExactPowerOfOrdinals_p8 k a1 a2 o22 o23 v26 = some r) : X prog 0 (tlF f4 8) (mk 119 [(2, .ptr 128 0), (3, .ptr 192 0), (6, .ptr 384 0), (7, .d (D.bool v26)), (8, .ptr 512 0)] [(128, .box 36 [.d (D.sl a1)]), (192, .box 36 [.d (D.sl a2)]), (384, .box 26 [.os 1104000 o22.length]), (512, .box 26 [.os 1104001 o23.length]), (1104000, .arr 104 true o22), (1104001, .arr 104 true o23)]) (finK prog f4 0 (.d (D.bool r)) (⟨[], []⟩)) := by
  rw [laws_FnExactPowerOfOrdinals_p8] at h
  cases v26
  · replace h := condF h
    conv => whnf
    obtain ⟨y376, e377, h⟩ := bind_ex h
    refine CallOk.of (laws_toOrdinal_ct e377) ?_
    conv => whnf
    exact CutK.piece (laws_FnExactPowerOfOrdinals_p9_ct  h) [some 128, some 192, some 384, some 512, some 576, some 1104000, some 1104001, some 2432] [] ⟨⟨rfl, rfl⟩, ⟨rfl, ⟨rfl, rfl, trivial⟩, ⟨rfl, rfl, trivial⟩, ⟨rfl, ⟨rfl, rfl⟩, trivial⟩, ⟨rfl, ⟨rfl, rfl⟩, trivial⟩, ⟨rfl, ⟨rfl, rfl⟩, trivial⟩, ⟨rfl, rfl, rows_same⟩, ⟨rfl, rfl, rows_same⟩, ⟨rfl, rfl, rows_same⟩, trivial⟩, ⟨rfl, rfl⟩, ⟨rfl, rfl⟩, ⟨rfl, rfl⟩, rfl, ⟨rfl, rfl⟩, ⟨rfl, rfl⟩, trivial⟩
  · replace h := condT h
    conv => whnf
    obtain ⟨y378, e379, h⟩ := bind_ex h
    refine CallOk.of (laws_toOrdinal_ct e379) ?_
    conv => whnf
    exact CutK.piece (laws_FnExactPowerOfOrdinals_p9_ct  h) [some 128, some 192, some 384, some 512, some 576, some 1104000, some 1104001, some 2432] [] ⟨⟨rfl, rfl⟩, ⟨rfl, ⟨rfl, rfl, trivial⟩, ⟨rfl, rfl, trivial⟩, ⟨rfl, ⟨rfl, rfl⟩, trivial⟩, ⟨rfl, ⟨rfl, rfl⟩, trivial⟩, ⟨rfl, ⟨rfl, rfl⟩, trivial⟩, ⟨rfl, rfl, rows_same⟩, ⟨rfl, rfl, rows_same⟩, ⟨rfl, rfl, rows_same⟩, trivial⟩, ⟨rfl, rfl⟩, ⟨rfl, rfl⟩, ⟨rfl, rfl⟩, rfl, ⟨rfl, rfl⟩, ⟨rfl, rfl⟩, trivial⟩
def laws_FnExactPowerOfOrdinals_p7 (k : Nat) (a1 : Rw) (a2 : Rw) (o18 : Rw) (v19 : Bool) : Option Bool :=
  (cond v19 ((laws_toOrdinal k a1).bind fun y382 => (laws_FnExactPowerOfOrdinals_p8 k a1 a2 o18 y382 true)) ((laws_toOrdinal k a1).bind fun y380 => (laws_FnExactPowerOfOrdinals_p8 k a1 a2 o18 y380 false)))
set_option maxHeartbeats 4000000 in
set_option maxRecDepth 100000 in
theorem laws_FnExactPowerOfOrdinals_p7_ct {k : Nat} {a1 : Rw} {a2 : Rw} {o18 : Rw} {v19 : Bool} {r : Bool} (h : laws_FnExactPowerOfOrdinals_p7 k a1 a2 o18 v19 = some r) : X prog 0 (tlF f4 7) (mk 119 [(2, .ptr 128 0), (3, .ptr 192 0), (6, .ptr 384 0), (7, .d (D.bool v19))] [(128, .box 36 [.d (D.sl a1)]), (192, .box 36 [.d (D.sl a2)]), (384, .box 26 [.os 1099000 o18.length]), (1099000, .arr 104 true o18)]) (finK prog f4 0 (.d (D.bool r)) (⟨[], []⟩)) := by
  rw [laws_FnExactPowerOfOrdinals_p7] at h
  cases v19
  · replace h := condF h
    conv => whnf
    obtain ⟨y380, e381, h⟩ := bind_ex h
    refine CallOk.of (laws_toOrdinal_ct e381) ?_
    conv => whnf
    exact CutK.piece (laws_FnExactPowerOfOrdinals_p8_ct  h) [some 128, some 192, some 384, some 512, some 1099000, some 2304] [] ⟨⟨rfl, rfl⟩, ⟨rfl, ⟨rfl, rfl, trivial⟩, ⟨rfl, rfl, trivial⟩, ⟨rfl, ⟨rfl, rfl⟩, trivial⟩, ⟨rfl, ⟨rfl, rfl⟩, trivial⟩, ⟨rfl, rfl, rows_same⟩, ⟨rfl, rfl, rows_same⟩, trivial⟩, ⟨rfl, rfl⟩, ⟨rfl, rfl⟩, ⟨rfl, rfl⟩, rfl, ⟨rfl, rfl⟩, trivial⟩
  · replace h := condT h
    conv => whnf
    obtain ⟨y382, e383, h⟩ := bind_ex h
    refine CallOk.of (laws_toOrdinal_ct e383) ?_
    conv => whnf
    exact CutK.piece (laws_FnExactPowerOfOrdinals_p8_ct  h) [some 128, some 192, some 384, some 512, some 1099000, some 2304] [] ⟨⟨rfl, rfl⟩, ⟨rfl, ⟨rfl, rfl, trivial⟩, ⟨rfl, rfl, trivial⟩, ⟨rfl, ⟨rfl, rfl⟩, trivial⟩, ⟨rfl, ⟨rfl, rfl⟩, trivial⟩, ⟨rfl, rfl, rows_same⟩, ⟨rfl, rfl, rows_same⟩, trivial⟩, ⟨rfl, rfl⟩, ⟨rfl, rfl⟩, ⟨rfl, rfl⟩, rfl, ⟨rfl, rfl⟩, trivial⟩
def laws_FnExactPowerOfOrdinals_p5 (k : Nat) (a1 : Rw) (a2 : Rw) (o9 : Int) : Option Bool :=
  (if o9 < (0 : Int) then some true else ((laws_toOrdinal k a1).bind fun y385 => ((laws_toOrdinal k a2).bind fun y387 => ((spec_PowerOfOrdinals k y385 y387).bind fun y389 => (if y389.2 = true then (laws_FnExactPowerOfOrdinals_p7 k a1 a2 y389.1 true) else (laws_FnExactPowerOfOrdinals_p7 k a1 a2 y389.1 false))))))
set_option maxHeartbeats 4000000 in
set_option maxRecDepth 100000 in
theorem laws_FnExactPowerOfOrdinals_p5_ct {k : Nat} {a1 : Rw} {a2 : Rw} {o9 : Int} {r : Bool} (h : laws_FnExactPowerOfOrdinals_p5 k a1 a2 o9 = some r) : X prog 0 (tlF f4 5) (mk 119 [(2, .ptr 128 0), (3, .ptr 192 0), (5, .d (D.int .i64 o9))] [(128, .box 36 [.d (D.sl a1)]), (192, .box 36 [.d (D.sl a2)])]) (finK prog f4 0 (.d (D.bool r)) (⟨[], []⟩)) := by
  rw [laws_FnExactPowerOfOrdinals_p5] at h
  conv => whnf
  refine splD (fun g384 => ?_) (fun g384 => ?_)
  · replace h := iteP h g384
    conv => whnf
    cases h
    exact Done.of [] [] rfl rfl ⟨⟨rfl, rfl⟩, ⟨rfl, trivial⟩, rfl, trivial⟩
  · replace h := iteN h g384
    conv => whnf
    obtain ⟨y385, e386, h⟩ := bind_ex h
    refine CallOk.of (laws_toOrdinal_ct e386) ?_
    conv => whnf
    obtain ⟨y387, e388, h⟩ := bind_ex h
    refine CallOk.of (laws_toOrdinal_ct e388) ?_
    conv => whnf
    refine Take.all (rfl) ?_
    conv => whnf
    refine Take.all (rfl) ?_
    conv => whnf
    obtain ⟨y389, e390, h⟩ := bind_ex h
    refine CallOk.of (spec_PowerOfOrdinals_ct e390) ?_
    conv => whnf
    refine spl (fun g391 => ?_) (fun g391 => ?_)
    · replace h := iteT h g391
      conv => whnf
      exact CutK.piece (laws_FnExactPowerOfOrdinals_p7_ct  h) [some 128, some 192, some 384, some 2048] [] ⟨⟨rfl, rfl⟩, ⟨rfl, ⟨rfl, rfl, trivial⟩, ⟨rfl, rfl, trivial⟩, ⟨rfl, ⟨rfl, rfl⟩, trivial⟩, ⟨rfl, rfl, rows_same⟩, trivial⟩, ⟨rfl, rfl⟩, ⟨rfl, rfl⟩, ⟨rfl, rfl⟩, rfl, trivial⟩
    · replace h := iteF h g391
      conv => whnf
      exact CutK.piece (laws_FnExactPowerOfOrdinals_p7_ct  h) [some 128, some 192, some 384, some 2048] [] ⟨⟨rfl, rfl⟩, ⟨rfl, ⟨rfl, rfl, trivial⟩, ⟨rfl, rfl, trivial⟩, ⟨rfl, ⟨rfl, rfl⟩, trivial⟩, ⟨rfl, rfl, rows_same⟩, trivial⟩, ⟨rfl, rfl⟩, ⟨rfl, rfl⟩, ⟨rfl, rfl⟩, rfl, trivial⟩
def laws_FnExactPowerOfOrdinals_p3 (k : Nat) (a1 : Rw) (a2 : Rw) (o5 : Int) : Option Bool :=
  (if o5 < (0 : Int) then some true else ((laws_szOrdinal k a2 o5).bind fun y393 => (laws_FnExactPowerOfOrdinals_p5 k a1 a2 y393)))
set_option maxHeartbeats 4000000 in
set_option maxRecDepth 100000 in
theorem laws_FnExactPowerOfOrdinals_p3_ct {k : Nat} {a1 : Rw} {a2 : Rw} {o5 : Int} {r : Bool} (h : laws_FnExactPowerOfOrdinals_p3 k a1 a2 o5 = some r) : X prog 0 (tlF f4 3) (mk 119 [(2, .ptr 128 0), (3, .ptr 192 0), (5, .d (D.int .i64 o5))] [(128, .box 36 [.d (D.sl a1)]), (192, .box 36 [.d (D.sl a2)])]) (finK prog f4 0 (.d (D.bool r)) (⟨[], []⟩)) := by
  rw [laws_FnExactPowerOfOrdinals_p3] at h
  conv => whnf
  refine splD (fun g392 => ?_) (fun g392 => ?_)
  · replace h := iteP h g392
    conv => whnf
    cases h
    exact Done.of [] [] rfl rfl ⟨⟨rfl, rfl⟩, ⟨rfl, trivial⟩, rfl, trivial⟩
  · replace h := iteN h g392
    conv => whnf
    obtain ⟨y393, e394, h⟩ := bind_ex h
    refine CallOk.of (laws_szOrdinal_ct e394) ?_
    conv => whnf
    exact CutK.piece (laws_FnExactPowerOfOrdinals_p5_ct  h) [some 128, some 192] [] ⟨⟨rfl, rfl⟩, ⟨rfl, ⟨rfl, rfl, trivial⟩, ⟨rfl, rfl, trivial⟩, trivial⟩, ⟨rfl, rfl⟩, ⟨rfl, rfl⟩, rfl, trivial⟩
def laws_FnExactPowerOfOrdinals (k : Nat) (a1 : Rw) (a2 : Rw) : Option Bool :=
  ((laws_szOrdinal k a1 1048576).bind fun y395 => (laws_FnExactPowerOfOrdinals_p3 k a1 a2 y395))
set_option maxHeartbeats 4000000 in
set_option maxRecDepth 100000 in
theorem laws_FnExactPowerOfOrdinals_ct {k : Nat} {a1 : Rw} {a2 : Rw} {r : Bool} (h : laws_FnExactPowerOfOrdinals k a1 a2 = some r) : Ct prog 4 [.agg [.d (D.sl a1)], .agg [.d (D.sl a2)]] (⟨[], []⟩) (.d (D.bool r)) (⟨[], []⟩) := by
  rw [laws_FnExactPowerOfOrdinals] at h
  refine Ct.of (c := _) mixed func4 ⟨rfl, rfl, rfl⟩ ?_ rfl
  conv => whnf
  obtain ⟨y395, e396, h⟩ := bind_ex h
  refine CallOk.of (laws_szOrdinal_ct e396) ?_
  conv => whnf
  exact CutK.piece (laws_FnExactPowerOfOrdinals_p3_ct  h) [some 128, some 192] [] ⟨⟨rfl, rfl⟩, ⟨rfl, ⟨rfl, rfl, trivial⟩, ⟨rfl, rfl, trivial⟩, trivial⟩, ⟨rfl, rfl⟩, ⟨rfl, rfl⟩, rfl, trivial⟩
end
end Go.Proofs.Try
