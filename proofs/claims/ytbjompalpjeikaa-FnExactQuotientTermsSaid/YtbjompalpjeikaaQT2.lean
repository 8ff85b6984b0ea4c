/- Printed by program (axgen): pure functions, and that the Go functions compute them. -/
import Derived.Test.YtbjompalpjeikaaQT1
set_option linter.unusedVariables false
set_option linter.unusedSimpArgs false
namespace Go.Proofs.Try
open Go Go.AX
noncomputable section
def laws_FnExactQuotientTerms_p32 (o323 : Int) (o324 : Int) : Option Bool :=
  (if o324 < (0 : Int) then some false else (if o324 = o323 then some true else some false))
set_option maxHeartbeats 4000000 in
set_option maxRecDepth 100000 in
theorem laws_FnExactQuotientTerms_p32_ct {o323 : Int} {o324 : Int} {r : Bool} (h : laws_FnExactQuotientTerms_p32 o323 o324 = some r) : X prog 0 (tlF f4 32) (mk 161 [(17, .d (D.int .i64 o323)), (18, .d (D.int .i64 o324))] []) (finK prog f4 0 (.d (D.bool r)) (⟨[], []⟩)) := by
  rw [laws_FnExactQuotientTerms_p32] at h
  conv => whnf
  refine splD (fun g327 => ?_) (fun g327 => ?_)
  · replace h := iteP h g327
    conv => whnf
    cases h
    exact Done.of [] [] rfl rfl ⟨⟨rfl, rfl⟩, ⟨rfl, trivial⟩, rfl, trivial⟩
  · replace h := iteN h g327
    conv => whnf
    refine splN (fun g328 => ?_) (fun g328 => ?_)
    · replace h := iteN h g328
      conv => whnf
      cases h
      exact Done.of [] [] rfl rfl ⟨⟨rfl, rfl⟩, ⟨rfl, trivial⟩, rfl, trivial⟩
    · replace h := iteP h g328
      conv => whnf
      cases h
      exact Done.of [] [] rfl rfl ⟨⟨rfl, rfl⟩, ⟨rfl, trivial⟩, rfl, trivial⟩
def laws_FnExactQuotientTerms_p30 (k : Nat) (o317 : Int) (o318 : Int) (o319 : Rw) : Option Bool :=
  (if o318 < (0 : Int) then some false else ((laws_heldSurreal k o319 o318).bind fun y330 => (laws_FnExactQuotientTerms_p32 o317 y330)))
set_option maxHeartbeats 4000000 in
set_option maxRecDepth 100000 in
theorem laws_FnExactQuotientTerms_p30_ct {k : Nat} {o317 : Int} {o318 : Int} {o319 : Rw} {r : Bool} (h : laws_FnExactQuotientTerms_p30 k o317 o318 o319 = some r) : X prog 0 (tlF f4 30) (mk 161 [(14, .ptr 896 0), (17, .d (D.int .i64 o317)), (18, .d (D.int .i64 o318))] [(896, .box 28 [.os 1214000 o319.length]), (1214000, .arr 116 true o319)]) (finK prog f4 0 (.d (D.bool r)) (⟨[], []⟩)) := by
  rw [laws_FnExactQuotientTerms_p30] at h
  conv => whnf
  refine splD (fun g329 => ?_) (fun g329 => ?_)
  · replace h := iteP h g329
    conv => whnf
    cases h
    exact Done.of [] [] rfl rfl ⟨⟨rfl, rfl⟩, ⟨rfl, trivial⟩, rfl, trivial⟩
  · replace h := iteN h g329
    conv => whnf
    refine Choice.old ?_
    conv => whnf
    refine Pick.no ?_
    conv => whnf
    refine Take.all (rfl) ?_
    conv => whnf
    obtain ⟨y330, e331, h⟩ := bind_ex h
    refine CallOk.of (laws_heldSurreal_ct e331) ?_
    conv => whnf
    exact CutK.piece (laws_FnExactQuotientTerms_p32_ct  h) [] [] ⟨⟨rfl, rfl⟩, ⟨rfl, trivial⟩, rfl, rfl, trivial⟩
def laws_FnExactQuotientTerms_p28 (k : Nat) (o294 : Int) (o295 : Rw) (o296 : Rw) : Option Bool :=
  ((laws_heldSurreal k o295 1).bind fun y332 => (laws_FnExactQuotientTerms_p30 k o294 y332 o296))
set_option maxHeartbeats 4000000 in
set_option maxRecDepth 100000 in
theorem laws_FnExactQuotientTerms_p28_ct {k : Nat} {o294 : Int} {o295 : Rw} {o296 : Rw} {r : Bool} (h : laws_FnExactQuotientTerms_p28 k o294 o295 o296 = some r) : X prog 0 (tlF f4 28) (mk 161 [(13, .ptr 832 0), (14, .ptr 896 0), (17, .d (D.int .i64 o294))] [(832, .box 28 [.os 1204000 o295.length]), (896, .box 28 [.os 1204001 o296.length]), (1204000, .arr 116 true o295), (1204001, .arr 116 true o296)]) (finK prog f4 0 (.d (D.bool r)) (⟨[], []⟩)) := by
  rw [laws_FnExactQuotientTerms_p28] at h
  conv => whnf
  refine Choice.old ?_
  conv => whnf
  refine Pick.no ?_
  conv => whnf
  refine Take.all (rfl) ?_
  conv => whnf
  obtain ⟨y332, e333, h⟩ := bind_ex h
  refine CallOk.of (laws_heldSurreal_ct e333) ?_
  conv => whnf
  exact CutK.piece (laws_FnExactQuotientTerms_p30_ct  h) [some 896, some 1204001] [] ⟨⟨rfl, rfl⟩, ⟨rfl, ⟨rfl, ⟨rfl, rfl⟩, trivial⟩, ⟨rfl, rfl, rows_same⟩, trivial⟩, ⟨rfl, rfl⟩, rfl, rfl, trivial⟩
def laws_FnExactQuotientTerms_p27 (k : Nat) (o270 : Int) (o271 : Rw) (o272 : Rw) (o273 : Rw) (o274 : Rw) (o275 : Rw) (o276 : Rw) (v277 : Bool) (v287 : Bool) : Option Bool :=
  (cond v277 (cond v287 ((laws_eqSurreal k o275 o271).bind fun y352 => (if y352 = true then ((laws_eqSurreal k o276 o272).bind fun y355 => (if y355 = true then (laws_FnExactQuotientTerms_p28 k o270 o273 o274) else some false)) else some false)) ((laws_eqSurreal k o275 o271).bind fun y346 => (if y346 = true then ((laws_eqSurreal k o276 o272).bind fun y349 => (if y349 = true then some false else some false)) else some false))) (cond v287 ((laws_eqSurreal k o275 o271).bind fun y340 => (if y340 = true then ((laws_eqSurreal k o276 o272).bind fun y343 => (if y343 = true then some false else some false)) else some false)) ((laws_eqSurreal k o275 o271).bind fun y334 => (if y334 = true then ((laws_eqSurreal k o276 o272).bind fun y337 => (if y337 = true then (laws_FnExactQuotientTerms_p28 k o270 o273 o274) else some false)) else some false))))
set_option maxHeartbeats 4000000 in
set_option maxRecDepth 100000 in
theorem laws_FnExactQuotientTerms_p27_ct {k : Nat} {o270 : Int} {o271 : Rw} {o272 : Rw} {o273 : Rw} {o274 : Rw} {o275 : Rw} {o276 : Rw} {v277 : Bool} {v287 : Bool} {r : Bool} (h : laws_FnExactQuotientTerms_p27 k o270 o271 o272 o273 o274 o275 o276 v277 v287 = some r) : X prog 0 (tlF f4 27) (mk 161 [(8, .ptr 512 0), (9, .ptr 576 0), (10, .d (D.bool v287)), (13, .ptr 832 0), (14, .ptr 896 0), (17, .d (D.int .i64 o270)), (19, .ptr 1216 0), (20, .ptr 1280 0), (21, .d (D.bool v277))] [(512, .box 28 [.os 1199000 o271.length]), (576, .box 28 [.os 1199001 o272.length]), (832, .box 28 [.os 1199002 o273.length]), (896, .box 28 [.os 1199003 o274.length]), (1216, .box 28 [.os 1199004 o275.length]), (1280, .box 28 [.os 1199005 o276.length]), (1199000, .arr 116 true o271), (1199001, .arr 116 true o272), (1199002, .arr 116 true o273), (1199003, .arr 116 true o274), (1199004, .arr 116 true o275), (1199005, .arr 116 true o276)]) (finK prog f4 0 (.d (D.bool r)) (⟨[], []⟩)) := by
  rw [laws_FnExactQuotientTerms_p27] at h
  cases v277
  · replace h := condF h
    cases v287
    · replace h := condF h
      conv => whnf
      refine Pick.no ?_
      conv => whnf
      refine Take.all (rfl) ?_
      conv => whnf
      refine Take.all (rfl) ?_
      conv => whnf
      obtain ⟨y334, e335, h⟩ := bind_ex h
      refine CallOk.of (laws_eqSurreal_ct e335) ?_
      conv => whnf
      refine spl (fun g336 => ?_) (fun g336 => ?_)
      · replace h := iteT h g336
        conv => whnf
        refine Pick.no ?_
        conv => whnf
        refine Take.all (rfl) ?_
        conv => whnf
        refine Take.all (rfl) ?_
        conv => whnf
        obtain ⟨y337, e338, h⟩ := bind_ex h
        refine CallOk.of (laws_eqSurreal_ct e338) ?_
        conv => whnf
        refine spl (fun g339 => ?_) (fun g339 => ?_)
        · replace h := iteT h g339
          conv => whnf
          refine splF ?_
          conv => whnf
          refine CutK.norm [13, 14, 17, 147] [832, 896, 1199002, 1199003] ?_
          conv => whnf
          exact CutK.piece (laws_FnExactQuotientTerms_p28_ct  h) [some 832, some 896, some 1199002, some 1199003] [] ⟨⟨rfl, rfl⟩, ⟨rfl, ⟨rfl, ⟨rfl, rfl⟩, trivial⟩, ⟨rfl, ⟨rfl, rfl⟩, trivial⟩, ⟨rfl, rfl, rows_same⟩, ⟨rfl, rfl, rows_same⟩, trivial⟩, ⟨rfl, rfl⟩, ⟨rfl, rfl⟩, rfl, trivial⟩
        · replace h := iteF h g339
          conv => whnf
          refine CutK.norm [13, 14, 17, 147] [832, 896, 1199002, 1199003] ?_
          conv => whnf
          cases h
          exact Done.of [] [] rfl rfl ⟨⟨rfl, rfl⟩, ⟨rfl, trivial⟩, rfl, trivial⟩
      · replace h := iteF h g336
        conv => whnf
        refine CutK.norm [13, 14, 17, 147] [832, 896, 1199002, 1199003] ?_
        conv => whnf
        cases h
        exact Done.of [] [] rfl rfl ⟨⟨rfl, rfl⟩, ⟨rfl, trivial⟩, rfl, trivial⟩
    · replace h := condT h
      conv => whnf
      refine Pick.no ?_
      conv => whnf
      refine Take.all (rfl) ?_
      conv => whnf
      refine Take.all (rfl) ?_
      conv => whnf
      obtain ⟨y340, e341, h⟩ := bind_ex h
      refine CallOk.of (laws_eqSurreal_ct e341) ?_
      conv => whnf
      refine spl (fun g342 => ?_) (fun g342 => ?_)
      · replace h := iteT h g342
        conv => whnf
        refine Pick.no ?_
        conv => whnf
        refine Take.all (rfl) ?_
        conv => whnf
        refine Take.all (rfl) ?_
        conv => whnf
        obtain ⟨y343, e344, h⟩ := bind_ex h
        refine CallOk.of (laws_eqSurreal_ct e344) ?_
        conv => whnf
        refine spl (fun g345 => ?_) (fun g345 => ?_)
        · replace h := iteT h g345
          conv => whnf
          refine splT ?_
          conv => whnf
          refine CutK.norm [13, 14, 17, 147] [832, 896, 1199002, 1199003] ?_
          conv => whnf
          cases h
          exact Done.of [] [] rfl rfl ⟨⟨rfl, rfl⟩, ⟨rfl, trivial⟩, rfl, trivial⟩
        · replace h := iteF h g345
          conv => whnf
          refine CutK.norm [13, 14, 17, 147] [832, 896, 1199002, 1199003] ?_
          conv => whnf
          cases h
          exact Done.of [] [] rfl rfl ⟨⟨rfl, rfl⟩, ⟨rfl, trivial⟩, rfl, trivial⟩
      · replace h := iteF h g342
        conv => whnf
        refine CutK.norm [13, 14, 17, 147] [832, 896, 1199002, 1199003] ?_
        conv => whnf
        cases h
        exact Done.of [] [] rfl rfl ⟨⟨rfl, rfl⟩, ⟨rfl, trivial⟩, rfl, trivial⟩
  · replace h := condT h
    cases v287
    · replace h := condF h
      conv => whnf
      refine Pick.no ?_
      conv => whnf
      refine Take.all (rfl) ?_
      conv => whnf
      refine Take.all (rfl) ?_
      conv => whnf
      obtain ⟨y346, e347, h⟩ := bind_ex h
      refine CallOk.of (laws_eqSurreal_ct e347) ?_
      conv => whnf
      refine spl (fun g348 => ?_) (fun g348 => ?_)
      · replace h := iteT h g348
        conv => whnf
        refine Pick.no ?_
        conv => whnf
        refine Take.all (rfl) ?_
        conv => whnf
        refine Take.all (rfl) ?_
        conv => whnf
        obtain ⟨y349, e350, h⟩ := bind_ex h
        refine CallOk.of (laws_eqSurreal_ct e350) ?_
        conv => whnf
        refine spl (fun g351 => ?_) (fun g351 => ?_)
        · replace h := iteT h g351
          conv => whnf
          refine splT ?_
          conv => whnf
          refine CutK.norm [13, 14, 17, 147] [832, 896, 1199002, 1199003] ?_
          conv => whnf
          cases h
          exact Done.of [] [] rfl rfl ⟨⟨rfl, rfl⟩, ⟨rfl, trivial⟩, rfl, trivial⟩
        · replace h := iteF h g351
          conv => whnf
          refine CutK.norm [13, 14, 17, 147] [832, 896, 1199002, 1199003] ?_
          conv => whnf
          cases h
          exact Done.of [] [] rfl rfl ⟨⟨rfl, rfl⟩, ⟨rfl, trivial⟩, rfl, trivial⟩
      · replace h := iteF h g348
        conv => whnf
        refine CutK.norm [13, 14, 17, 147] [832, 896, 1199002, 1199003] ?_
        conv => whnf
        cases h
        exact Done.of [] [] rfl rfl ⟨⟨rfl, rfl⟩, ⟨rfl, trivial⟩, rfl, trivial⟩
    · replace h := condT h
      conv => whnf
      refine Pick.no ?_
      conv => whnf
      refine Take.all (rfl) ?_
      conv => whnf
      refine Take.all (rfl) ?_
      conv => whnf
      obtain ⟨y352, e353, h⟩ := bind_ex h
      refine CallOk.of (laws_eqSurreal_ct e353) ?_
      conv => whnf
      refine spl (fun g354 => ?_) (fun g354 => ?_)
      · replace h := iteT h g354
        conv => whnf
        refine Pick.no ?_
        conv => whnf
        refine Take.all (rfl) ?_
        conv => whnf
        refine Take.all (rfl) ?_
        conv => whnf
        obtain ⟨y355, e356, h⟩ := bind_ex h
        refine CallOk.of (laws_eqSurreal_ct e356) ?_
        conv => whnf
        refine spl (fun g357 => ?_) (fun g357 => ?_)
        · replace h := iteT h g357
          conv => whnf
          refine splF ?_
          conv => whnf
          refine CutK.norm [13, 14, 17, 147] [832, 896, 1199002, 1199003] ?_
          conv => whnf
          exact CutK.piece (laws_FnExactQuotientTerms_p28_ct  h) [some 832, some 896, some 1199002, some 1199003] [] ⟨⟨rfl, rfl⟩, ⟨rfl, ⟨rfl, ⟨rfl, rfl⟩, trivial⟩, ⟨rfl, ⟨rfl, rfl⟩, trivial⟩, ⟨rfl, rfl, rows_same⟩, ⟨rfl, rfl, rows_same⟩, trivial⟩, ⟨rfl, rfl⟩, ⟨rfl, rfl⟩, rfl, trivial⟩
        · replace h := iteF h g357
          conv => whnf
          refine CutK.norm [13, 14, 17, 147] [832, 896, 1199002, 1199003] ?_
          conv => whnf
          cases h
          exact Done.of [] [] rfl rfl ⟨⟨rfl, rfl⟩, ⟨rfl, trivial⟩, rfl, trivial⟩
      · replace h := iteF h g354
        conv => whnf
        refine CutK.norm [13, 14, 17, 147] [832, 896, 1199002, 1199003] ?_
        conv => whnf
        cases h
        exact Done.of [] [] rfl rfl ⟨⟨rfl, rfl⟩, ⟨rfl, trivial⟩, rfl, trivial⟩
def laws_FnExactQuotientTerms_p24 (k : Nat) (a1 : Rw) (a2 : Rw) (a3 : Int) (o251 : Int) (o252 : Int) (o253 : Rw) (o254 : Rw) (o255 : Rw) (o256 : Rw) (v260 : Bool) : Option Bool :=
  (cond v260 (if o252 < (0 : Int) then some false else (if o252 = o251 then ((laws_toSurreal k a1).bind fun y369 => ((laws_toSurreal k a2).bind fun y371 => ((impl_QuotientTerms k y369 y371 a3).bind fun y373 => (if y373.2.2 = true then (laws_FnExactQuotientTerms_p27 k o251 o253 o254 o255 o256 y373.1 y373.2.1 true true) else (laws_FnExactQuotientTerms_p27 k o251 o253 o254 o255 o256 y373.1 y373.2.1 false true))))) else some false)) (if o252 < (0 : Int) then some false else (if o252 = o251 then ((laws_toSurreal k a1).bind fun y360 => ((laws_toSurreal k a2).bind fun y362 => ((impl_QuotientTerms k y360 y362 a3).bind fun y364 => (if y364.2.2 = true then (laws_FnExactQuotientTerms_p27 k o251 o253 o254 o255 o256 y364.1 y364.2.1 true false) else (laws_FnExactQuotientTerms_p27 k o251 o253 o254 o255 o256 y364.1 y364.2.1 false false))))) else some false)))
set_option maxHeartbeats 4000000 in
set_option maxRecDepth 100000 in
theorem laws_FnExactQuotientTerms_p24_ct {k : Nat} {a1 : Rw} {a2 : Rw} {a3 : Int} {o251 : Int} {o252 : Int} {o253 : Rw} {o254 : Rw} {o255 : Rw} {o256 : Rw} {v260 : Bool} {r : Bool} (h : laws_FnExactQuotientTerms_p24 k a1 a2 a3 o251 o252 o253 o254 o255 o256 v260 = some r) : X prog 0 (tlF f4 24) (mk 161 [(2, .d (D.int .i64 a3)), (3, .ptr 192 0), (4, .ptr 256 0), (8, .ptr 512 0), (9, .ptr 576 0), (10, .d (D.bool v260)), (13, .ptr 832 0), (14, .ptr 896 0), (17, .d (D.int .i64 o251)), (18, .d (D.int .i64 o252))] [(192, .box 24 [.d (D.sl a1)]), (256, .box 24 [.d (D.sl a2)]), (512, .box 28 [.os 1184000 o253.length]), (576, .box 28 [.os 1184001 o254.length]), (832, .box 28 [.os 1184002 o255.length]), (896, .box 28 [.os 1184003 o256.length]), (1184000, .arr 116 true o253), (1184001, .arr 116 true o254), (1184002, .arr 116 true o255), (1184003, .arr 116 true o256)]) (finK prog f4 0 (.d (D.bool r)) (⟨[], []⟩)) := by
  rw [laws_FnExactQuotientTerms_p24] at h
  cases v260
  · replace h := condF h
    conv => whnf
    refine splD (fun g358 => ?_) (fun g358 => ?_)
    · replace h := iteP h g358
      conv => whnf
      cases h
      exact Done.of [] [] rfl rfl ⟨⟨rfl, rfl⟩, ⟨rfl, trivial⟩, rfl, trivial⟩
    · replace h := iteN h g358
      conv => whnf
      refine splN (fun g359 => ?_) (fun g359 => ?_)
      · replace h := iteN h g359
        conv => whnf
        cases h
        exact Done.of [] [] rfl rfl ⟨⟨rfl, rfl⟩, ⟨rfl, trivial⟩, rfl, trivial⟩
      · replace h := iteP h g359
        conv => whnf
        refine Pick.no ?_
        conv => whnf
        obtain ⟨y360, e361, h⟩ := bind_ex h
        refine CallOk.of (laws_toSurreal_ct e361) ?_
        conv => whnf
        refine Pick.no ?_
        conv => whnf
        obtain ⟨y362, e363, h⟩ := bind_ex h
        refine CallOk.of (laws_toSurreal_ct e363) ?_
        conv => whnf
        refine Pick.no ?_
        conv => whnf
        refine Take.all (rfl) ?_
        conv => whnf
        refine Take.all (rfl) ?_
        conv => whnf
        obtain ⟨y364, e365, h⟩ := bind_ex h
        refine CallOk.of (impl_QuotientTerms_ct e365) ?_
        conv => whnf
        refine spl (fun g366 => ?_) (fun g366 => ?_)
        · replace h := iteT h g366
          conv => whnf
          exact CutK.piece (laws_FnExactQuotientTerms_p27_ct  h) [some 512, some 576, some 832, some 896, some 1216, some 1280, some 1184000, some 1184001, some 1184002, some 1184003, some 8256, some 8257] [] ⟨⟨rfl, rfl⟩, ⟨rfl, ⟨rfl, ⟨rfl, rfl⟩, trivial⟩, ⟨rfl, ⟨rfl, rfl⟩, trivial⟩, ⟨rfl, ⟨rfl, rfl⟩, trivial⟩, ⟨rfl, ⟨rfl, rfl⟩, trivial⟩, ⟨rfl, ⟨rfl, rfl⟩, trivial⟩, ⟨rfl, ⟨rfl, rfl⟩, trivial⟩, ⟨rfl, rfl, rows_same⟩, ⟨rfl, rfl, rows_same⟩, ⟨rfl, rfl, rows_same⟩, ⟨rfl, rfl, rows_same⟩, ⟨rfl, rfl, rows_same⟩, ⟨rfl, rfl, rows_same⟩, trivial⟩, ⟨rfl, rfl⟩, ⟨rfl, rfl⟩, rfl, ⟨rfl, rfl⟩, ⟨rfl, rfl⟩, rfl, ⟨rfl, rfl⟩, ⟨rfl, rfl⟩, rfl, trivial⟩
        · replace h := iteF h g366
          conv => whnf
          exact CutK.piece (laws_FnExactQuotientTerms_p27_ct  h) [some 512, some 576, some 832, some 896, some 1216, some 1280, some 1184000, some 1184001, some 1184002, some 1184003, some 8256, some 8257] [] ⟨⟨rfl, rfl⟩, ⟨rfl, ⟨rfl, ⟨rfl, rfl⟩, trivial⟩, ⟨rfl, ⟨rfl, rfl⟩, trivial⟩, ⟨rfl, ⟨rfl, rfl⟩, trivial⟩, ⟨rfl, ⟨rfl, rfl⟩, trivial⟩, ⟨rfl, ⟨rfl, rfl⟩, trivial⟩, ⟨rfl, ⟨rfl, rfl⟩, trivial⟩, ⟨rfl, rfl, rows_same⟩, ⟨rfl, rfl, rows_same⟩, ⟨rfl, rfl, rows_same⟩, ⟨rfl, rfl, rows_same⟩, ⟨rfl, rfl, rows_same⟩, ⟨rfl, rfl, rows_same⟩, trivial⟩, ⟨rfl, rfl⟩, ⟨rfl, rfl⟩, rfl, ⟨rfl, rfl⟩, ⟨rfl, rfl⟩, rfl, ⟨rfl, rfl⟩, ⟨rfl, rfl⟩, rfl, trivial⟩
  · replace h := condT h
    conv => whnf
    refine splD (fun g367 => ?_) (fun g367 => ?_)
    · replace h := iteP h g367
      conv => whnf
      cases h
      exact Done.of [] [] rfl rfl ⟨⟨rfl, rfl⟩, ⟨rfl, trivial⟩, rfl, trivial⟩
    · replace h := iteN h g367
      conv => whnf
      refine splN (fun g368 => ?_) (fun g368 => ?_)
      · replace h := iteN h g368
        conv => whnf
        cases h
        exact Done.of [] [] rfl rfl ⟨⟨rfl, rfl⟩, ⟨rfl, trivial⟩, rfl, trivial⟩
      · replace h := iteP h g368
        conv => whnf
        refine Pick.no ?_
        conv => whnf
        obtain ⟨y369, e370, h⟩ := bind_ex h
        refine CallOk.of (laws_toSurreal_ct e370) ?_
        conv => whnf
        refine Pick.no ?_
        conv => whnf
        obtain ⟨y371, e372, h⟩ := bind_ex h
        refine CallOk.of (laws_toSurreal_ct e372) ?_
        conv => whnf
        refine Pick.no ?_
        conv => whnf
        refine Take.all (rfl) ?_
        conv => whnf
        refine Take.all (rfl) ?_
        conv => whnf
        obtain ⟨y373, e374, h⟩ := bind_ex h
        refine CallOk.of (impl_QuotientTerms_ct e374) ?_
        conv => whnf
        refine spl (fun g375 => ?_) (fun g375 => ?_)
        · replace h := iteT h g375
          conv => whnf
          exact CutK.piece (laws_FnExactQuotientTerms_p27_ct  h) [some 512, some 576, some 832, some 896, some 1216, some 1280, some 1184000, some 1184001, some 1184002, some 1184003, some 8256, some 8257] [] ⟨⟨rfl, rfl⟩, ⟨rfl, ⟨rfl, ⟨rfl, rfl⟩, trivial⟩, ⟨rfl, ⟨rfl, rfl⟩, trivial⟩, ⟨rfl, ⟨rfl, rfl⟩, trivial⟩, ⟨rfl, ⟨rfl, rfl⟩, trivial⟩, ⟨rfl, ⟨rfl, rfl⟩, trivial⟩, ⟨rfl, ⟨rfl, rfl⟩, trivial⟩, ⟨rfl, rfl, rows_same⟩, ⟨rfl, rfl, rows_same⟩, ⟨rfl, rfl, rows_same⟩, ⟨rfl, rfl, rows_same⟩, ⟨rfl, rfl, rows_same⟩, ⟨rfl, rfl, rows_same⟩, trivial⟩, ⟨rfl, rfl⟩, ⟨rfl, rfl⟩, rfl, ⟨rfl, rfl⟩, ⟨rfl, rfl⟩, rfl, ⟨rfl, rfl⟩, ⟨rfl, rfl⟩, rfl, trivial⟩
        · replace h := iteF h g375
          conv => whnf
          exact CutK.piece (laws_FnExactQuotientTerms_p27_ct  h) [some 512, some 576, some 832, some 896, some 1216, some 1280, some 1184000, some 1184001, some 1184002, some 1184003, some 8256, some 8257] [] ⟨⟨rfl, rfl⟩, ⟨rfl, ⟨rfl, ⟨rfl, rfl⟩, trivial⟩, ⟨rfl, ⟨rfl, rfl⟩, trivial⟩, ⟨rfl, ⟨rfl, rfl⟩, trivial⟩, ⟨rfl, ⟨rfl, rfl⟩, trivial⟩, ⟨rfl, ⟨rfl, rfl⟩, trivial⟩, ⟨rfl, ⟨rfl, rfl⟩, trivial⟩, ⟨rfl, rfl, rows_same⟩, ⟨rfl, rfl, rows_same⟩, ⟨rfl, rfl, rows_same⟩, ⟨rfl, rfl, rows_same⟩, ⟨rfl, rfl, rows_same⟩, ⟨rfl, rfl, rows_same⟩, trivial⟩, ⟨rfl, rfl⟩, ⟨rfl, rfl⟩, rfl, ⟨rfl, rfl⟩, ⟨rfl, rfl⟩, rfl, ⟨rfl, rfl⟩, ⟨rfl, rfl⟩, rfl, trivial⟩
def laws_FnExactQuotientTerms_p22 (k : Nat) (a1 : Rw) (a2 : Rw) (a3 : Int) (o239 : Int) (o240 : Int) (o241 : Rw) (o242 : Rw) (o243 : Rw) (o244 : Rw) (v247 : Bool) : Option Bool :=
  (cond v247 (if o240 < (0 : Int) then some false else ((laws_heldSurreal k o244 o240).bind fun y380 => (laws_FnExactQuotientTerms_p24 k a1 a2 a3 o239 y380 o241 o242 o243 o244 true))) (if o240 < (0 : Int) then some false else ((laws_heldSurreal k o244 o240).bind fun y377 => (laws_FnExactQuotientTerms_p24 k a1 a2 a3 o239 y377 o241 o242 o243 o244 false))))
set_option maxHeartbeats 4000000 in
set_option maxRecDepth 100000 in
theorem laws_FnExactQuotientTerms_p22_ct {k : Nat} {a1 : Rw} {a2 : Rw} {a3 : Int} {o239 : Int} {o240 : Int} {o241 : Rw} {o242 : Rw} {o243 : Rw} {o244 : Rw} {v247 : Bool} {r : Bool} (h : laws_FnExactQuotientTerms_p22 k a1 a2 a3 o239 o240 o241 o242 o243 o244 v247 = some r) : X prog 0 (tlF f4 22) (mk 161 [(2, .d (D.int .i64 a3)), (3, .ptr 192 0), (4, .ptr 256 0), (8, .ptr 512 0), (9, .ptr 576 0), (10, .d (D.bool v247)), (13, .ptr 832 0), (14, .ptr 896 0), (17, .d (D.int .i64 o239)), (18, .d (D.int .i64 o240))] [(192, .box 24 [.d (D.sl a1)]), (256, .box 24 [.d (D.sl a2)]), (512, .box 28 [.os 1174000 o241.length]), (576, .box 28 [.os 1174001 o242.length]), (832, .box 28 [.os 1174002 o243.length]), (896, .box 28 [.os 1174003 o244.length]), (1174000, .arr 116 true o241), (1174001, .arr 116 true o242), (1174002, .arr 116 true o243), (1174003, .arr 116 true o244)]) (finK prog f4 0 (.d (D.bool r)) (⟨[], []⟩)) := by
  rw [laws_FnExactQuotientTerms_p22] at h
  cases v247
  · replace h := condF h
    conv => whnf
    refine splD (fun g376 => ?_) (fun g376 => ?_)
    · replace h := iteP h g376
      conv => whnf
      cases h
      exact Done.of [] [] rfl rfl ⟨⟨rfl, rfl⟩, ⟨rfl, trivial⟩, rfl, trivial⟩
    · replace h := iteN h g376
      conv => whnf
      refine Choice.old ?_
      conv => whnf
      refine Pick.no ?_
      conv => whnf
      refine Take.all (rfl) ?_
      conv => whnf
      obtain ⟨y377, e378, h⟩ := bind_ex h
      refine CallOk.of (laws_heldSurreal_ct e378) ?_
      conv => whnf
      exact CutK.piece (laws_FnExactQuotientTerms_p24_ct  h) [some 192, some 256, some 512, some 576, some 832, some 896, some 1174000, some 1174001, some 1174002, some 1174003] [] ⟨⟨rfl, rfl⟩, ⟨rfl, ⟨rfl, rfl, trivial⟩, ⟨rfl, rfl, trivial⟩, ⟨rfl, ⟨rfl, rfl⟩, trivial⟩, ⟨rfl, ⟨rfl, rfl⟩, trivial⟩, ⟨rfl, ⟨rfl, rfl⟩, trivial⟩, ⟨rfl, ⟨rfl, rfl⟩, trivial⟩, ⟨rfl, rfl, rows_same⟩, ⟨rfl, rfl, rows_same⟩, ⟨rfl, rfl, rows_same⟩, ⟨rfl, rfl, rows_same⟩, trivial⟩, rfl, ⟨rfl, rfl⟩, ⟨rfl, rfl⟩, ⟨rfl, rfl⟩, ⟨rfl, rfl⟩, rfl, ⟨rfl, rfl⟩, ⟨rfl, rfl⟩, rfl, rfl, trivial⟩
  · replace h := condT h
    conv => whnf
    refine splD (fun g379 => ?_) (fun g379 => ?_)
    · replace h := iteP h g379
      conv => whnf
      cases h
      exact Done.of [] [] rfl rfl ⟨⟨rfl, rfl⟩, ⟨rfl, trivial⟩, rfl, trivial⟩
    · replace h := iteN h g379
      conv => whnf
      refine Choice.old ?_
      conv => whnf
      refine Pick.no ?_
      conv => whnf
      refine Take.all (rfl) ?_
      conv => whnf
      obtain ⟨y380, e381, h⟩ := bind_ex h
      refine CallOk.of (laws_heldSurreal_ct e381) ?_
      conv => whnf
      exact CutK.piece (laws_FnExactQuotientTerms_p24_ct  h) [some 192, some 256, some 512, some 576, some 832, some 896, some 1174000, some 1174001, some 1174002, some 1174003] [] ⟨⟨rfl, rfl⟩, ⟨rfl, ⟨rfl, rfl, trivial⟩, ⟨rfl, rfl, trivial⟩, ⟨rfl, ⟨rfl, rfl⟩, trivial⟩, ⟨rfl, ⟨rfl, rfl⟩, trivial⟩, ⟨rfl, ⟨rfl, rfl⟩, trivial⟩, ⟨rfl, ⟨rfl, rfl⟩, trivial⟩, ⟨rfl, rfl, rows_same⟩, ⟨rfl, rfl, rows_same⟩, ⟨rfl, rfl, rows_same⟩, ⟨rfl, rfl, rows_same⟩, trivial⟩, rfl, ⟨rfl, rfl⟩, ⟨rfl, rfl⟩, ⟨rfl, rfl⟩, ⟨rfl, rfl⟩, rfl, ⟨rfl, rfl⟩, ⟨rfl, rfl⟩, rfl, rfl, trivial⟩
def laws_FnExactQuotientTerms_p20 (k : Nat) (a1 : Rw) (a2 : Rw) (a3 : Int) (o228 : Int) (o229 : Rw) (o230 : Rw) (o231 : Rw) (o232 : Rw) (v236 : Bool) : Option Bool :=
  (cond v236 ((laws_heldSurreal k o231 1).bind fun y384 => (laws_FnExactQuotientTerms_p22 k a1 a2 a3 o228 y384 o229 o230 o231 o232 true)) ((laws_heldSurreal k o231 1).bind fun y382 => (laws_FnExactQuotientTerms_p22 k a1 a2 a3 o228 y382 o229 o230 o231 o232 false)))
set_option maxHeartbeats 4000000 in
set_option maxRecDepth 100000 in
theorem laws_FnExactQuotientTerms_p20_ct {k : Nat} {a1 : Rw} {a2 : Rw} {a3 : Int} {o228 : Int} {o229 : Rw} {o230 : Rw} {o231 : Rw} {o232 : Rw} {v236 : Bool} {r : Bool} (h : laws_FnExactQuotientTerms_p20 k a1 a2 a3 o228 o229 o230 o231 o232 v236 = some r) : X prog 0 (tlF f4 20) (mk 161 [(2, .d (D.int .i64 a3)), (3, .ptr 192 0), (4, .ptr 256 0), (8, .ptr 512 0), (9, .ptr 576 0), (10, .d (D.bool v236)), (13, .ptr 832 0), (14, .ptr 896 0), (17, .d (D.int .i64 o228))] [(192, .box 24 [.d (D.sl a1)]), (256, .box 24 [.d (D.sl a2)]), (512, .box 28 [.os 1164000 o229.length]), (576, .box 28 [.os 1164001 o230.length]), (832, .box 28 [.os 1164002 o231.length]), (896, .box 28 [.os 1164003 o232.length]), (1164000, .arr 116 true o229), (1164001, .arr 116 true o230), (1164002, .arr 116 true o231), (1164003, .arr 116 true o232)]) (finK prog f4 0 (.d (D.bool r)) (⟨[], []⟩)) := by
  rw [laws_FnExactQuotientTerms_p20] at h
  cases v236
  · replace h := condF h
    conv => whnf
    refine Choice.old ?_
    conv => whnf
    refine Pick.no ?_
    conv => whnf
    refine Take.all (rfl) ?_
    conv => whnf
    obtain ⟨y382, e383, h⟩ := bind_ex h
    refine CallOk.of (laws_heldSurreal_ct e383) ?_
    conv => whnf
    exact CutK.piece (laws_FnExactQuotientTerms_p22_ct  h) [some 192, some 256, some 512, some 576, some 832, some 896, some 1164000, some 1164001, some 1164002, some 1164003] [] ⟨⟨rfl, rfl⟩, ⟨rfl, ⟨rfl, rfl, trivial⟩, ⟨rfl, rfl, trivial⟩, ⟨rfl, ⟨rfl, rfl⟩, trivial⟩, ⟨rfl, ⟨rfl, rfl⟩, trivial⟩, ⟨rfl, ⟨rfl, rfl⟩, trivial⟩, ⟨rfl, ⟨rfl, rfl⟩, trivial⟩, ⟨rfl, rfl, rows_same⟩, ⟨rfl, rfl, rows_same⟩, ⟨rfl, rfl, rows_same⟩, ⟨rfl, rfl, rows_same⟩, trivial⟩, rfl, ⟨rfl, rfl⟩, ⟨rfl, rfl⟩, ⟨rfl, rfl⟩, ⟨rfl, rfl⟩, rfl, ⟨rfl, rfl⟩, ⟨rfl, rfl⟩, rfl, rfl, trivial⟩
  · replace h := condT h
    conv => whnf
    refine Choice.old ?_
    conv => whnf
    refine Pick.no ?_
    conv => whnf
    refine Take.all (rfl) ?_
    conv => whnf
    obtain ⟨y384, e385, h⟩ := bind_ex h
    refine CallOk.of (laws_heldSurreal_ct e385) ?_
    conv => whnf
    exact CutK.piece (laws_FnExactQuotientTerms_p22_ct  h) [some 192, some 256, some 512, some 576, some 832, some 896, some 1164000, some 1164001, some 1164002, some 1164003] [] ⟨⟨rfl, rfl⟩, ⟨rfl, ⟨rfl, rfl, trivial⟩, ⟨rfl, rfl, trivial⟩, ⟨rfl, ⟨rfl, rfl⟩, trivial⟩, ⟨rfl, ⟨rfl, rfl⟩, trivial⟩, ⟨rfl, ⟨rfl, rfl⟩, trivial⟩, ⟨rfl, ⟨rfl, rfl⟩, trivial⟩, ⟨rfl, rfl, rows_same⟩, ⟨rfl, rfl, rows_same⟩, ⟨rfl, rfl, rows_same⟩, ⟨rfl, rfl, rows_same⟩, trivial⟩, rfl, ⟨rfl, rfl⟩, ⟨rfl, rfl⟩, ⟨rfl, rfl⟩, ⟨rfl, rfl⟩, rfl, ⟨rfl, rfl⟩, ⟨rfl, rfl⟩, rfl, rfl, trivial⟩
def laws_FnExactQuotientTerms_p19 (k : Nat) (a1 : Rw) (a2 : Rw) (a3 : Int) (o216 : Int) (o217 : Rw) (o218 : Rw) (o219 : Rw) (o220 : Rw) (v224 : Bool) : Option Bool :=
  (cond v224 ((laws_markSurreal k o220 o216).bind fun y389 => (if y389.2.length = o220.length then (laws_FnExactQuotientTerms_p20 k a1 a2 a3 y389.1 o217 o218 o219 y389.2 true) else none)) ((laws_markSurreal k o220 o216).bind fun y386 => (if y386.2.length = o220.length then (laws_FnExactQuotientTerms_p20 k a1 a2 a3 y386.1 o217 o218 o219 y386.2 false) else none)))
set_option maxHeartbeats 4000000 in
set_option maxRecDepth 100000 in
theorem laws_FnExactQuotientTerms_p19_ct {k : Nat} {a1 : Rw} {a2 : Rw} {a3 : Int} {o216 : Int} {o217 : Rw} {o218 : Rw} {o219 : Rw} {o220 : Rw} {v224 : Bool} {r : Bool} (h : laws_FnExactQuotientTerms_p19 k a1 a2 a3 o216 o217 o218 o219 o220 v224 = some r) : X prog 0 (tlF f4 19) (mk 161 [(2, .d (D.int .i64 a3)), (3, .ptr 192 0), (4, .ptr 256 0), (8, .ptr 512 0), (9, .ptr 576 0), (10, .d (D.bool v224)), (13, .ptr 832 0), (14, .ptr 896 0), (17, .d (D.int .i64 o216))] [(192, .box 24 [.d (D.sl a1)]), (256, .box 24 [.d (D.sl a2)]), (512, .box 28 [.os 1159000 o217.length]), (576, .box 28 [.os 1159001 o218.length]), (832, .box 28 [.os 1159002 o219.length]), (896, .box 28 [.os 1159003 o220.length]), (1159000, .arr 116 true o217), (1159001, .arr 116 true o218), (1159002, .arr 116 true o219), (1159003, .arr 116 true o220)]) (finK prog f4 0 (.d (D.bool r)) (⟨[], []⟩)) := by
  rw [laws_FnExactQuotientTerms_p19] at h
  cases v224
  · replace h := condF h
    conv => whnf
    refine Choice.new ?_
    conv => whnf
    refine Req.of (rfl) ?_
    conv => whnf
    obtain ⟨y386, e387, h⟩ := bind_ex h
    refine MarkOk.of (laws_markSurreal_ct e387) ?_
    conv => whnf
    obtain ⟨g388, h⟩ := req_ex h
    exact CutK.piece (laws_FnExactQuotientTerms_p20_ct  h) [some 192, some 256, some 512, some 576, some 832, some 896, some 1159000, some 1159001, some 1159002, some 1159003] [] ⟨⟨rfl, rfl⟩, ⟨rfl, ⟨rfl, rfl, trivial⟩, ⟨rfl, rfl, trivial⟩, ⟨rfl, ⟨rfl, rfl⟩, trivial⟩, ⟨rfl, ⟨rfl, rfl⟩, trivial⟩, ⟨rfl, ⟨rfl, rfl⟩, trivial⟩, ⟨rfl, ⟨(by first | rfl | exact List.length_append.symm | (simp; done) | omega), rfl⟩, trivial⟩, ⟨rfl, rfl, rows_same⟩, ⟨rfl, rfl, rows_same⟩, ⟨rfl, rfl, rows_same⟩, ⟨rfl, rfl, rows_same⟩, trivial⟩, rfl, ⟨rfl, rfl⟩, ⟨rfl, rfl⟩, ⟨rfl, rfl⟩, ⟨rfl, rfl⟩, rfl, ⟨rfl, rfl⟩, ⟨rfl, rfl⟩, rfl, trivial⟩
  · replace h := condT h
    conv => whnf
    refine Choice.new ?_
    conv => whnf
    refine Req.of (rfl) ?_
    conv => whnf
    obtain ⟨y389, e390, h⟩ := bind_ex h
    refine MarkOk.of (laws_markSurreal_ct e390) ?_
    conv => whnf
    obtain ⟨g391, h⟩ := req_ex h
    exact CutK.piece (laws_FnExactQuotientTerms_p20_ct  h) [some 192, some 256, some 512, some 576, some 832, some 896, some 1159000, some 1159001, some 1159002, some 1159003] [] ⟨⟨rfl, rfl⟩, ⟨rfl, ⟨rfl, rfl, trivial⟩, ⟨rfl, rfl, trivial⟩, ⟨rfl, ⟨rfl, rfl⟩, trivial⟩, ⟨rfl, ⟨rfl, rfl⟩, trivial⟩, ⟨rfl, ⟨rfl, rfl⟩, trivial⟩, ⟨rfl, ⟨(by first | rfl | exact List.length_append.symm | (simp; done) | omega), rfl⟩, trivial⟩, ⟨rfl, rfl, rows_same⟩, ⟨rfl, rfl, rows_same⟩, ⟨rfl, rfl, rows_same⟩, ⟨rfl, rfl, rows_same⟩, trivial⟩, rfl, ⟨rfl, rfl⟩, ⟨rfl, rfl⟩, ⟨rfl, rfl⟩, ⟨rfl, rfl⟩, rfl, ⟨rfl, rfl⟩, ⟨rfl, rfl⟩, rfl, trivial⟩
def laws_FnExactQuotientTerms_p17 (k : Nat) (a1 : Rw) (a2 : Rw) (a3 : Int) (o187 : Rw) (o188 : Rw) (o189 : Rw) (o190 : Rw) (v212 : Bool) : Option Bool :=
  (cond v212 ((laws_markSurreal k o189 1).bind fun y395 => (if y395.2.length = o189.length then (laws_FnExactQuotientTerms_p19 k a1 a2 a3 y395.1 o187 o188 y395.2 o190 true) else none)) ((laws_markSurreal k o189 1).bind fun y392 => (if y392.2.length = o189.length then (laws_FnExactQuotientTerms_p19 k a1 a2 a3 y392.1 o187 o188 y392.2 o190 false) else none)))
set_option maxHeartbeats 4000000 in
set_option maxRecDepth 100000 in
theorem laws_FnExactQuotientTerms_p17_ct {k : Nat} {a1 : Rw} {a2 : Rw} {a3 : Int} {o187 : Rw} {o188 : Rw} {o189 : Rw} {o190 : Rw} {v212 : Bool} {r : Bool} (h : laws_FnExactQuotientTerms_p17 k a1 a2 a3 o187 o188 o189 o190 v212 = some r) : X prog 0 (tlF f4 17) (mk 161 [(2, .d (D.int .i64 a3)), (3, .ptr 192 0), (4, .ptr 256 0), (8, .ptr 512 0), (9, .ptr 576 0), (10, .d (D.bool v212)), (13, .ptr 832 0), (14, .ptr 896 0)] [(192, .box 24 [.d (D.sl a1)]), (256, .box 24 [.d (D.sl a2)]), (512, .box 28 [.os 1149000 o187.length]), (576, .box 28 [.os 1149001 o188.length]), (832, .box 28 [.os 1149002 o189.length]), (896, .box 28 [.os 1149003 o190.length]), (1149000, .arr 116 true o187), (1149001, .arr 116 true o188), (1149002, .arr 116 true o189), (1149003, .arr 116 true o190)]) (finK prog f4 0 (.d (D.bool r)) (⟨[], []⟩)) := by
  rw [laws_FnExactQuotientTerms_p17] at h
  cases v212
  · replace h := condF h
    conv => whnf
    refine Choice.new ?_
    conv => whnf
    refine Req.of (rfl) ?_
    conv => whnf
    obtain ⟨y392, e393, h⟩ := bind_ex h
    refine MarkOk.of (laws_markSurreal_ct e393) ?_
    conv => whnf
    obtain ⟨g394, h⟩ := req_ex h
    exact CutK.piece (laws_FnExactQuotientTerms_p19_ct  h) [some 192, some 256, some 512, some 576, some 832, some 896, some 1149000, some 1149001, some 1149002, some 1149003] [] ⟨⟨rfl, rfl⟩, ⟨rfl, ⟨rfl, rfl, trivial⟩, ⟨rfl, rfl, trivial⟩, ⟨rfl, ⟨rfl, rfl⟩, trivial⟩, ⟨rfl, ⟨rfl, rfl⟩, trivial⟩, ⟨rfl, ⟨(by first | rfl | exact List.length_append.symm | (simp; done) | omega), rfl⟩, trivial⟩, ⟨rfl, ⟨rfl, rfl⟩, trivial⟩, ⟨rfl, rfl, rows_same⟩, ⟨rfl, rfl, rows_same⟩, ⟨rfl, rfl, rows_same⟩, ⟨rfl, rfl, rows_same⟩, trivial⟩, rfl, ⟨rfl, rfl⟩, ⟨rfl, rfl⟩, ⟨rfl, rfl⟩, ⟨rfl, rfl⟩, rfl, ⟨rfl, rfl⟩, ⟨rfl, rfl⟩, rfl, trivial⟩
  · replace h := condT h
    conv => whnf
    refine Choice.new ?_
    conv => whnf
    refine Req.of (rfl) ?_
    conv => whnf
    obtain ⟨y395, e396, h⟩ := bind_ex h
    refine MarkOk.of (laws_markSurreal_ct e396) ?_
    conv => whnf
    obtain ⟨g397, h⟩ := req_ex h
    exact CutK.piece (laws_FnExactQuotientTerms_p19_ct  h) [some 192, some 256, some 512, some 576, some 832, some 896, some 1149000, some 1149001, some 1149002, some 1149003] [] ⟨⟨rfl, rfl⟩, ⟨rfl, ⟨rfl, rfl, trivial⟩, ⟨rfl, rfl, trivial⟩, ⟨rfl, ⟨rfl, rfl⟩, trivial⟩, ⟨rfl, ⟨rfl, rfl⟩, trivial⟩, ⟨rfl, ⟨(by first | rfl | exact List.length_append.symm | (simp; done) | omega), rfl⟩, trivial⟩, ⟨rfl, ⟨rfl, rfl⟩, trivial⟩, ⟨rfl, rfl, rows_same⟩, ⟨rfl, rfl, rows_same⟩, ⟨rfl, rfl, rows_same⟩, ⟨rfl, rfl, rows_same⟩, trivial⟩, rfl, ⟨rfl, rfl⟩, ⟨rfl, rfl⟩, ⟨rfl, rfl⟩, ⟨rfl, rfl⟩, rfl, ⟨rfl, rfl⟩, ⟨rfl, rfl⟩, rfl, trivial⟩
def laws_FnExactQuotientTerms_p16 (k : Nat) (a1 : Rw) (a2 : Rw) (a3 : Int) (o164 : Int) (o165 : Rw) (o166 : Rw) (o167 : Rw) (o168 : Rw) (v172 : Bool) (v176 : Bool) : Option Bool :=
  (cond v172 (cond v176 (if o164 < (0 : Int) then some false else ((laws_eqSurreal k o167 o165).bind fun y420 => (if y420 = true then ((laws_eqSurreal k o168 o166).bind fun y423 => (if y423 = true then (laws_FnExactQuotientTerms_p17 k a1 a2 a3 o165 o166 o167 o168 true) else some false)) else some false))) (if o164 < (0 : Int) then some false else ((laws_eqSurreal k o167 o165).bind fun y413 => (if y413 = true then ((laws_eqSurreal k o168 o166).bind fun y416 => (if y416 = true then some false else some false)) else some false)))) (cond v176 (if o164 < (0 : Int) then some false else ((laws_eqSurreal k o167 o165).bind fun y406 => (if y406 = true then ((laws_eqSurreal k o168 o166).bind fun y409 => (if y409 = true then some false else some false)) else some false))) (if o164 < (0 : Int) then some false else ((laws_eqSurreal k o167 o165).bind fun y399 => (if y399 = true then ((laws_eqSurreal k o168 o166).bind fun y402 => (if y402 = true then (laws_FnExactQuotientTerms_p17 k a1 a2 a3 o165 o166 o167 o168 false) else some false)) else some false)))))
set_option maxHeartbeats 4000000 in
set_option maxRecDepth 100000 in
theorem laws_FnExactQuotientTerms_p16_ct {k : Nat} {a1 : Rw} {a2 : Rw} {a3 : Int} {o164 : Int} {o165 : Rw} {o166 : Rw} {o167 : Rw} {o168 : Rw} {v172 : Bool} {v176 : Bool} {r : Bool} (h : laws_FnExactQuotientTerms_p16 k a1 a2 a3 o164 o165 o166 o167 o168 v172 v176 = some r) : X prog 0 (tlF f4 16) (mk 161 [(2, .d (D.int .i64 a3)), (3, .ptr 192 0), (4, .ptr 256 0), (8, .ptr 512 0), (9, .ptr 576 0), (10, .d (D.bool v172)), (13, .ptr 832 0), (14, .ptr 896 0), (15, .d (D.bool v176)), (16, .d (D.int .i64 o164))] [(192, .box 24 [.d (D.sl a1)]), (256, .box 24 [.d (D.sl a2)]), (512, .box 28 [.os 1144000 o165.length]), (576, .box 28 [.os 1144001 o166.length]), (832, .box 28 [.os 1144002 o167.length]), (896, .box 28 [.os 1144003 o168.length]), (1144000, .arr 116 true o165), (1144001, .arr 116 true o166), (1144002, .arr 116 true o167), (1144003, .arr 116 true o168)]) (finK prog f4 0 (.d (D.bool r)) (⟨[], []⟩)) := by
  rw [laws_FnExactQuotientTerms_p16] at h
  cases v172
  · replace h := condF h
    cases v176
    · replace h := condF h
      conv => whnf
      refine splD (fun g398 => ?_) (fun g398 => ?_)
      · replace h := iteP h g398
        conv => whnf
        refine CutK.norm [2, 3, 4, 8, 9, 10, 13, 14, 103] [192, 256, 512, 576, 832, 896, 1144000, 1144001, 1144002, 1144003] ?_
        conv => whnf
        cases h
        exact Done.of [] [] rfl rfl ⟨⟨rfl, rfl⟩, ⟨rfl, trivial⟩, rfl, trivial⟩
      · replace h := iteN h g398
        conv => whnf
        refine Pick.no ?_
        conv => whnf
        refine Take.all (rfl) ?_
        conv => whnf
        refine Take.all (rfl) ?_
        conv => whnf
        obtain ⟨y399, e400, h⟩ := bind_ex h
        refine CallOk.of (laws_eqSurreal_ct e400) ?_
        conv => whnf
        refine spl (fun g401 => ?_) (fun g401 => ?_)
        · replace h := iteT h g401
          conv => whnf
          refine Pick.no ?_
          conv => whnf
          refine Take.all (rfl) ?_
          conv => whnf
          refine Take.all (rfl) ?_
          conv => whnf
          obtain ⟨y402, e403, h⟩ := bind_ex h
          refine CallOk.of (laws_eqSurreal_ct e403) ?_
          conv => whnf
          refine spl (fun g404 => ?_) (fun g404 => ?_)
          · replace h := iteT h g404
            conv => whnf
            refine splF ?_
            conv => whnf
            refine CutK.norm [2, 3, 4, 8, 9, 10, 13, 14, 103] [192, 256, 512, 576, 832, 896, 1144000, 1144001, 1144002, 1144003] ?_
            conv => whnf
            exact CutK.piece (laws_FnExactQuotientTerms_p17_ct  h) [some 192, some 256, some 512, some 576, some 832, some 896, some 1144000, some 1144001, some 1144002, some 1144003] [] ⟨⟨rfl, rfl⟩, ⟨rfl, ⟨rfl, rfl, trivial⟩, ⟨rfl, rfl, trivial⟩, ⟨rfl, ⟨rfl, rfl⟩, trivial⟩, ⟨rfl, ⟨rfl, rfl⟩, trivial⟩, ⟨rfl, ⟨rfl, rfl⟩, trivial⟩, ⟨rfl, ⟨rfl, rfl⟩, trivial⟩, ⟨rfl, rfl, rows_same⟩, ⟨rfl, rfl, rows_same⟩, ⟨rfl, rfl, rows_same⟩, ⟨rfl, rfl, rows_same⟩, trivial⟩, rfl, ⟨rfl, rfl⟩, ⟨rfl, rfl⟩, ⟨rfl, rfl⟩, ⟨rfl, rfl⟩, rfl, ⟨rfl, rfl⟩, ⟨rfl, rfl⟩, trivial⟩
          · replace h := iteF h g404
            conv => whnf
            refine CutK.norm [2, 3, 4, 8, 9, 10, 13, 14, 103] [192, 256, 512, 576, 832, 896, 1144000, 1144001, 1144002, 1144003] ?_
            conv => whnf
            cases h
            exact Done.of [] [] rfl rfl ⟨⟨rfl, rfl⟩, ⟨rfl, trivial⟩, rfl, trivial⟩
        · replace h := iteF h g401
          conv => whnf
          refine CutK.norm [2, 3, 4, 8, 9, 10, 13, 14, 103] [192, 256, 512, 576, 832, 896, 1144000, 1144001, 1144002, 1144003] ?_
          conv => whnf
          cases h
          exact Done.of [] [] rfl rfl ⟨⟨rfl, rfl⟩, ⟨rfl, trivial⟩, rfl, trivial⟩
    · replace h := condT h
      conv => whnf
      refine splD (fun g405 => ?_) (fun g405 => ?_)
      · replace h := iteP h g405
        conv => whnf
        refine CutK.norm [2, 3, 4, 8, 9, 10, 13, 14, 103] [192, 256, 512, 576, 832, 896, 1144000, 1144001, 1144002, 1144003] ?_
        conv => whnf
        cases h
        exact Done.of [] [] rfl rfl ⟨⟨rfl, rfl⟩, ⟨rfl, trivial⟩, rfl, trivial⟩
      · replace h := iteN h g405
        conv => whnf
        refine Pick.no ?_
        conv => whnf
        refine Take.all (rfl) ?_
        conv => whnf
        refine Take.all (rfl) ?_
        conv => whnf
        obtain ⟨y406, e407, h⟩ := bind_ex h
        refine CallOk.of (laws_eqSurreal_ct e407) ?_
        conv => whnf
        refine spl (fun g408 => ?_) (fun g408 => ?_)
        · replace h := iteT h g408
          conv => whnf
          refine Pick.no ?_
          conv => whnf
          refine Take.all (rfl) ?_
          conv => whnf
          refine Take.all (rfl) ?_
          conv => whnf
          obtain ⟨y409, e410, h⟩ := bind_ex h
          refine CallOk.of (laws_eqSurreal_ct e410) ?_
          conv => whnf
          refine spl (fun g411 => ?_) (fun g411 => ?_)
          · replace h := iteT h g411
            conv => whnf
            refine splT ?_
            conv => whnf
            refine CutK.norm [2, 3, 4, 8, 9, 10, 13, 14, 103] [192, 256, 512, 576, 832, 896, 1144000, 1144001, 1144002, 1144003] ?_
            conv => whnf
            cases h
            exact Done.of [] [] rfl rfl ⟨⟨rfl, rfl⟩, ⟨rfl, trivial⟩, rfl, trivial⟩
          · replace h := iteF h g411
            conv => whnf
            refine CutK.norm [2, 3, 4, 8, 9, 10, 13, 14, 103] [192, 256, 512, 576, 832, 896, 1144000, 1144001, 1144002, 1144003] ?_
            conv => whnf
            cases h
            exact Done.of [] [] rfl rfl ⟨⟨rfl, rfl⟩, ⟨rfl, trivial⟩, rfl, trivial⟩
        · replace h := iteF h g408
          conv => whnf
          refine CutK.norm [2, 3, 4, 8, 9, 10, 13, 14, 103] [192, 256, 512, 576, 832, 896, 1144000, 1144001, 1144002, 1144003] ?_
          conv => whnf
          cases h
          exact Done.of [] [] rfl rfl ⟨⟨rfl, rfl⟩, ⟨rfl, trivial⟩, rfl, trivial⟩
  · replace h := condT h
    cases v176
    · replace h := condF h
      conv => whnf
      refine splD (fun g412 => ?_) (fun g412 => ?_)
      · replace h := iteP h g412
        conv => whnf
        refine CutK.norm [2, 3, 4, 8, 9, 10, 13, 14, 103] [192, 256, 512, 576, 832, 896, 1144000, 1144001, 1144002, 1144003] ?_
        conv => whnf
        cases h
        exact Done.of [] [] rfl rfl ⟨⟨rfl, rfl⟩, ⟨rfl, trivial⟩, rfl, trivial⟩
      · replace h := iteN h g412
        conv => whnf
        refine Pick.no ?_
        conv => whnf
        refine Take.all (rfl) ?_
        conv => whnf
        refine Take.all (rfl) ?_
        conv => whnf
        obtain ⟨y413, e414, h⟩ := bind_ex h
        refine CallOk.of (laws_eqSurreal_ct e414) ?_
        conv => whnf
        refine spl (fun g415 => ?_) (fun g415 => ?_)
        · replace h := iteT h g415
          conv => whnf
          refine Pick.no ?_
          conv => whnf
          refine Take.all (rfl) ?_
          conv => whnf
          refine Take.all (rfl) ?_
          conv => whnf
          obtain ⟨y416, e417, h⟩ := bind_ex h
          refine CallOk.of (laws_eqSurreal_ct e417) ?_
          conv => whnf
          refine spl (fun g418 => ?_) (fun g418 => ?_)
          · replace h := iteT h g418
            conv => whnf
            refine splT ?_
            conv => whnf
            refine CutK.norm [2, 3, 4, 8, 9, 10, 13, 14, 103] [192, 256, 512, 576, 832, 896, 1144000, 1144001, 1144002, 1144003] ?_
            conv => whnf
            cases h
            exact Done.of [] [] rfl rfl ⟨⟨rfl, rfl⟩, ⟨rfl, trivial⟩, rfl, trivial⟩
          · replace h := iteF h g418
            conv => whnf
            refine CutK.norm [2, 3, 4, 8, 9, 10, 13, 14, 103] [192, 256, 512, 576, 832, 896, 1144000, 1144001, 1144002, 1144003] ?_
            conv => whnf
            cases h
            exact Done.of [] [] rfl rfl ⟨⟨rfl, rfl⟩, ⟨rfl, trivial⟩, rfl, trivial⟩
        · replace h := iteF h g415
          conv => whnf
          refine CutK.norm [2, 3, 4, 8, 9, 10, 13, 14, 103] [192, 256, 512, 576, 832, 896, 1144000, 1144001, 1144002, 1144003] ?_
          conv => whnf
          cases h
          exact Done.of [] [] rfl rfl ⟨⟨rfl, rfl⟩, ⟨rfl, trivial⟩, rfl, trivial⟩
    · replace h := condT h
      conv => whnf
      refine splD (fun g419 => ?_) (fun g419 => ?_)
      · replace h := iteP h g419
        conv => whnf
        refine CutK.norm [2, 3, 4, 8, 9, 10, 13, 14, 103] [192, 256, 512, 576, 832, 896, 1144000, 1144001, 1144002, 1144003] ?_
        conv => whnf
        cases h
        exact Done.of [] [] rfl rfl ⟨⟨rfl, rfl⟩, ⟨rfl, trivial⟩, rfl, trivial⟩
      · replace h := iteN h g419
        conv => whnf
        refine Pick.no ?_
        conv => whnf
        refine Take.all (rfl) ?_
        conv => whnf
        refine Take.all (rfl) ?_
        conv => whnf
        obtain ⟨y420, e421, h⟩ := bind_ex h
        refine CallOk.of (laws_eqSurreal_ct e421) ?_
        conv => whnf
        refine spl (fun g422 => ?_) (fun g422 => ?_)
        · replace h := iteT h g422
          conv => whnf
          refine Pick.no ?_
          conv => whnf
          refine Take.all (rfl) ?_
          conv => whnf
          refine Take.all (rfl) ?_
          conv => whnf
          obtain ⟨y423, e424, h⟩ := bind_ex h
          refine CallOk.of (laws_eqSurreal_ct e424) ?_
          conv => whnf
          refine spl (fun g425 => ?_) (fun g425 => ?_)
          · replace h := iteT h g425
            conv => whnf
            refine splF ?_
            conv => whnf
            refine CutK.norm [2, 3, 4, 8, 9, 10, 13, 14, 103] [192, 256, 512, 576, 832, 896, 1144000, 1144001, 1144002, 1144003] ?_
            conv => whnf
            exact CutK.piece (laws_FnExactQuotientTerms_p17_ct  h) [some 192, some 256, some 512, some 576, some 832, some 896, some 1144000, some 1144001, some 1144002, some 1144003] [] ⟨⟨rfl, rfl⟩, ⟨rfl, ⟨rfl, rfl, trivial⟩, ⟨rfl, rfl, trivial⟩, ⟨rfl, ⟨rfl, rfl⟩, trivial⟩, ⟨rfl, ⟨rfl, rfl⟩, trivial⟩, ⟨rfl, ⟨rfl, rfl⟩, trivial⟩, ⟨rfl, ⟨rfl, rfl⟩, trivial⟩, ⟨rfl, rfl, rows_same⟩, ⟨rfl, rfl, rows_same⟩, ⟨rfl, rfl, rows_same⟩, ⟨rfl, rfl, rows_same⟩, trivial⟩, rfl, ⟨rfl, rfl⟩, ⟨rfl, rfl⟩, ⟨rfl, rfl⟩, ⟨rfl, rfl⟩, rfl, ⟨rfl, rfl⟩, ⟨rfl, rfl⟩, trivial⟩
          · replace h := iteF h g425
            conv => whnf
            refine CutK.norm [2, 3, 4, 8, 9, 10, 13, 14, 103] [192, 256, 512, 576, 832, 896, 1144000, 1144001, 1144002, 1144003] ?_
            conv => whnf
            cases h
            exact Done.of [] [] rfl rfl ⟨⟨rfl, rfl⟩, ⟨rfl, trivial⟩, rfl, trivial⟩
        · replace h := iteF h g422
          conv => whnf
          refine CutK.norm [2, 3, 4, 8, 9, 10, 13, 14, 103] [192, 256, 512, 576, 832, 896, 1144000, 1144001, 1144002, 1144003] ?_
          conv => whnf
          cases h
          exact Done.of [] [] rfl rfl ⟨⟨rfl, rfl⟩, ⟨rfl, trivial⟩, rfl, trivial⟩
def laws_FnExactQuotientTerms_p15 (k : Nat) (a1 : Rw) (a2 : Rw) (a3 : Int) (o144 : Int) (o145 : Rw) (o146 : Rw) (o147 : Rw) (o148 : Rw) (o149 : Rw) (v153 : Bool) (v157 : Bool) : Option Bool :=
  (cond v153 (cond v157 ((laws_markSurreal k o147 o144).bind fun y435 => (if y435.2.length = o147.length then (laws_FnExactQuotientTerms_p16 k a1 a2 a3 y435.1 o145 o146 o148 o149 true true) else none)) ((laws_markSurreal k o147 o144).bind fun y432 => (if y432.2.length = o147.length then (laws_FnExactQuotientTerms_p16 k a1 a2 a3 y432.1 o145 o146 o148 o149 false true) else none))) (cond v157 ((laws_markSurreal k o147 o144).bind fun y429 => (if y429.2.length = o147.length then (laws_FnExactQuotientTerms_p16 k a1 a2 a3 y429.1 o145 o146 o148 o149 true false) else none)) ((laws_markSurreal k o147 o144).bind fun y426 => (if y426.2.length = o147.length then (laws_FnExactQuotientTerms_p16 k a1 a2 a3 y426.1 o145 o146 o148 o149 false false) else none))))
set_option maxHeartbeats 4000000 in
set_option maxRecDepth 100000 in
theorem laws_FnExactQuotientTerms_p15_ct {k : Nat} {a1 : Rw} {a2 : Rw} {a3 : Int} {o144 : Int} {o145 : Rw} {o146 : Rw} {o147 : Rw} {o148 : Rw} {o149 : Rw} {v153 : Bool} {v157 : Bool} {r : Bool} (h : laws_FnExactQuotientTerms_p15 k a1 a2 a3 o144 o145 o146 o147 o148 o149 v153 v157 = some r) : X prog 0 (tlF f4 15) (mk 161 [(2, .d (D.int .i64 a3)), (3, .ptr 192 0), (4, .ptr 256 0), (8, .ptr 512 0), (9, .ptr 576 0), (10, .d (D.bool v157)), (12, .ptr 768 0), (13, .ptr 832 0), (14, .ptr 896 0), (15, .d (D.bool v153)), (16, .d (D.int .i64 o144))] [(192, .box 24 [.d (D.sl a1)]), (256, .box 24 [.d (D.sl a2)]), (512, .box 28 [.os 1139000 o145.length]), (576, .box 28 [.os 1139001 o146.length]), (768, .box 28 [.os 1139002 o147.length]), (832, .box 28 [.os 1139003 o148.length]), (896, .box 28 [.os 1139004 o149.length]), (1139000, .arr 116 true o145), (1139001, .arr 116 true o146), (1139002, .arr 116 true o147), (1139003, .arr 116 true o148), (1139004, .arr 116 true o149)]) (finK prog f4 0 (.d (D.bool r)) (⟨[], []⟩)) := by
  rw [laws_FnExactQuotientTerms_p15] at h
  cases v153
  · replace h := condF h
    cases v157
    · replace h := condF h
      conv => whnf
      refine Choice.new ?_
      conv => whnf
      refine Req.of (rfl) ?_
      conv => whnf
      obtain ⟨y426, e427, h⟩ := bind_ex h
      refine MarkOk.of (laws_markSurreal_ct e427) ?_
      conv => whnf
      obtain ⟨g428, h⟩ := req_ex h
      exact CutK.piece (laws_FnExactQuotientTerms_p16_ct  h) [some 192, some 256, some 512, some 576, some 832, some 896, some 1139000, some 1139001, some 1139003, some 1139004] [] ⟨⟨rfl, rfl⟩, ⟨rfl, ⟨rfl, rfl, trivial⟩, ⟨rfl, rfl, trivial⟩, ⟨rfl, ⟨rfl, rfl⟩, trivial⟩, ⟨rfl, ⟨rfl, rfl⟩, trivial⟩, ⟨rfl, ⟨rfl, rfl⟩, trivial⟩, ⟨rfl, ⟨rfl, rfl⟩, trivial⟩, ⟨rfl, rfl, rows_same⟩, ⟨rfl, rfl, rows_same⟩, ⟨rfl, rfl, rows_same⟩, ⟨rfl, rfl, rows_same⟩, trivial⟩, rfl, ⟨rfl, rfl⟩, ⟨rfl, rfl⟩, ⟨rfl, rfl⟩, ⟨rfl, rfl⟩, rfl, ⟨rfl, rfl⟩, ⟨rfl, rfl⟩, rfl, rfl, trivial⟩
    · replace h := condT h
      conv => whnf
      refine Choice.new ?_
      conv => whnf
      refine Req.of (rfl) ?_
      conv => whnf
      obtain ⟨y429, e430, h⟩ := bind_ex h
      refine MarkOk.of (laws_markSurreal_ct e430) ?_
      conv => whnf
      obtain ⟨g431, h⟩ := req_ex h
      exact CutK.piece (laws_FnExactQuotientTerms_p16_ct  h) [some 192, some 256, some 512, some 576, some 832, some 896, some 1139000, some 1139001, some 1139003, some 1139004] [] ⟨⟨rfl, rfl⟩, ⟨rfl, ⟨rfl, rfl, trivial⟩, ⟨rfl, rfl, trivial⟩, ⟨rfl, ⟨rfl, rfl⟩, trivial⟩, ⟨rfl, ⟨rfl, rfl⟩, trivial⟩, ⟨rfl, ⟨rfl, rfl⟩, trivial⟩, ⟨rfl, ⟨rfl, rfl⟩, trivial⟩, ⟨rfl, rfl, rows_same⟩, ⟨rfl, rfl, rows_same⟩, ⟨rfl, rfl, rows_same⟩, ⟨rfl, rfl, rows_same⟩, trivial⟩, rfl, ⟨rfl, rfl⟩, ⟨rfl, rfl⟩, ⟨rfl, rfl⟩, ⟨rfl, rfl⟩, rfl, ⟨rfl, rfl⟩, ⟨rfl, rfl⟩, rfl, rfl, trivial⟩
  · replace h := condT h
    cases v157
    · replace h := condF h
      conv => whnf
      refine Choice.new ?_
      conv => whnf
      refine Req.of (rfl) ?_
      conv => whnf
      obtain ⟨y432, e433, h⟩ := bind_ex h
      refine MarkOk.of (laws_markSurreal_ct e433) ?_
      conv => whnf
      obtain ⟨g434, h⟩ := req_ex h
      exact CutK.piece (laws_FnExactQuotientTerms_p16_ct  h) [some 192, some 256, some 512, some 576, some 832, some 896, some 1139000, some 1139001, some 1139003, some 1139004] [] ⟨⟨rfl, rfl⟩, ⟨rfl, ⟨rfl, rfl, trivial⟩, ⟨rfl, rfl, trivial⟩, ⟨rfl, ⟨rfl, rfl⟩, trivial⟩, ⟨rfl, ⟨rfl, rfl⟩, trivial⟩, ⟨rfl, ⟨rfl, rfl⟩, trivial⟩, ⟨rfl, ⟨rfl, rfl⟩, trivial⟩, ⟨rfl, rfl, rows_same⟩, ⟨rfl, rfl, rows_same⟩, ⟨rfl, rfl, rows_same⟩, ⟨rfl, rfl, rows_same⟩, trivial⟩, rfl, ⟨rfl, rfl⟩, ⟨rfl, rfl⟩, ⟨rfl, rfl⟩, ⟨rfl, rfl⟩, rfl, ⟨rfl, rfl⟩, ⟨rfl, rfl⟩, rfl, rfl, trivial⟩
    · replace h := condT h
      conv => whnf
      refine Choice.new ?_
      conv => whnf
      refine Req.of (rfl) ?_
      conv => whnf
      obtain ⟨y435, e436, h⟩ := bind_ex h
      refine MarkOk.of (laws_markSurreal_ct e436) ?_
      conv => whnf
      obtain ⟨g437, h⟩ := req_ex h
      exact CutK.piece (laws_FnExactQuotientTerms_p16_ct  h) [some 192, some 256, some 512, some 576, some 832, some 896, some 1139000, some 1139001, some 1139003, some 1139004] [] ⟨⟨rfl, rfl⟩, ⟨rfl, ⟨rfl, rfl, trivial⟩, ⟨rfl, rfl, trivial⟩, ⟨rfl, ⟨rfl, rfl⟩, trivial⟩, ⟨rfl, ⟨rfl, rfl⟩, trivial⟩, ⟨rfl, ⟨rfl, rfl⟩, trivial⟩, ⟨rfl, ⟨rfl, rfl⟩, trivial⟩, ⟨rfl, rfl, rows_same⟩, ⟨rfl, rfl, rows_same⟩, ⟨rfl, rfl, rows_same⟩, ⟨rfl, rfl, rows_same⟩, trivial⟩, rfl, ⟨rfl, rfl⟩, ⟨rfl, rfl⟩, ⟨rfl, rfl⟩, ⟨rfl, rfl⟩, rfl, ⟨rfl, rfl⟩, ⟨rfl, rfl⟩, rfl, rfl, trivial⟩
def laws_FnExactQuotientTerms_p13 (k : Nat) (a1 : Rw) (a2 : Rw) (a3 : Int) (o118 : Rw) (o119 : Rw) (o120 : Rw) (o121 : Rw) (o122 : Rw) (o123 : Rw) (v129 : Bool) (v135 : Bool) : Option Bool :=
  (cond v129 (cond v135 ((laws_markSurreal k o120 1).bind fun y447 => (if y447.2.length = o120.length then (laws_FnExactQuotientTerms_p15 k a1 a2 a3 y447.1 o118 o119 o121 o122 o123 true true) else none)) ((laws_markSurreal k o120 1).bind fun y444 => (if y444.2.length = o120.length then (laws_FnExactQuotientTerms_p15 k a1 a2 a3 y444.1 o118 o119 o121 o122 o123 false true) else none))) (cond v135 ((laws_markSurreal k o120 1).bind fun y441 => (if y441.2.length = o120.length then (laws_FnExactQuotientTerms_p15 k a1 a2 a3 y441.1 o118 o119 o121 o122 o123 true false) else none)) ((laws_markSurreal k o120 1).bind fun y438 => (if y438.2.length = o120.length then (laws_FnExactQuotientTerms_p15 k a1 a2 a3 y438.1 o118 o119 o121 o122 o123 false false) else none))))
set_option maxHeartbeats 4000000 in
set_option maxRecDepth 100000 in
theorem laws_FnExactQuotientTerms_p13_ct {k : Nat} {a1 : Rw} {a2 : Rw} {a3 : Int} {o118 : Rw} {o119 : Rw} {o120 : Rw} {o121 : Rw} {o122 : Rw} {o123 : Rw} {v129 : Bool} {v135 : Bool} {r : Bool} (h : laws_FnExactQuotientTerms_p13 k a1 a2 a3 o118 o119 o120 o121 o122 o123 v129 v135 = some r) : X prog 0 (tlF f4 13) (mk 161 [(2, .d (D.int .i64 a3)), (3, .ptr 192 0), (4, .ptr 256 0), (8, .ptr 512 0), (9, .ptr 576 0), (10, .d (D.bool v129)), (11, .ptr 704 0), (12, .ptr 768 0), (13, .ptr 832 0), (14, .ptr 896 0), (15, .d (D.bool v135))] [(192, .box 24 [.d (D.sl a1)]), (256, .box 24 [.d (D.sl a2)]), (512, .box 28 [.os 1129000 o118.length]), (576, .box 28 [.os 1129001 o119.length]), (704, .box 28 [.os 1129002 o120.length]), (768, .box 28 [.os 1129003 o121.length]), (832, .box 28 [.os 1129004 o122.length]), (896, .box 28 [.os 1129005 o123.length]), (1129000, .arr 116 true o118), (1129001, .arr 116 true o119), (1129002, .arr 116 true o120), (1129003, .arr 116 true o121), (1129004, .arr 116 true o122), (1129005, .arr 116 true o123)]) (finK prog f4 0 (.d (D.bool r)) (⟨[], []⟩)) := by
  rw [laws_FnExactQuotientTerms_p13] at h
  cases v129
  · replace h := condF h
    cases v135
    · replace h := condF h
      conv => whnf
      refine Choice.new ?_
      conv => whnf
      refine Req.of (rfl) ?_
      conv => whnf
      obtain ⟨y438, e439, h⟩ := bind_ex h
      refine MarkOk.of (laws_markSurreal_ct e439) ?_
      conv => whnf
      obtain ⟨g440, h⟩ := req_ex h
      exact CutK.piece (laws_FnExactQuotientTerms_p15_ct  h) [some 192, some 256, some 512, some 576, some 768, some 832, some 896, some 1129000, some 1129001, some 1129003, some 1129004, some 1129005] [] ⟨⟨rfl, rfl⟩, ⟨rfl, ⟨rfl, rfl, trivial⟩, ⟨rfl, rfl, trivial⟩, ⟨rfl, ⟨rfl, rfl⟩, trivial⟩, ⟨rfl, ⟨rfl, rfl⟩, trivial⟩, ⟨rfl, ⟨rfl, rfl⟩, trivial⟩, ⟨rfl, ⟨rfl, rfl⟩, trivial⟩, ⟨rfl, ⟨rfl, rfl⟩, trivial⟩, ⟨rfl, rfl, rows_same⟩, ⟨rfl, rfl, rows_same⟩, ⟨rfl, rfl, rows_same⟩, ⟨rfl, rfl, rows_same⟩, ⟨rfl, rfl, rows_same⟩, trivial⟩, rfl, ⟨rfl, rfl⟩, ⟨rfl, rfl⟩, ⟨rfl, rfl⟩, ⟨rfl, rfl⟩, rfl, ⟨rfl, rfl⟩, ⟨rfl, rfl⟩, ⟨rfl, rfl⟩, rfl, rfl, trivial⟩
    · replace h := condT h
      conv => whnf
      refine Choice.new ?_
      conv => whnf
      refine Req.of (rfl) ?_
      conv => whnf
      obtain ⟨y441, e442, h⟩ := bind_ex h
      refine MarkOk.of (laws_markSurreal_ct e442) ?_
      conv => whnf
      obtain ⟨g443, h⟩ := req_ex h
      exact CutK.piece (laws_FnExactQuotientTerms_p15_ct  h) [some 192, some 256, some 512, some 576, some 768, some 832, some 896, some 1129000, some 1129001, some 1129003, some 1129004, some 1129005] [] ⟨⟨rfl, rfl⟩, ⟨rfl, ⟨rfl, rfl, trivial⟩, ⟨rfl, rfl, trivial⟩, ⟨rfl, ⟨rfl, rfl⟩, trivial⟩, ⟨rfl, ⟨rfl, rfl⟩, trivial⟩, ⟨rfl, ⟨rfl, rfl⟩, trivial⟩, ⟨rfl, ⟨rfl, rfl⟩, trivial⟩, ⟨rfl, ⟨rfl, rfl⟩, trivial⟩, ⟨rfl, rfl, rows_same⟩, ⟨rfl, rfl, rows_same⟩, ⟨rfl, rfl, rows_same⟩, ⟨rfl, rfl, rows_same⟩, ⟨rfl, rfl, rows_same⟩, trivial⟩, rfl, ⟨rfl, rfl⟩, ⟨rfl, rfl⟩, ⟨rfl, rfl⟩, ⟨rfl, rfl⟩, rfl, ⟨rfl, rfl⟩, ⟨rfl, rfl⟩, ⟨rfl, rfl⟩, rfl, rfl, trivial⟩
  · replace h := condT h
    cases v135
    · replace h := condF h
      conv => whnf
      refine Choice.new ?_
      conv => whnf
      refine Req.of (rfl) ?_
      conv => whnf
      obtain ⟨y444, e445, h⟩ := bind_ex h
      refine MarkOk.of (laws_markSurreal_ct e445) ?_
      conv => whnf
      obtain ⟨g446, h⟩ := req_ex h
      exact CutK.piece (laws_FnExactQuotientTerms_p15_ct  h) [some 192, some 256, some 512, some 576, some 768, some 832, some 896, some 1129000, some 1129001, some 1129003, some 1129004, some 1129005] [] ⟨⟨rfl, rfl⟩, ⟨rfl, ⟨rfl, rfl, trivial⟩, ⟨rfl, rfl, trivial⟩, ⟨rfl, ⟨rfl, rfl⟩, trivial⟩, ⟨rfl, ⟨rfl, rfl⟩, trivial⟩, ⟨rfl, ⟨rfl, rfl⟩, trivial⟩, ⟨rfl, ⟨rfl, rfl⟩, trivial⟩, ⟨rfl, ⟨rfl, rfl⟩, trivial⟩, ⟨rfl, rfl, rows_same⟩, ⟨rfl, rfl, rows_same⟩, ⟨rfl, rfl, rows_same⟩, ⟨rfl, rfl, rows_same⟩, ⟨rfl, rfl, rows_same⟩, trivial⟩, rfl, ⟨rfl, rfl⟩, ⟨rfl, rfl⟩, ⟨rfl, rfl⟩, ⟨rfl, rfl⟩, rfl, ⟨rfl, rfl⟩, ⟨rfl, rfl⟩, ⟨rfl, rfl⟩, rfl, rfl, trivial⟩
    · replace h := condT h
      conv => whnf
      refine Choice.new ?_
      conv => whnf
      refine Req.of (rfl) ?_
      conv => whnf
      obtain ⟨y447, e448, h⟩ := bind_ex h
      refine MarkOk.of (laws_markSurreal_ct e448) ?_
      conv => whnf
      obtain ⟨g449, h⟩ := req_ex h
      exact CutK.piece (laws_FnExactQuotientTerms_p15_ct  h) [some 192, some 256, some 512, some 576, some 768, some 832, some 896, some 1129000, some 1129001, some 1129003, some 1129004, some 1129005] [] ⟨⟨rfl, rfl⟩, ⟨rfl, ⟨rfl, rfl, trivial⟩, ⟨rfl, rfl, trivial⟩, ⟨rfl, ⟨rfl, rfl⟩, trivial⟩, ⟨rfl, ⟨rfl, rfl⟩, trivial⟩, ⟨rfl, ⟨rfl, rfl⟩, trivial⟩, ⟨rfl, ⟨rfl, rfl⟩, trivial⟩, ⟨rfl, ⟨rfl, rfl⟩, trivial⟩, ⟨rfl, rfl, rows_same⟩, ⟨rfl, rfl, rows_same⟩, ⟨rfl, rfl, rows_same⟩, ⟨rfl, rfl, rows_same⟩, ⟨rfl, rfl, rows_same⟩, trivial⟩, rfl, ⟨rfl, rfl⟩, ⟨rfl, rfl⟩, ⟨rfl, rfl⟩, ⟨rfl, rfl⟩, rfl, ⟨rfl, rfl⟩, ⟨rfl, rfl⟩, ⟨rfl, rfl⟩, rfl, rfl, trivial⟩
def laws_FnExactQuotientTerms_p12 (k : Nat) (a1 : Rw) (a2 : Rw) (a3 : Int) (o90 : Rw) (o91 : Rw) (o92 : Rw) (o93 : Rw) (o94 : Rw) (o95 : Rw) (v101 : Bool) (v107 : Bool) : Option Bool :=
  (cond v101 (cond v107 ((laws_toSurreal k a2).bind fun y465 => ((laws_eqSurreal k o93 y465).bind fun y467 => (if y467 = true then (laws_FnExactQuotientTerms_p13 k a1 a2 a3 o90 o91 o92 o93 o94 o95 true true) else some false))) ((laws_toSurreal k a2).bind fun y460 => ((laws_eqSurreal k o93 y460).bind fun y462 => (if y462 = true then (laws_FnExactQuotientTerms_p13 k a1 a2 a3 o90 o91 o92 o93 o94 o95 false true) else some false)))) (cond v107 ((laws_toSurreal k a2).bind fun y455 => ((laws_eqSurreal k o93 y455).bind fun y457 => (if y457 = true then (laws_FnExactQuotientTerms_p13 k a1 a2 a3 o90 o91 o92 o93 o94 o95 true false) else some false))) ((laws_toSurreal k a2).bind fun y450 => ((laws_eqSurreal k o93 y450).bind fun y452 => (if y452 = true then (laws_FnExactQuotientTerms_p13 k a1 a2 a3 o90 o91 o92 o93 o94 o95 false false) else some false)))))
set_option maxHeartbeats 4000000 in
set_option maxRecDepth 100000 in
theorem laws_FnExactQuotientTerms_p12_ct {k : Nat} {a1 : Rw} {a2 : Rw} {a3 : Int} {o90 : Rw} {o91 : Rw} {o92 : Rw} {o93 : Rw} {o94 : Rw} {o95 : Rw} {v101 : Bool} {v107 : Bool} {r : Bool} (h : laws_FnExactQuotientTerms_p12 k a1 a2 a3 o90 o91 o92 o93 o94 o95 v101 v107 = some r) : X prog 0 (tlF f4 12) (mk 161 [(2, .d (D.int .i64 a3)), (3, .ptr 192 0), (4, .ptr 256 0), (8, .ptr 512 0), (9, .ptr 576 0), (10, .d (D.bool v107)), (11, .ptr 704 0), (12, .ptr 768 0), (13, .ptr 832 0), (14, .ptr 896 0), (15, .d (D.bool v101))] [(192, .box 24 [.d (D.sl a1)]), (256, .box 24 [.d (D.sl a2)]), (512, .box 28 [.os 1124000 o90.length]), (576, .box 28 [.os 1124001 o91.length]), (704, .box 28 [.os 1124002 o92.length]), (768, .box 28 [.os 1124003 o93.length]), (832, .box 28 [.os 1124004 o94.length]), (896, .box 28 [.os 1124005 o95.length]), (1124000, .arr 116 true o90), (1124001, .arr 116 true o91), (1124002, .arr 116 true o92), (1124003, .arr 116 true o93), (1124004, .arr 116 true o94), (1124005, .arr 116 true o95)]) (finK prog f4 0 (.d (D.bool r)) (⟨[], []⟩)) := by
  rw [laws_FnExactQuotientTerms_p12] at h
  cases v101
  · replace h := condF h
    cases v107
    · replace h := condF h
      conv => whnf
      refine Pick.no ?_
      conv => whnf
      obtain ⟨y450, e451, h⟩ := bind_ex h
      refine CallOk.of (laws_toSurreal_ct e451) ?_
      conv => whnf
      refine Pick.no ?_
      conv => whnf
      refine Take.all (rfl) ?_
      conv => whnf
      refine Take.all (rfl) ?_
      conv => whnf
      obtain ⟨y452, e453, h⟩ := bind_ex h
      refine CallOk.of (laws_eqSurreal_ct e453) ?_
      conv => whnf
      refine spl (fun g454 => ?_) (fun g454 => ?_)
      · replace h := iteT h g454
        conv => whnf
        refine CutK.norm [2, 3, 4, 8, 9, 10, 11, 12, 13, 14, 15, 78] [192, 256, 512, 576, 704, 768, 832, 896, 1124000, 1124001, 1124002, 1124003, 1124004, 1124005] ?_
        conv => whnf
        exact CutK.piece (laws_FnExactQuotientTerms_p13_ct  h) [some 192, some 256, some 512, some 576, some 704, some 768, some 832, some 896, some 1124000, some 1124001, some 1124002, some 1124003, some 1124004, some 1124005] [] ⟨⟨rfl, rfl⟩, ⟨rfl, ⟨rfl, rfl, trivial⟩, ⟨rfl, rfl, trivial⟩, ⟨rfl, ⟨rfl, rfl⟩, trivial⟩, ⟨rfl, ⟨rfl, rfl⟩, trivial⟩, ⟨rfl, ⟨rfl, rfl⟩, trivial⟩, ⟨rfl, ⟨rfl, rfl⟩, trivial⟩, ⟨rfl, ⟨rfl, rfl⟩, trivial⟩, ⟨rfl, ⟨rfl, rfl⟩, trivial⟩, ⟨rfl, rfl, rows_same⟩, ⟨rfl, rfl, rows_same⟩, ⟨rfl, rfl, rows_same⟩, ⟨rfl, rfl, rows_same⟩, ⟨rfl, rfl, rows_same⟩, ⟨rfl, rfl, rows_same⟩, trivial⟩, rfl, ⟨rfl, rfl⟩, ⟨rfl, rfl⟩, ⟨rfl, rfl⟩, ⟨rfl, rfl⟩, rfl, ⟨rfl, rfl⟩, ⟨rfl, rfl⟩, ⟨rfl, rfl⟩, ⟨rfl, rfl⟩, rfl, trivial⟩
      · replace h := iteF h g454
        conv => whnf
        refine CutK.norm [2, 3, 4, 8, 9, 10, 11, 12, 13, 14, 15, 78] [192, 256, 512, 576, 704, 768, 832, 896, 1124000, 1124001, 1124002, 1124003, 1124004, 1124005] ?_
        conv => whnf
        cases h
        exact Done.of [] [] rfl rfl ⟨⟨rfl, rfl⟩, ⟨rfl, trivial⟩, rfl, trivial⟩
    · replace h := condT h
      conv => whnf
      refine Pick.no ?_
      conv => whnf
      obtain ⟨y455, e456, h⟩ := bind_ex h
      refine CallOk.of (laws_toSurreal_ct e456) ?_
      conv => whnf
      refine Pick.no ?_
      conv => whnf
      refine Take.all (rfl) ?_
      conv => whnf
      refine Take.all (rfl) ?_
      conv => whnf
      obtain ⟨y457, e458, h⟩ := bind_ex h
      refine CallOk.of (laws_eqSurreal_ct e458) ?_
      conv => whnf
      refine spl (fun g459 => ?_) (fun g459 => ?_)
      · replace h := iteT h g459
        conv => whnf
        refine CutK.norm [2, 3, 4, 8, 9, 10, 11, 12, 13, 14, 15, 78] [192, 256, 512, 576, 704, 768, 832, 896, 1124000, 1124001, 1124002, 1124003, 1124004, 1124005] ?_
        conv => whnf
        exact CutK.piece (laws_FnExactQuotientTerms_p13_ct  h) [some 192, some 256, some 512, some 576, some 704, some 768, some 832, some 896, some 1124000, some 1124001, some 1124002, some 1124003, some 1124004, some 1124005] [] ⟨⟨rfl, rfl⟩, ⟨rfl, ⟨rfl, rfl, trivial⟩, ⟨rfl, rfl, trivial⟩, ⟨rfl, ⟨rfl, rfl⟩, trivial⟩, ⟨rfl, ⟨rfl, rfl⟩, trivial⟩, ⟨rfl, ⟨rfl, rfl⟩, trivial⟩, ⟨rfl, ⟨rfl, rfl⟩, trivial⟩, ⟨rfl, ⟨rfl, rfl⟩, trivial⟩, ⟨rfl, ⟨rfl, rfl⟩, trivial⟩, ⟨rfl, rfl, rows_same⟩, ⟨rfl, rfl, rows_same⟩, ⟨rfl, rfl, rows_same⟩, ⟨rfl, rfl, rows_same⟩, ⟨rfl, rfl, rows_same⟩, ⟨rfl, rfl, rows_same⟩, trivial⟩, rfl, ⟨rfl, rfl⟩, ⟨rfl, rfl⟩, ⟨rfl, rfl⟩, ⟨rfl, rfl⟩, rfl, ⟨rfl, rfl⟩, ⟨rfl, rfl⟩, ⟨rfl, rfl⟩, ⟨rfl, rfl⟩, rfl, trivial⟩
      · replace h := iteF h g459
        conv => whnf
        refine CutK.norm [2, 3, 4, 8, 9, 10, 11, 12, 13, 14, 15, 78] [192, 256, 512, 576, 704, 768, 832, 896, 1124000, 1124001, 1124002, 1124003, 1124004, 1124005] ?_
        conv => whnf
        cases h
        exact Done.of [] [] rfl rfl ⟨⟨rfl, rfl⟩, ⟨rfl, trivial⟩, rfl, trivial⟩
  · replace h := condT h
    cases v107
    · replace h := condF h
      conv => whnf
      refine Pick.no ?_
      conv => whnf
      obtain ⟨y460, e461, h⟩ := bind_ex h
      refine CallOk.of (laws_toSurreal_ct e461) ?_
      conv => whnf
      refine Pick.no ?_
      conv => whnf
      refine Take.all (rfl) ?_
      conv => whnf
      refine Take.all (rfl) ?_
      conv => whnf
      obtain ⟨y462, e463, h⟩ := bind_ex h
      refine CallOk.of (laws_eqSurreal_ct e463) ?_
      conv => whnf
      refine spl (fun g464 => ?_) (fun g464 => ?_)
      · replace h := iteT h g464
        conv => whnf
        refine CutK.norm [2, 3, 4, 8, 9, 10, 11, 12, 13, 14, 15, 78] [192, 256, 512, 576, 704, 768, 832, 896, 1124000, 1124001, 1124002, 1124003, 1124004, 1124005] ?_
        conv => whnf
        exact CutK.piece (laws_FnExactQuotientTerms_p13_ct  h) [some 192, some 256, some 512, some 576, some 704, some 768, some 832, some 896, some 1124000, some 1124001, some 1124002, some 1124003, some 1124004, some 1124005] [] ⟨⟨rfl, rfl⟩, ⟨rfl, ⟨rfl, rfl, trivial⟩, ⟨rfl, rfl, trivial⟩, ⟨rfl, ⟨rfl, rfl⟩, trivial⟩, ⟨rfl, ⟨rfl, rfl⟩, trivial⟩, ⟨rfl, ⟨rfl, rfl⟩, trivial⟩, ⟨rfl, ⟨rfl, rfl⟩, trivial⟩, ⟨rfl, ⟨rfl, rfl⟩, trivial⟩, ⟨rfl, ⟨rfl, rfl⟩, trivial⟩, ⟨rfl, rfl, rows_same⟩, ⟨rfl, rfl, rows_same⟩, ⟨rfl, rfl, rows_same⟩, ⟨rfl, rfl, rows_same⟩, ⟨rfl, rfl, rows_same⟩, ⟨rfl, rfl, rows_same⟩, trivial⟩, rfl, ⟨rfl, rfl⟩, ⟨rfl, rfl⟩, ⟨rfl, rfl⟩, ⟨rfl, rfl⟩, rfl, ⟨rfl, rfl⟩, ⟨rfl, rfl⟩, ⟨rfl, rfl⟩, ⟨rfl, rfl⟩, rfl, trivial⟩
      · replace h := iteF h g464
        conv => whnf
        refine CutK.norm [2, 3, 4, 8, 9, 10, 11, 12, 13, 14, 15, 78] [192, 256, 512, 576, 704, 768, 832, 896, 1124000, 1124001, 1124002, 1124003, 1124004, 1124005] ?_
        conv => whnf
        cases h
        exact Done.of [] [] rfl rfl ⟨⟨rfl, rfl⟩, ⟨rfl, trivial⟩, rfl, trivial⟩
    · replace h := condT h
      conv => whnf
      refine Pick.no ?_
      conv => whnf
      obtain ⟨y465, e466, h⟩ := bind_ex h
      refine CallOk.of (laws_toSurreal_ct e466) ?_
      conv => whnf
      refine Pick.no ?_
      conv => whnf
      refine Take.all (rfl) ?_
      conv => whnf
      refine Take.all (rfl) ?_
      conv => whnf
      obtain ⟨y467, e468, h⟩ := bind_ex h
      refine CallOk.of (laws_eqSurreal_ct e468) ?_
      conv => whnf
      refine spl (fun g469 => ?_) (fun g469 => ?_)
      · replace h := iteT h g469
        conv => whnf
        refine CutK.norm [2, 3, 4, 8, 9, 10, 11, 12, 13, 14, 15, 78] [192, 256, 512, 576, 704, 768, 832, 896, 1124000, 1124001, 1124002, 1124003, 1124004, 1124005] ?_
        conv => whnf
        exact CutK.piece (laws_FnExactQuotientTerms_p13_ct  h) [some 192, some 256, some 512, some 576, some 704, some 768, some 832, some 896, some 1124000, some 1124001, some 1124002, some 1124003, some 1124004, some 1124005] [] ⟨⟨rfl, rfl⟩, ⟨rfl, ⟨rfl, rfl, trivial⟩, ⟨rfl, rfl, trivial⟩, ⟨rfl, ⟨rfl, rfl⟩, trivial⟩, ⟨rfl, ⟨rfl, rfl⟩, trivial⟩, ⟨rfl, ⟨rfl, rfl⟩, trivial⟩, ⟨rfl, ⟨rfl, rfl⟩, trivial⟩, ⟨rfl, ⟨rfl, rfl⟩, trivial⟩, ⟨rfl, ⟨rfl, rfl⟩, trivial⟩, ⟨rfl, rfl, rows_same⟩, ⟨rfl, rfl, rows_same⟩, ⟨rfl, rfl, rows_same⟩, ⟨rfl, rfl, rows_same⟩, ⟨rfl, rfl, rows_same⟩, ⟨rfl, rfl, rows_same⟩, trivial⟩, rfl, ⟨rfl, rfl⟩, ⟨rfl, rfl⟩, ⟨rfl, rfl⟩, ⟨rfl, rfl⟩, rfl, ⟨rfl, rfl⟩, ⟨rfl, rfl⟩, ⟨rfl, rfl⟩, ⟨rfl, rfl⟩, rfl, trivial⟩
      · replace h := iteF h g469
        conv => whnf
        refine CutK.norm [2, 3, 4, 8, 9, 10, 11, 12, 13, 14, 15, 78] [192, 256, 512, 576, 704, 768, 832, 896, 1124000, 1124001, 1124002, 1124003, 1124004, 1124005] ?_
        conv => whnf
        cases h
        exact Done.of [] [] rfl rfl ⟨⟨rfl, rfl⟩, ⟨rfl, trivial⟩, rfl, trivial⟩
def laws_FnExactQuotientTerms_p11 (k : Nat) (a1 : Rw) (a2 : Rw) (a3 : Int) (o59 : Rw) (o60 : Rw) (o61 : Rw) (o62 : Rw) (o63 : Rw) (o64 : Rw) (v83 : Bool) (v84 : Bool) : Option Bool :=
  (cond v83 (cond v84 ((laws_toSurreal k a1).bind fun y485 => ((laws_eqSurreal k o61 y485).bind fun y487 => (if y487 = true then (laws_FnExactQuotientTerms_p12 k a1 a2 a3 o59 o60 o61 o62 o63 o64 true true) else some false))) ((laws_toSurreal k a1).bind fun y480 => ((laws_eqSurreal k o61 y480).bind fun y482 => (if y482 = true then (laws_FnExactQuotientTerms_p12 k a1 a2 a3 o59 o60 o61 o62 o63 o64 false true) else some false)))) (cond v84 ((laws_toSurreal k a1).bind fun y475 => ((laws_eqSurreal k o61 y475).bind fun y477 => (if y477 = true then (laws_FnExactQuotientTerms_p12 k a1 a2 a3 o59 o60 o61 o62 o63 o64 true false) else some false))) ((laws_toSurreal k a1).bind fun y470 => ((laws_eqSurreal k o61 y470).bind fun y472 => (if y472 = true then (laws_FnExactQuotientTerms_p12 k a1 a2 a3 o59 o60 o61 o62 o63 o64 false false) else some false)))))
set_option maxHeartbeats 4000000 in
set_option maxRecDepth 100000 in
theorem laws_FnExactQuotientTerms_p11_ct {k : Nat} {a1 : Rw} {a2 : Rw} {a3 : Int} {o59 : Rw} {o60 : Rw} {o61 : Rw} {o62 : Rw} {o63 : Rw} {o64 : Rw} {v83 : Bool} {v84 : Bool} {r : Bool} (h : laws_FnExactQuotientTerms_p11 k a1 a2 a3 o59 o60 o61 o62 o63 o64 v83 v84 = some r) : X prog 0 (tlF f4 11) (mk 161 [(2, .d (D.int .i64 a3)), (3, .ptr 192 0), (4, .ptr 256 0), (8, .ptr 512 0), (9, .ptr 576 0), (10, .d (D.bool v83)), (11, .ptr 704 0), (12, .ptr 768 0), (13, .ptr 832 0), (14, .ptr 896 0), (15, .d (D.bool v84))] [(192, .box 24 [.d (D.sl a1)]), (256, .box 24 [.d (D.sl a2)]), (512, .box 28 [.os 1119000 o59.length]), (576, .box 28 [.os 1119001 o60.length]), (704, .box 28 [.os 1119002 o61.length]), (768, .box 28 [.os 1119003 o62.length]), (832, .box 28 [.os 1119004 o63.length]), (896, .box 28 [.os 1119005 o64.length]), (1119000, .arr 116 true o59), (1119001, .arr 116 true o60), (1119002, .arr 116 true o61), (1119003, .arr 116 true o62), (1119004, .arr 116 true o63), (1119005, .arr 116 true o64)]) (finK prog f4 0 (.d (D.bool r)) (⟨[], []⟩)) := by
  rw [laws_FnExactQuotientTerms_p11] at h
  cases v83
  · replace h := condF h
    cases v84
    · replace h := condF h
      conv => whnf
      refine Pick.no ?_
      conv => whnf
      obtain ⟨y470, e471, h⟩ := bind_ex h
      refine CallOk.of (laws_toSurreal_ct e471) ?_
      conv => whnf
      refine Pick.no ?_
      conv => whnf
      refine Take.all (rfl) ?_
      conv => whnf
      refine Take.all (rfl) ?_
      conv => whnf
      obtain ⟨y472, e473, h⟩ := bind_ex h
      refine CallOk.of (laws_eqSurreal_ct e473) ?_
      conv => whnf
      refine spl (fun g474 => ?_) (fun g474 => ?_)
      · replace h := iteT h g474
        conv => whnf
        refine CutK.norm [2, 3, 4, 8, 9, 10, 11, 12, 13, 14, 15, 73] [192, 256, 512, 576, 704, 768, 832, 896, 1119000, 1119001, 1119002, 1119003, 1119004, 1119005] ?_
        conv => whnf
        exact CutK.piece (laws_FnExactQuotientTerms_p12_ct  h) [some 192, some 256, some 512, some 576, some 704, some 768, some 832, some 896, some 1119000, some 1119001, some 1119002, some 1119003, some 1119004, some 1119005] [] ⟨⟨rfl, rfl⟩, ⟨rfl, ⟨rfl, rfl, trivial⟩, ⟨rfl, rfl, trivial⟩, ⟨rfl, ⟨rfl, rfl⟩, trivial⟩, ⟨rfl, ⟨rfl, rfl⟩, trivial⟩, ⟨rfl, ⟨rfl, rfl⟩, trivial⟩, ⟨rfl, ⟨rfl, rfl⟩, trivial⟩, ⟨rfl, ⟨rfl, rfl⟩, trivial⟩, ⟨rfl, ⟨rfl, rfl⟩, trivial⟩, ⟨rfl, rfl, rows_same⟩, ⟨rfl, rfl, rows_same⟩, ⟨rfl, rfl, rows_same⟩, ⟨rfl, rfl, rows_same⟩, ⟨rfl, rfl, rows_same⟩, ⟨rfl, rfl, rows_same⟩, trivial⟩, rfl, ⟨rfl, rfl⟩, ⟨rfl, rfl⟩, ⟨rfl, rfl⟩, ⟨rfl, rfl⟩, rfl, ⟨rfl, rfl⟩, ⟨rfl, rfl⟩, ⟨rfl, rfl⟩, ⟨rfl, rfl⟩, rfl, trivial⟩
      · replace h := iteF h g474
        conv => whnf
        refine CutK.norm [2, 3, 4, 8, 9, 10, 11, 12, 13, 14, 15, 73] [192, 256, 512, 576, 704, 768, 832, 896, 1119000, 1119001, 1119002, 1119003, 1119004, 1119005] ?_
        conv => whnf
        cases h
        exact Done.of [] [] rfl rfl ⟨⟨rfl, rfl⟩, ⟨rfl, trivial⟩, rfl, trivial⟩
    · replace h := condT h
      conv => whnf
      refine Pick.no ?_
      conv => whnf
      obtain ⟨y475, e476, h⟩ := bind_ex h
      refine CallOk.of (laws_toSurreal_ct e476) ?_
      conv => whnf
      refine Pick.no ?_
      conv => whnf
      refine Take.all (rfl) ?_
      conv => whnf
      refine Take.all (rfl) ?_
      conv => whnf
      obtain ⟨y477, e478, h⟩ := bind_ex h
      refine CallOk.of (laws_eqSurreal_ct e478) ?_
      conv => whnf
      refine spl (fun g479 => ?_) (fun g479 => ?_)
      · replace h := iteT h g479
        conv => whnf
        refine CutK.norm [2, 3, 4, 8, 9, 10, 11, 12, 13, 14, 15, 73] [192, 256, 512, 576, 704, 768, 832, 896, 1119000, 1119001, 1119002, 1119003, 1119004, 1119005] ?_
        conv => whnf
        exact CutK.piece (laws_FnExactQuotientTerms_p12_ct  h) [some 192, some 256, some 512, some 576, some 704, some 768, some 832, some 896, some 1119000, some 1119001, some 1119002, some 1119003, some 1119004, some 1119005] [] ⟨⟨rfl, rfl⟩, ⟨rfl, ⟨rfl, rfl, trivial⟩, ⟨rfl, rfl, trivial⟩, ⟨rfl, ⟨rfl, rfl⟩, trivial⟩, ⟨rfl, ⟨rfl, rfl⟩, trivial⟩, ⟨rfl, ⟨rfl, rfl⟩, trivial⟩, ⟨rfl, ⟨rfl, rfl⟩, trivial⟩, ⟨rfl, ⟨rfl, rfl⟩, trivial⟩, ⟨rfl, ⟨rfl, rfl⟩, trivial⟩, ⟨rfl, rfl, rows_same⟩, ⟨rfl, rfl, rows_same⟩, ⟨rfl, rfl, rows_same⟩, ⟨rfl, rfl, rows_same⟩, ⟨rfl, rfl, rows_same⟩, ⟨rfl, rfl, rows_same⟩, trivial⟩, rfl, ⟨rfl, rfl⟩, ⟨rfl, rfl⟩, ⟨rfl, rfl⟩, ⟨rfl, rfl⟩, rfl, ⟨rfl, rfl⟩, ⟨rfl, rfl⟩, ⟨rfl, rfl⟩, ⟨rfl, rfl⟩, rfl, trivial⟩
      · replace h := iteF h g479
        conv => whnf
        refine CutK.norm [2, 3, 4, 8, 9, 10, 11, 12, 13, 14, 15, 73] [192, 256, 512, 576, 704, 768, 832, 896, 1119000, 1119001, 1119002, 1119003, 1119004, 1119005] ?_
        conv => whnf
        cases h
        exact Done.of [] [] rfl rfl ⟨⟨rfl, rfl⟩, ⟨rfl, trivial⟩, rfl, trivial⟩
  · replace h := condT h
    cases v84
    · replace h := condF h
      conv => whnf
      refine Pick.no ?_
      conv => whnf
      obtain ⟨y480, e481, h⟩ := bind_ex h
      refine CallOk.of (laws_toSurreal_ct e481) ?_
      conv => whnf
      refine Pick.no ?_
      conv => whnf
      refine Take.all (rfl) ?_
      conv => whnf
      refine Take.all (rfl) ?_
      conv => whnf
      obtain ⟨y482, e483, h⟩ := bind_ex h
      refine CallOk.of (laws_eqSurreal_ct e483) ?_
      conv => whnf
      refine spl (fun g484 => ?_) (fun g484 => ?_)
      · replace h := iteT h g484
        conv => whnf
        refine CutK.norm [2, 3, 4, 8, 9, 10, 11, 12, 13, 14, 15, 73] [192, 256, 512, 576, 704, 768, 832, 896, 1119000, 1119001, 1119002, 1119003, 1119004, 1119005] ?_
        conv => whnf
        exact CutK.piece (laws_FnExactQuotientTerms_p12_ct  h) [some 192, some 256, some 512, some 576, some 704, some 768, some 832, some 896, some 1119000, some 1119001, some 1119002, some 1119003, some 1119004, some 1119005] [] ⟨⟨rfl, rfl⟩, ⟨rfl, ⟨rfl, rfl, trivial⟩, ⟨rfl, rfl, trivial⟩, ⟨rfl, ⟨rfl, rfl⟩, trivial⟩, ⟨rfl, ⟨rfl, rfl⟩, trivial⟩, ⟨rfl, ⟨rfl, rfl⟩, trivial⟩, ⟨rfl, ⟨rfl, rfl⟩, trivial⟩, ⟨rfl, ⟨rfl, rfl⟩, trivial⟩, ⟨rfl, ⟨rfl, rfl⟩, trivial⟩, ⟨rfl, rfl, rows_same⟩, ⟨rfl, rfl, rows_same⟩, ⟨rfl, rfl, rows_same⟩, ⟨rfl, rfl, rows_same⟩, ⟨rfl, rfl, rows_same⟩, ⟨rfl, rfl, rows_same⟩, trivial⟩, rfl, ⟨rfl, rfl⟩, ⟨rfl, rfl⟩, ⟨rfl, rfl⟩, ⟨rfl, rfl⟩, rfl, ⟨rfl, rfl⟩, ⟨rfl, rfl⟩, ⟨rfl, rfl⟩, ⟨rfl, rfl⟩, rfl, trivial⟩
      · replace h := iteF h g484
        conv => whnf
        refine CutK.norm [2, 3, 4, 8, 9, 10, 11, 12, 13, 14, 15, 73] [192, 256, 512, 576, 704, 768, 832, 896, 1119000, 1119001, 1119002, 1119003, 1119004, 1119005] ?_
        conv => whnf
        cases h
        exact Done.of [] [] rfl rfl ⟨⟨rfl, rfl⟩, ⟨rfl, trivial⟩, rfl, trivial⟩
    · replace h := condT h
      conv => whnf
      refine Pick.no ?_
      conv => whnf
      obtain ⟨y485, e486, h⟩ := bind_ex h
      refine CallOk.of (laws_toSurreal_ct e486) ?_
      conv => whnf
      refine Pick.no ?_
      conv => whnf
      refine Take.all (rfl) ?_
      conv => whnf
      refine Take.all (rfl) ?_
      conv => whnf
      obtain ⟨y487, e488, h⟩ := bind_ex h
      refine CallOk.of (laws_eqSurreal_ct e488) ?_
      conv => whnf
      refine spl (fun g489 => ?_) (fun g489 => ?_)
      · replace h := iteT h g489
        conv => whnf
        refine CutK.norm [2, 3, 4, 8, 9, 10, 11, 12, 13, 14, 15, 73] [192, 256, 512, 576, 704, 768, 832, 896, 1119000, 1119001, 1119002, 1119003, 1119004, 1119005] ?_
        conv => whnf
        exact CutK.piece (laws_FnExactQuotientTerms_p12_ct  h) [some 192, some 256, some 512, some 576, some 704, some 768, some 832, some 896, some 1119000, some 1119001, some 1119002, some 1119003, some 1119004, some 1119005] [] ⟨⟨rfl, rfl⟩, ⟨rfl, ⟨rfl, rfl, trivial⟩, ⟨rfl, rfl, trivial⟩, ⟨rfl, ⟨rfl, rfl⟩, trivial⟩, ⟨rfl, ⟨rfl, rfl⟩, trivial⟩, ⟨rfl, ⟨rfl, rfl⟩, trivial⟩, ⟨rfl, ⟨rfl, rfl⟩, trivial⟩, ⟨rfl, ⟨rfl, rfl⟩, trivial⟩, ⟨rfl, ⟨rfl, rfl⟩, trivial⟩, ⟨rfl, rfl, rows_same⟩, ⟨rfl, rfl, rows_same⟩, ⟨rfl, rfl, rows_same⟩, ⟨rfl, rfl, rows_same⟩, ⟨rfl, rfl, rows_same⟩, ⟨rfl, rfl, rows_same⟩, trivial⟩, rfl, ⟨rfl, rfl⟩, ⟨rfl, rfl⟩, ⟨rfl, rfl⟩, ⟨rfl, rfl⟩, rfl, ⟨rfl, rfl⟩, ⟨rfl, rfl⟩, ⟨rfl, rfl⟩, ⟨rfl, rfl⟩, rfl, trivial⟩
      · replace h := iteF h g489
        conv => whnf
        refine CutK.norm [2, 3, 4, 8, 9, 10, 11, 12, 13, 14, 15, 73] [192, 256, 512, 576, 704, 768, 832, 896, 1119000, 1119001, 1119002, 1119003, 1119004, 1119005] ?_
        conv => whnf
        cases h
        exact Done.of [] [] rfl rfl ⟨⟨rfl, rfl⟩, ⟨rfl, trivial⟩, rfl, trivial⟩
def laws_FnExactQuotientTerms_p10 (k : Nat) (a1 : Rw) (a2 : Rw) (a3 : Int) (o42 : Rw) (o43 : Rw) (o44 : Rw) (o45 : Rw) (o46 : Rw) (o47 : Rw) (v48 : Bool) (v52 : Bool) : Option Bool :=
  (cond v48 (cond v52 ((laws_eqSurreal k o46 o42).bind fun y508 => (if y508 = true then ((laws_eqSurreal k o47 o43).bind fun y511 => (if y511 = true then (laws_FnExactQuotientTerms_p11 k a1 a2 a3 o42 o43 o44 o45 o46 o47 true true) else some false)) else some false)) ((laws_eqSurreal k o46 o42).bind fun y502 => (if y502 = true then ((laws_eqSurreal k o47 o43).bind fun y505 => (if y505 = true then some false else some false)) else some false))) (cond v52 ((laws_eqSurreal k o46 o42).bind fun y496 => (if y496 = true then ((laws_eqSurreal k o47 o43).bind fun y499 => (if y499 = true then some false else some false)) else some false)) ((laws_eqSurreal k o46 o42).bind fun y490 => (if y490 = true then ((laws_eqSurreal k o47 o43).bind fun y493 => (if y493 = true then (laws_FnExactQuotientTerms_p11 k a1 a2 a3 o42 o43 o44 o45 o46 o47 false false) else some false)) else some false))))
set_option maxHeartbeats 4000000 in
set_option maxRecDepth 100000 in
theorem laws_FnExactQuotientTerms_p10_ct {k : Nat} {a1 : Rw} {a2 : Rw} {a3 : Int} {o42 : Rw} {o43 : Rw} {o44 : Rw} {o45 : Rw} {o46 : Rw} {o47 : Rw} {v48 : Bool} {v52 : Bool} {r : Bool} (h : laws_FnExactQuotientTerms_p10 k a1 a2 a3 o42 o43 o44 o45 o46 o47 v48 v52 = some r) : X prog 0 (tlF f4 10) (mk 161 [(2, .d (D.int .i64 a3)), (3, .ptr 192 0), (4, .ptr 256 0), (8, .ptr 512 0), (9, .ptr 576 0), (10, .d (D.bool v52)), (11, .ptr 704 0), (12, .ptr 768 0), (13, .ptr 832 0), (14, .ptr 896 0), (15, .d (D.bool v48))] [(192, .box 24 [.d (D.sl a1)]), (256, .box 24 [.d (D.sl a2)]), (512, .box 28 [.os 1114000 o42.length]), (576, .box 28 [.os 1114001 o43.length]), (704, .box 28 [.os 1114002 o44.length]), (768, .box 28 [.os 1114003 o45.length]), (832, .box 28 [.os 1114004 o46.length]), (896, .box 28 [.os 1114005 o47.length]), (1114000, .arr 116 true o42), (1114001, .arr 116 true o43), (1114002, .arr 116 true o44), (1114003, .arr 116 true o45), (1114004, .arr 116 true o46), (1114005, .arr 116 true o47)]) (finK prog f4 0 (.d (D.bool r)) (⟨[], []⟩)) := by
  rw [laws_FnExactQuotientTerms_p10] at h
  cases v48
  · replace h := condF h
    cases v52
    · replace h := condF h
      conv => whnf
      refine Pick.no ?_
      conv => whnf
      refine Take.all (rfl) ?_
      conv => whnf
      refine Take.all (rfl) ?_
      conv => whnf
      obtain ⟨y490, e491, h⟩ := bind_ex h
      refine CallOk.of (laws_eqSurreal_ct e491) ?_
      conv => whnf
      refine spl (fun g492 => ?_) (fun g492 => ?_)
      · replace h := iteT h g492
        conv => whnf
        refine Pick.no ?_
        conv => whnf
        refine Take.all (rfl) ?_
        conv => whnf
        refine Take.all (rfl) ?_
        conv => whnf
        obtain ⟨y493, e494, h⟩ := bind_ex h
        refine CallOk.of (laws_eqSurreal_ct e494) ?_
        conv => whnf
        refine spl (fun g495 => ?_) (fun g495 => ?_)
        · replace h := iteT h g495
          conv => whnf
          refine splF ?_
          conv => whnf
          refine CutK.norm [2, 3, 4, 8, 9, 10, 11, 12, 13, 14, 15, 68] [192, 256, 512, 576, 704, 768, 832, 896, 1114000, 1114001, 1114002, 1114003, 1114004, 1114005] ?_
          conv => whnf
          exact CutK.piece (laws_FnExactQuotientTerms_p11_ct  h) [some 192, some 256, some 512, some 576, some 704, some 768, some 832, some 896, some 1114000, some 1114001, some 1114002, some 1114003, some 1114004, some 1114005] [] ⟨⟨rfl, rfl⟩, ⟨rfl, ⟨rfl, rfl, trivial⟩, ⟨rfl, rfl, trivial⟩, ⟨rfl, ⟨rfl, rfl⟩, trivial⟩, ⟨rfl, ⟨rfl, rfl⟩, trivial⟩, ⟨rfl, ⟨rfl, rfl⟩, trivial⟩, ⟨rfl, ⟨rfl, rfl⟩, trivial⟩, ⟨rfl, ⟨rfl, rfl⟩, trivial⟩, ⟨rfl, ⟨rfl, rfl⟩, trivial⟩, ⟨rfl, rfl, rows_same⟩, ⟨rfl, rfl, rows_same⟩, ⟨rfl, rfl, rows_same⟩, ⟨rfl, rfl, rows_same⟩, ⟨rfl, rfl, rows_same⟩, ⟨rfl, rfl, rows_same⟩, trivial⟩, rfl, ⟨rfl, rfl⟩, ⟨rfl, rfl⟩, ⟨rfl, rfl⟩, ⟨rfl, rfl⟩, rfl, ⟨rfl, rfl⟩, ⟨rfl, rfl⟩, ⟨rfl, rfl⟩, ⟨rfl, rfl⟩, rfl, trivial⟩
        · replace h := iteF h g495
          conv => whnf
          refine CutK.norm [2, 3, 4, 8, 9, 10, 11, 12, 13, 14, 15, 68] [192, 256, 512, 576, 704, 768, 832, 896, 1114000, 1114001, 1114002, 1114003, 1114004, 1114005] ?_
          conv => whnf
          cases h
          exact Done.of [] [] rfl rfl ⟨⟨rfl, rfl⟩, ⟨rfl, trivial⟩, rfl, trivial⟩
      · replace h := iteF h g492
        conv => whnf
        refine CutK.norm [2, 3, 4, 8, 9, 10, 11, 12, 13, 14, 15, 68] [192, 256, 512, 576, 704, 768, 832, 896, 1114000, 1114001, 1114002, 1114003, 1114004, 1114005] ?_
        conv => whnf
        cases h
        exact Done.of [] [] rfl rfl ⟨⟨rfl, rfl⟩, ⟨rfl, trivial⟩, rfl, trivial⟩
    · replace h := condT h
      conv => whnf
      refine Pick.no ?_
      conv => whnf
      refine Take.all (rfl) ?_
      conv => whnf
      refine Take.all (rfl) ?_
      conv => whnf
      obtain ⟨y496, e497, h⟩ := bind_ex h
      refine CallOk.of (laws_eqSurreal_ct e497) ?_
      conv => whnf
      refine spl (fun g498 => ?_) (fun g498 => ?_)
      · replace h := iteT h g498
        conv => whnf
        refine Pick.no ?_
        conv => whnf
        refine Take.all (rfl) ?_
        conv => whnf
        refine Take.all (rfl) ?_
        conv => whnf
        obtain ⟨y499, e500, h⟩ := bind_ex h
        refine CallOk.of (laws_eqSurreal_ct e500) ?_
        conv => whnf
        refine spl (fun g501 => ?_) (fun g501 => ?_)
        · replace h := iteT h g501
          conv => whnf
          refine splT ?_
          conv => whnf
          refine CutK.norm [2, 3, 4, 8, 9, 10, 11, 12, 13, 14, 15, 68] [192, 256, 512, 576, 704, 768, 832, 896, 1114000, 1114001, 1114002, 1114003, 1114004, 1114005] ?_
          conv => whnf
          cases h
          exact Done.of [] [] rfl rfl ⟨⟨rfl, rfl⟩, ⟨rfl, trivial⟩, rfl, trivial⟩
        · replace h := iteF h g501
          conv => whnf
          refine CutK.norm [2, 3, 4, 8, 9, 10, 11, 12, 13, 14, 15, 68] [192, 256, 512, 576, 704, 768, 832, 896, 1114000, 1114001, 1114002, 1114003, 1114004, 1114005] ?_
          conv => whnf
          cases h
          exact Done.of [] [] rfl rfl ⟨⟨rfl, rfl⟩, ⟨rfl, trivial⟩, rfl, trivial⟩
      · replace h := iteF h g498
        conv => whnf
        refine CutK.norm [2, 3, 4, 8, 9, 10, 11, 12, 13, 14, 15, 68] [192, 256, 512, 576, 704, 768, 832, 896, 1114000, 1114001, 1114002, 1114003, 1114004, 1114005] ?_
        conv => whnf
        cases h
        exact Done.of [] [] rfl rfl ⟨⟨rfl, rfl⟩, ⟨rfl, trivial⟩, rfl, trivial⟩
  · replace h := condT h
    cases v52
    · replace h := condF h
      conv => whnf
      refine Pick.no ?_
      conv => whnf
      refine Take.all (rfl) ?_
      conv => whnf
      refine Take.all (rfl) ?_
      conv => whnf
      obtain ⟨y502, e503, h⟩ := bind_ex h
      refine CallOk.of (laws_eqSurreal_ct e503) ?_
      conv => whnf
      refine spl (fun g504 => ?_) (fun g504 => ?_)
      · replace h := iteT h g504
        conv => whnf
        refine Pick.no ?_
        conv => whnf
        refine Take.all (rfl) ?_
        conv => whnf
        refine Take.all (rfl) ?_
        conv => whnf
        obtain ⟨y505, e506, h⟩ := bind_ex h
        refine CallOk.of (laws_eqSurreal_ct e506) ?_
        conv => whnf
        refine spl (fun g507 => ?_) (fun g507 => ?_)
        · replace h := iteT h g507
          conv => whnf
          refine splT ?_
          conv => whnf
          refine CutK.norm [2, 3, 4, 8, 9, 10, 11, 12, 13, 14, 15, 68] [192, 256, 512, 576, 704, 768, 832, 896, 1114000, 1114001, 1114002, 1114003, 1114004, 1114005] ?_
          conv => whnf
          cases h
          exact Done.of [] [] rfl rfl ⟨⟨rfl, rfl⟩, ⟨rfl, trivial⟩, rfl, trivial⟩
        · replace h := iteF h g507
          conv => whnf
          refine CutK.norm [2, 3, 4, 8, 9, 10, 11, 12, 13, 14, 15, 68] [192, 256, 512, 576, 704, 768, 832, 896, 1114000, 1114001, 1114002, 1114003, 1114004, 1114005] ?_
          conv => whnf
          cases h
          exact Done.of [] [] rfl rfl ⟨⟨rfl, rfl⟩, ⟨rfl, trivial⟩, rfl, trivial⟩
      · replace h := iteF h g504
        conv => whnf
        refine CutK.norm [2, 3, 4, 8, 9, 10, 11, 12, 13, 14, 15, 68] [192, 256, 512, 576, 704, 768, 832, 896, 1114000, 1114001, 1114002, 1114003, 1114004, 1114005] ?_
        conv => whnf
        cases h
        exact Done.of [] [] rfl rfl ⟨⟨rfl, rfl⟩, ⟨rfl, trivial⟩, rfl, trivial⟩
    · replace h := condT h
      conv => whnf
      refine Pick.no ?_
      conv => whnf
      refine Take.all (rfl) ?_
      conv => whnf
      refine Take.all (rfl) ?_
      conv => whnf
      obtain ⟨y508, e509, h⟩ := bind_ex h
      refine CallOk.of (laws_eqSurreal_ct e509) ?_
      conv => whnf
      refine spl (fun g510 => ?_) (fun g510 => ?_)
      · replace h := iteT h g510
        conv => whnf
        refine Pick.no ?_
        conv => whnf
        refine Take.all (rfl) ?_
        conv => whnf
        refine Take.all (rfl) ?_
        conv => whnf
        obtain ⟨y511, e512, h⟩ := bind_ex h
        refine CallOk.of (laws_eqSurreal_ct e512) ?_
        conv => whnf
        refine spl (fun g513 => ?_) (fun g513 => ?_)
        · replace h := iteT h g513
          conv => whnf
          refine splF ?_
          conv => whnf
          refine CutK.norm [2, 3, 4, 8, 9, 10, 11, 12, 13, 14, 15, 68] [192, 256, 512, 576, 704, 768, 832, 896, 1114000, 1114001, 1114002, 1114003, 1114004, 1114005] ?_
          conv => whnf
          exact CutK.piece (laws_FnExactQuotientTerms_p11_ct  h) [some 192, some 256, some 512, some 576, some 704, some 768, some 832, some 896, some 1114000, some 1114001, some 1114002, some 1114003, some 1114004, some 1114005] [] ⟨⟨rfl, rfl⟩, ⟨rfl, ⟨rfl, rfl, trivial⟩, ⟨rfl, rfl, trivial⟩, ⟨rfl, ⟨rfl, rfl⟩, trivial⟩, ⟨rfl, ⟨rfl, rfl⟩, trivial⟩, ⟨rfl, ⟨rfl, rfl⟩, trivial⟩, ⟨rfl, ⟨rfl, rfl⟩, trivial⟩, ⟨rfl, ⟨rfl, rfl⟩, trivial⟩, ⟨rfl, ⟨rfl, rfl⟩, trivial⟩, ⟨rfl, rfl, rows_same⟩, ⟨rfl, rfl, rows_same⟩, ⟨rfl, rfl, rows_same⟩, ⟨rfl, rfl, rows_same⟩, ⟨rfl, rfl, rows_same⟩, ⟨rfl, rfl, rows_same⟩, trivial⟩, rfl, ⟨rfl, rfl⟩, ⟨rfl, rfl⟩, ⟨rfl, rfl⟩, ⟨rfl, rfl⟩, rfl, ⟨rfl, rfl⟩, ⟨rfl, rfl⟩, ⟨rfl, rfl⟩, ⟨rfl, rfl⟩, rfl, trivial⟩
        · replace h := iteF h g513
          conv => whnf
          refine CutK.norm [2, 3, 4, 8, 9, 10, 11, 12, 13, 14, 15, 68] [192, 256, 512, 576, 704, 768, 832, 896, 1114000, 1114001, 1114002, 1114003, 1114004, 1114005] ?_
          conv => whnf
          cases h
          exact Done.of [] [] rfl rfl ⟨⟨rfl, rfl⟩, ⟨rfl, trivial⟩, rfl, trivial⟩
      · replace h := iteF h g510
        conv => whnf
        refine CutK.norm [2, 3, 4, 8, 9, 10, 11, 12, 13, 14, 15, 68] [192, 256, 512, 576, 704, 768, 832, 896, 1114000, 1114001, 1114002, 1114003, 1114004, 1114005] ?_
        conv => whnf
        cases h
        exact Done.of [] [] rfl rfl ⟨⟨rfl, rfl⟩, ⟨rfl, trivial⟩, rfl, trivial⟩
def laws_FnExactQuotientTerms_p9 (k : Nat) (a1 : Rw) (a2 : Rw) (a3 : Int) (o32 : Rw) (o33 : Rw) (o34 : Rw) (o35 : Rw) (v38 : Bool) : Option Bool :=
  (cond v38 ((impl_QuotientTerms k o34 o35 a3).bind fun y517 => (if y517.2.2 = true then (laws_FnExactQuotientTerms_p10 k a1 a2 a3 o32 o33 o34 o35 y517.1 y517.2.1 true true) else (laws_FnExactQuotientTerms_p10 k a1 a2 a3 o32 o33 o34 o35 y517.1 y517.2.1 false true))) ((impl_QuotientTerms k o34 o35 a3).bind fun y514 => (if y514.2.2 = true then (laws_FnExactQuotientTerms_p10 k a1 a2 a3 o32 o33 o34 o35 y514.1 y514.2.1 true false) else (laws_FnExactQuotientTerms_p10 k a1 a2 a3 o32 o33 o34 o35 y514.1 y514.2.1 false false))))
set_option maxHeartbeats 4000000 in
set_option maxRecDepth 100000 in
theorem laws_FnExactQuotientTerms_p9_ct {k : Nat} {a1 : Rw} {a2 : Rw} {a3 : Int} {o32 : Rw} {o33 : Rw} {o34 : Rw} {o35 : Rw} {v38 : Bool} {r : Bool} (h : laws_FnExactQuotientTerms_p9 k a1 a2 a3 o32 o33 o34 o35 v38 = some r) : X prog 0 (tlF f4 9) (mk 161 [(2, .d (D.int .i64 a3)), (3, .ptr 192 0), (4, .ptr 256 0), (8, .ptr 512 0), (9, .ptr 576 0), (10, .d (D.bool v38)), (11, .ptr 704 0), (12, .ptr 768 0)] [(192, .box 24 [.d (D.sl a1)]), (256, .box 24 [.d (D.sl a2)]), (512, .box 28 [.os 1109000 o32.length]), (576, .box 28 [.os 1109001 o33.length]), (704, .box 28 [.os 1109002 o34.length]), (768, .box 28 [.os 1109003 o35.length]), (1109000, .arr 116 true o32), (1109001, .arr 116 true o33), (1109002, .arr 116 true o34), (1109003, .arr 116 true o35)]) (finK prog f4 0 (.d (D.bool r)) (⟨[], []⟩)) := by
  rw [laws_FnExactQuotientTerms_p9] at h
  cases v38
  · replace h := condF h
    conv => whnf
    refine Pick.no ?_
    conv => whnf
    refine Take.all (rfl) ?_
    conv => whnf
    refine Take.all (rfl) ?_
    conv => whnf
    obtain ⟨y514, e515, h⟩ := bind_ex h
    refine CallOk.of (impl_QuotientTerms_ct e515) ?_
    conv => whnf
    refine spl (fun g516 => ?_) (fun g516 => ?_)
    · replace h := iteT h g516
      conv => whnf
      exact CutK.piece (laws_FnExactQuotientTerms_p10_ct  h) [some 192, some 256, some 512, some 576, some 704, some 768, some 832, some 896, some 1109000, some 1109001, some 1109002, some 1109003, some 3200, some 3201] [] ⟨⟨rfl, rfl⟩, ⟨rfl, ⟨rfl, rfl, trivial⟩, ⟨rfl, rfl, trivial⟩, ⟨rfl, ⟨rfl, rfl⟩, trivial⟩, ⟨rfl, ⟨rfl, rfl⟩, trivial⟩, ⟨rfl, ⟨rfl, rfl⟩, trivial⟩, ⟨rfl, ⟨rfl, rfl⟩, trivial⟩, ⟨rfl, ⟨rfl, rfl⟩, trivial⟩, ⟨rfl, ⟨rfl, rfl⟩, trivial⟩, ⟨rfl, rfl, rows_same⟩, ⟨rfl, rfl, rows_same⟩, ⟨rfl, rfl, rows_same⟩, ⟨rfl, rfl, rows_same⟩, ⟨rfl, rfl, rows_same⟩, ⟨rfl, rfl, rows_same⟩, trivial⟩, rfl, ⟨rfl, rfl⟩, ⟨rfl, rfl⟩, ⟨rfl, rfl⟩, ⟨rfl, rfl⟩, rfl, ⟨rfl, rfl⟩, ⟨rfl, rfl⟩, ⟨rfl, rfl⟩, ⟨rfl, rfl⟩, rfl, trivial⟩
    · replace h := iteF h g516
      conv => whnf
      exact CutK.piece (laws_FnExactQuotientTerms_p10_ct  h) [some 192, some 256, some 512, some 576, some 704, some 768, some 832, some 896, some 1109000, some 1109001, some 1109002, some 1109003, some 3200, some 3201] [] ⟨⟨rfl, rfl⟩, ⟨rfl, ⟨rfl, rfl, trivial⟩, ⟨rfl, rfl, trivial⟩, ⟨rfl, ⟨rfl, rfl⟩, trivial⟩, ⟨rfl, ⟨rfl, rfl⟩, trivial⟩, ⟨rfl, ⟨rfl, rfl⟩, trivial⟩, ⟨rfl, ⟨rfl, rfl⟩, trivial⟩, ⟨rfl, ⟨rfl, rfl⟩, trivial⟩, ⟨rfl, ⟨rfl, rfl⟩, trivial⟩, ⟨rfl, rfl, rows_same⟩, ⟨rfl, rfl, rows_same⟩, ⟨rfl, rfl, rows_same⟩, ⟨rfl, rfl, rows_same⟩, ⟨rfl, rfl, rows_same⟩, ⟨rfl, rfl, rows_same⟩, trivial⟩, rfl, ⟨rfl, rfl⟩, ⟨rfl, rfl⟩, ⟨rfl, rfl⟩, ⟨rfl, rfl⟩, rfl, ⟨rfl, rfl⟩, ⟨rfl, rfl⟩, ⟨rfl, rfl⟩, ⟨rfl, rfl⟩, rfl, trivial⟩
  · replace h := condT h
    conv => whnf
    refine Pick.no ?_
    conv => whnf
    refine Take.all (rfl) ?_
    conv => whnf
    refine Take.all (rfl) ?_
    conv => whnf
    obtain ⟨y517, e518, h⟩ := bind_ex h
    refine CallOk.of (impl_QuotientTerms_ct e518) ?_
    conv => whnf
    refine spl (fun g519 => ?_) (fun g519 => ?_)
    · replace h := iteT h g519
      conv => whnf
      exact CutK.piece (laws_FnExactQuotientTerms_p10_ct  h) [some 192, some 256, some 512, some 576, some 704, some 768, some 832, some 896, some 1109000, some 1109001, some 1109002, some 1109003, some 3200, some 3201] [] ⟨⟨rfl, rfl⟩, ⟨rfl, ⟨rfl, rfl, trivial⟩, ⟨rfl, rfl, trivial⟩, ⟨rfl, ⟨rfl, rfl⟩, trivial⟩, ⟨rfl, ⟨rfl, rfl⟩, trivial⟩, ⟨rfl, ⟨rfl, rfl⟩, trivial⟩, ⟨rfl, ⟨rfl, rfl⟩, trivial⟩, ⟨rfl, ⟨rfl, rfl⟩, trivial⟩, ⟨rfl, ⟨rfl, rfl⟩, trivial⟩, ⟨rfl, rfl, rows_same⟩, ⟨rfl, rfl, rows_same⟩, ⟨rfl, rfl, rows_same⟩, ⟨rfl, rfl, rows_same⟩, ⟨rfl, rfl, rows_same⟩, ⟨rfl, rfl, rows_same⟩, trivial⟩, rfl, ⟨rfl, rfl⟩, ⟨rfl, rfl⟩, ⟨rfl, rfl⟩, ⟨rfl, rfl⟩, rfl, ⟨rfl, rfl⟩, ⟨rfl, rfl⟩, ⟨rfl, rfl⟩, ⟨rfl, rfl⟩, rfl, trivial⟩
    · replace h := iteF h g519
      conv => whnf
      exact CutK.piece (laws_FnExactQuotientTerms_p10_ct  h) [some 192, some 256, some 512, some 576, some 704, some 768, some 832, some 896, some 1109000, some 1109001, some 1109002, some 1109003, some 3200, some 3201] [] ⟨⟨rfl, rfl⟩, ⟨rfl, ⟨rfl, rfl, trivial⟩, ⟨rfl, rfl, trivial⟩, ⟨rfl, ⟨rfl, rfl⟩, trivial⟩, ⟨rfl, ⟨rfl, rfl⟩, trivial⟩, ⟨rfl, ⟨rfl, rfl⟩, trivial⟩, ⟨rfl, ⟨rfl, rfl⟩, trivial⟩, ⟨rfl, ⟨rfl, rfl⟩, trivial⟩, ⟨rfl, ⟨rfl, rfl⟩, trivial⟩, ⟨rfl, rfl, rows_same⟩, ⟨rfl, rfl, rows_same⟩, ⟨rfl, rfl, rows_same⟩, ⟨rfl, rfl, rows_same⟩, ⟨rfl, rfl, rows_same⟩, ⟨rfl, rfl, rows_same⟩, trivial⟩, rfl, ⟨rfl, rfl⟩, ⟨rfl, rfl⟩, ⟨rfl, rfl⟩, ⟨rfl, rfl⟩, rfl, ⟨rfl, rfl⟩, ⟨rfl, rfl⟩, ⟨rfl, rfl⟩, ⟨rfl, rfl⟩, rfl, trivial⟩
def laws_FnExactQuotientTerms_p8 (k : Nat) (a1 : Rw) (a2 : Rw) (a3 : Int) (o24 : Rw) (o25 : Rw) (o26 : Rw) (v29 : Bool) : Option Bool :=
  (cond v29 ((laws_toSurreal k a2).bind fun y522 => (laws_FnExactQuotientTerms_p9 k a1 a2 a3 o24 o25 o26 y522 true)) ((laws_toSurreal k a2).bind fun y520 => (laws_FnExactQuotientTerms_p9 k a1 a2 a3 o24 o25 o26 y520 false)))
set_option maxHeartbeats 4000000 in
set_option maxRecDepth 100000 in
theorem laws_FnExactQuotientTerms_p8_ct {k : Nat} {a1 : Rw} {a2 : Rw} {a3 : Int} {o24 : Rw} {o25 : Rw} {o26 : Rw} {v29 : Bool} {r : Bool} (h : laws_FnExactQuotientTerms_p8 k a1 a2 a3 o24 o25 o26 v29 = some r) : X prog 0 (tlF f4 8) (mk 161 [(2, .d (D.int .i64 a3)), (3, .ptr 192 0), (4, .ptr 256 0), (8, .ptr 512 0), (9, .ptr 576 0), (10, .d (D.bool v29)), (11, .ptr 704 0)] [(192, .box 24 [.d (D.sl a1)]), (256, .box 24 [.d (D.sl a2)]), (512, .box 28 [.os 1104000 o24.length]), (576, .box 28 [.os 1104001 o25.length]), (704, .box 28 [.os 1104002 o26.length]), (1104000, .arr 116 true o24), (1104001, .arr 116 true o25), (1104002, .arr 116 true o26)]) (finK prog f4 0 (.d (D.bool r)) (⟨[], []⟩)) := by
  rw [laws_FnExactQuotientTerms_p8] at h
  cases v29
  · replace h := condF h
    conv => whnf
    refine Pick.no ?_
    conv => whnf
    obtain ⟨y520, e521, h⟩ := bind_ex h
    refine CallOk.of (laws_toSurreal_ct e521) ?_
    conv => whnf
    exact CutK.piece (laws_FnExactQuotientTerms_p9_ct  h) [some 192, some 256, some 512, some 576, some 704, some 768, some 1104000, some 1104001, some 1104002, some 2880] [] ⟨⟨rfl, rfl⟩, ⟨rfl, ⟨rfl, rfl, trivial⟩, ⟨rfl, rfl, trivial⟩, ⟨rfl, ⟨rfl, rfl⟩, trivial⟩, ⟨rfl, ⟨rfl, rfl⟩, trivial⟩, ⟨rfl, ⟨rfl, rfl⟩, trivial⟩, ⟨rfl, ⟨rfl, rfl⟩, trivial⟩, ⟨rfl, rfl, rows_same⟩, ⟨rfl, rfl, rows_same⟩, ⟨rfl, rfl, rows_same⟩, ⟨rfl, rfl, rows_same⟩, trivial⟩, rfl, ⟨rfl, rfl⟩, ⟨rfl, rfl⟩, ⟨rfl, rfl⟩, ⟨rfl, rfl⟩, rfl, ⟨rfl, rfl⟩, ⟨rfl, rfl⟩, trivial⟩
  · replace h := condT h
    conv => whnf
    refine Pick.no ?_
    conv => whnf
    obtain ⟨y522, e523, h⟩ := bind_ex h
    refine CallOk.of (laws_toSurreal_ct e523) ?_
    conv => whnf
    exact CutK.piece (laws_FnExactQuotientTerms_p9_ct  h) [some 192, some 256, some 512, some 576, some 704, some 768, some 1104000, some 1104001, some 1104002, some 2880] [] ⟨⟨rfl, rfl⟩, ⟨rfl, ⟨rfl, rfl, trivial⟩, ⟨rfl, rfl, trivial⟩, ⟨rfl, ⟨rfl, rfl⟩, trivial⟩, ⟨rfl, ⟨rfl, rfl⟩, trivial⟩, ⟨rfl, ⟨rfl, rfl⟩, trivial⟩, ⟨rfl, ⟨rfl, rfl⟩, trivial⟩, ⟨rfl, rfl, rows_same⟩, ⟨rfl, rfl, rows_same⟩, ⟨rfl, rfl, rows_same⟩, ⟨rfl, rfl, rows_same⟩, trivial⟩, rfl, ⟨rfl, rfl⟩, ⟨rfl, rfl⟩, ⟨rfl, rfl⟩, ⟨rfl, rfl⟩, rfl, ⟨rfl, rfl⟩, ⟨rfl, rfl⟩, trivial⟩
def laws_FnExactQuotientTerms_p7 (k : Nat) (a1 : Rw) (a2 : Rw) (a3 : Int) (o19 : Rw) (o20 : Rw) (v21 : Bool) : Option Bool :=
  (cond v21 ((laws_toSurreal k a1).bind fun y526 => (laws_FnExactQuotientTerms_p8 k a1 a2 a3 o19 o20 y526 true)) ((laws_toSurreal k a1).bind fun y524 => (laws_FnExactQuotientTerms_p8 k a1 a2 a3 o19 o20 y524 false)))
set_option maxHeartbeats 4000000 in
set_option maxRecDepth 100000 in
theorem laws_FnExactQuotientTerms_p7_ct {k : Nat} {a1 : Rw} {a2 : Rw} {a3 : Int} {o19 : Rw} {o20 : Rw} {v21 : Bool} {r : Bool} (h : laws_FnExactQuotientTerms_p7 k a1 a2 a3 o19 o20 v21 = some r) : X prog 0 (tlF f4 7) (mk 161 [(2, .d (D.int .i64 a3)), (3, .ptr 192 0), (4, .ptr 256 0), (8, .ptr 512 0), (9, .ptr 576 0), (10, .d (D.bool v21))] [(192, .box 24 [.d (D.sl a1)]), (256, .box 24 [.d (D.sl a2)]), (512, .box 28 [.os 1099000 o19.length]), (576, .box 28 [.os 1099001 o20.length]), (1099000, .arr 116 true o19), (1099001, .arr 116 true o20)]) (finK prog f4 0 (.d (D.bool r)) (⟨[], []⟩)) := by
  rw [laws_FnExactQuotientTerms_p7] at h
  cases v21
  · replace h := condF h
    conv => whnf
    refine Pick.no ?_
    conv => whnf
    obtain ⟨y524, e525, h⟩ := bind_ex h
    refine CallOk.of (laws_toSurreal_ct e525) ?_
    conv => whnf
    exact CutK.piece (laws_FnExactQuotientTerms_p8_ct  h) [some 192, some 256, some 512, some 576, some 704, some 1099000, some 1099001, some 2752] [] ⟨⟨rfl, rfl⟩, ⟨rfl, ⟨rfl, rfl, trivial⟩, ⟨rfl, rfl, trivial⟩, ⟨rfl, ⟨rfl, rfl⟩, trivial⟩, ⟨rfl, ⟨rfl, rfl⟩, trivial⟩, ⟨rfl, ⟨rfl, rfl⟩, trivial⟩, ⟨rfl, rfl, rows_same⟩, ⟨rfl, rfl, rows_same⟩, ⟨rfl, rfl, rows_same⟩, trivial⟩, rfl, ⟨rfl, rfl⟩, ⟨rfl, rfl⟩, ⟨rfl, rfl⟩, ⟨rfl, rfl⟩, rfl, ⟨rfl, rfl⟩, trivial⟩
  · replace h := condT h
    conv => whnf
    refine Pick.no ?_
    conv => whnf
    obtain ⟨y526, e527, h⟩ := bind_ex h
    refine CallOk.of (laws_toSurreal_ct e527) ?_
    conv => whnf
    exact CutK.piece (laws_FnExactQuotientTerms_p8_ct  h) [some 192, some 256, some 512, some 576, some 704, some 1099000, some 1099001, some 2752] [] ⟨⟨rfl, rfl⟩, ⟨rfl, ⟨rfl, rfl, trivial⟩, ⟨rfl, rfl, trivial⟩, ⟨rfl, ⟨rfl, rfl⟩, trivial⟩, ⟨rfl, ⟨rfl, rfl⟩, trivial⟩, ⟨rfl, ⟨rfl, rfl⟩, trivial⟩, ⟨rfl, rfl, rows_same⟩, ⟨rfl, rfl, rows_same⟩, ⟨rfl, rfl, rows_same⟩, trivial⟩, rfl, ⟨rfl, rfl⟩, ⟨rfl, rfl⟩, ⟨rfl, rfl⟩, ⟨rfl, rfl⟩, rfl, ⟨rfl, rfl⟩, trivial⟩
def laws_FnExactQuotientTerms_p5 (k : Nat) (a1 : Rw) (a2 : Rw) (a3 : Int) (o10 : Int) : Option Bool :=
  (if o10 < (0 : Int) then some true else ((laws_toSurreal k a1).bind fun y529 => ((laws_toSurreal k a2).bind fun y531 => ((spec_QuotientTerms k y529 y531 a3).bind fun y533 => (if y533.2.2 = true then (laws_FnExactQuotientTerms_p7 k a1 a2 a3 y533.1 y533.2.1 true) else (laws_FnExactQuotientTerms_p7 k a1 a2 a3 y533.1 y533.2.1 false))))))
set_option maxHeartbeats 4000000 in
set_option maxRecDepth 100000 in
theorem laws_FnExactQuotientTerms_p5_ct {k : Nat} {a1 : Rw} {a2 : Rw} {a3 : Int} {o10 : Int} {r : Bool} (h : laws_FnExactQuotientTerms_p5 k a1 a2 a3 o10 = some r) : X prog 0 (tlF f4 5) (mk 161 [(2, .d (D.int .i64 a3)), (3, .ptr 192 0), (4, .ptr 256 0), (7, .d (D.int .i64 o10))] [(192, .box 24 [.d (D.sl a1)]), (256, .box 24 [.d (D.sl a2)])]) (finK prog f4 0 (.d (D.bool r)) (⟨[], []⟩)) := by
  rw [laws_FnExactQuotientTerms_p5] at h
  conv => whnf
  refine splD (fun g528 => ?_) (fun g528 => ?_)
  · replace h := iteP h g528
    conv => whnf
    cases h
    exact Done.of [] [] rfl rfl ⟨⟨rfl, rfl⟩, ⟨rfl, trivial⟩, rfl, trivial⟩
  · replace h := iteN h g528
    conv => whnf
    refine Pick.no ?_
    conv => whnf
    obtain ⟨y529, e530, h⟩ := bind_ex h
    refine CallOk.of (laws_toSurreal_ct e530) ?_
    conv => whnf
    refine Pick.no ?_
    conv => whnf
    obtain ⟨y531, e532, h⟩ := bind_ex h
    refine CallOk.of (laws_toSurreal_ct e532) ?_
    conv => whnf
    refine Pick.no ?_
    conv => whnf
    refine Take.all (rfl) ?_
    conv => whnf
    refine Take.all (rfl) ?_
    conv => whnf
    obtain ⟨y533, e534, h⟩ := bind_ex h
    refine CallOk.of (spec_QuotientTerms_ct e534) ?_
    conv => whnf
    refine spl (fun g535 => ?_) (fun g535 => ?_)
    · replace h := iteT h g535
      conv => whnf
      exact CutK.piece (laws_FnExactQuotientTerms_p7_ct  h) [some 192, some 256, some 512, some 576, some 2432, some 2433] [] ⟨⟨rfl, rfl⟩, ⟨rfl, ⟨rfl, rfl, trivial⟩, ⟨rfl, rfl, trivial⟩, ⟨rfl, ⟨rfl, rfl⟩, trivial⟩, ⟨rfl, ⟨rfl, rfl⟩, trivial⟩, ⟨rfl, rfl, rows_same⟩, ⟨rfl, rfl, rows_same⟩, trivial⟩, rfl, ⟨rfl, rfl⟩, ⟨rfl, rfl⟩, ⟨rfl, rfl⟩, ⟨rfl, rfl⟩, rfl, trivial⟩
    · replace h := iteF h g535
      conv => whnf
      exact CutK.piece (laws_FnExactQuotientTerms_p7_ct  h) [some 192, some 256, some 512, some 576, some 2432, some 2433] [] ⟨⟨rfl, rfl⟩, ⟨rfl, ⟨rfl, rfl, trivial⟩, ⟨rfl, rfl, trivial⟩, ⟨rfl, ⟨rfl, rfl⟩, trivial⟩, ⟨rfl, ⟨rfl, rfl⟩, trivial⟩, ⟨rfl, rfl, rows_same⟩, ⟨rfl, rfl, rows_same⟩, trivial⟩, rfl, ⟨rfl, rfl⟩, ⟨rfl, rfl⟩, ⟨rfl, rfl⟩, ⟨rfl, rfl⟩, rfl, trivial⟩
def laws_FnExactQuotientTerms_p3 (k : Nat) (a1 : Rw) (a2 : Rw) (a3 : Int) (o6 : Int) : Option Bool :=
  (if o6 < (0 : Int) then some true else ((laws_szSurreal k a2 o6).bind fun y537 => (laws_FnExactQuotientTerms_p5 k a1 a2 a3 y537)))
set_option maxHeartbeats 4000000 in
set_option maxRecDepth 100000 in
theorem laws_FnExactQuotientTerms_p3_ct {k : Nat} {a1 : Rw} {a2 : Rw} {a3 : Int} {o6 : Int} {r : Bool} (h : laws_FnExactQuotientTerms_p3 k a1 a2 a3 o6 = some r) : X prog 0 (tlF f4 3) (mk 161 [(2, .d (D.int .i64 a3)), (3, .ptr 192 0), (4, .ptr 256 0), (7, .d (D.int .i64 o6))] [(192, .box 24 [.d (D.sl a1)]), (256, .box 24 [.d (D.sl a2)])]) (finK prog f4 0 (.d (D.bool r)) (⟨[], []⟩)) := by
  rw [laws_FnExactQuotientTerms_p3] at h
  conv => whnf
  refine splD (fun g536 => ?_) (fun g536 => ?_)
  · replace h := iteP h g536
    conv => whnf
    cases h
    exact Done.of [] [] rfl rfl ⟨⟨rfl, rfl⟩, ⟨rfl, trivial⟩, rfl, trivial⟩
  · replace h := iteN h g536
    conv => whnf
    refine Pick.no ?_
    conv => whnf
    obtain ⟨y537, e538, h⟩ := bind_ex h
    refine CallOk.of (laws_szSurreal_ct e538) ?_
    conv => whnf
    exact CutK.piece (laws_FnExactQuotientTerms_p5_ct  h) [some 192, some 256] [] ⟨⟨rfl, rfl⟩, ⟨rfl, ⟨rfl, rfl, trivial⟩, ⟨rfl, rfl, trivial⟩, trivial⟩, rfl, ⟨rfl, rfl⟩, ⟨rfl, rfl⟩, rfl, trivial⟩
def laws_FnExactQuotientTerms (k : Nat) (a1 : Rw) (a2 : Rw) (a3 : Int) : Option Bool :=
  ((laws_szSurreal k a1 1048576).bind fun y539 => (laws_FnExactQuotientTerms_p3 k a1 a2 a3 y539))
set_option maxHeartbeats 4000000 in
set_option maxRecDepth 100000 in
theorem laws_FnExactQuotientTerms_ct {k : Nat} {a1 : Rw} {a2 : Rw} {a3 : Int} {r : Bool} (h : laws_FnExactQuotientTerms k a1 a2 a3 = some r) : Ct prog 4 [.agg [.d (D.sl a1)], .agg [.d (D.sl a2)], .d (D.int .i64 a3)] (⟨[], []⟩) (.d (D.bool r)) (⟨[], []⟩) := by
  rw [laws_FnExactQuotientTerms] at h
  refine Ct.of (c := _) mixed func4 ⟨rfl, rfl, rfl⟩ ?_ rfl
  conv => whnf
  refine Pick.no ?_
  conv => whnf
  obtain ⟨y539, e540, h⟩ := bind_ex h
  refine CallOk.of (laws_szSurreal_ct e540) ?_
  conv => whnf
  exact CutK.piece (laws_FnExactQuotientTerms_p3_ct  h) [some 192, some 256] [] ⟨⟨rfl, rfl⟩, ⟨rfl, ⟨rfl, rfl, trivial⟩, ⟨rfl, rfl, trivial⟩, trivial⟩, rfl, ⟨rfl, rfl⟩, ⟨rfl, rfl⟩, rfl, trivial⟩
end
end Go.Proofs.Try
