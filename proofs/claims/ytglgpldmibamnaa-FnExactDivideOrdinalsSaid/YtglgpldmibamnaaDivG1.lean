/- Printed by program (axgen): pure functions, and that the Go functions compute them. -/
import Derived.Test.YtglgpldmibamnaaDivG0
set_option linter.unusedVariables false
set_option linter.unusedSimpArgs false
namespace Go.Proofs.Try
open Go Go.AX
noncomputable section
def laws_FnExactDivideOrdinals_p32 (o322 : Int) (o323 : Int) : Option Bool :=
  (if o323 < (0 : Int) then some false else (if o323 = o322 then some true else some false))
set_option maxHeartbeats 4000000 in
set_option maxRecDepth 100000 in
theorem laws_FnExactDivideOrdinals_p32_ct {o322 : Int} {o323 : Int} {r : Bool} (h : laws_FnExactDivideOrdinals_p32 o322 o323 = some r) : X prog 0 (tlF f7 32) (mk 156 [(15, .d (D.int .i64 o322)), (16, .d (D.int .i64 o323))] []) (finK prog f7 0 (.d (D.bool r)) (⟨[], []⟩)) := by
  rw [laws_FnExactDivideOrdinals_p32] at h
  conv => whnf
  refine splD (fun g326 => ?_) (fun g326 => ?_)
  · replace h := iteP h g326
    conv => whnf
    cases h
    exact Done.of [] [] rfl rfl ⟨⟨rfl, rfl⟩, ⟨rfl, trivial⟩, rfl, trivial⟩
  · replace h := iteN h g326
    conv => whnf
    refine splN (fun g327 => ?_) (fun g327 => ?_)
    · replace h := iteN h g327
      conv => whnf
      cases h
      exact Done.of [] [] rfl rfl ⟨⟨rfl, rfl⟩, ⟨rfl, trivial⟩, rfl, trivial⟩
    · replace h := iteP h g327
      conv => whnf
      cases h
      exact Done.of [] [] rfl rfl ⟨⟨rfl, rfl⟩, ⟨rfl, trivial⟩, rfl, trivial⟩
def laws_FnExactDivideOrdinals_p30 (k : Nat) (o316 : Int) (o317 : Int) (o318 : Rw) : Option Bool :=
  (if o317 < (0 : Int) then some false else ((laws_heldOrdinal k o318 o317).bind fun y329 => (laws_FnExactDivideOrdinals_p32 o316 y329)))
set_option maxHeartbeats 4000000 in
set_option maxRecDepth 100000 in
theorem laws_FnExactDivideOrdinals_p30_ct {k : Nat} {o316 : Int} {o317 : Int} {o318 : Rw} {r : Bool} (h : laws_FnExactDivideOrdinals_p30 k o316 o317 o318 = some r) : X prog 0 (tlF f7 30) (mk 156 [(12, .ptr 768 0), (15, .d (D.int .i64 o316)), (16, .d (D.int .i64 o317))] [(768, .box 26 [.os 1214000 o318.length]), (1214000, .arr 98 true o318)]) (finK prog f7 0 (.d (D.bool r)) (⟨[], []⟩)) := by
  rw [laws_FnExactDivideOrdinals_p30] at h
  conv => whnf
  refine splD (fun g328 => ?_) (fun g328 => ?_)
  · replace h := iteP h g328
    conv => whnf
    cases h
    exact Done.of [] [] rfl rfl ⟨⟨rfl, rfl⟩, ⟨rfl, trivial⟩, rfl, trivial⟩
  · replace h := iteN h g328
    conv => whnf
    refine Choice.old ?_
    conv => whnf
    refine Take.all (rfl) ?_
    conv => whnf
    obtain ⟨y329, e330, h⟩ := bind_ex h
    refine CallOk.of (laws_heldOrdinal_ct e330) ?_
    conv => whnf
    exact CutK.piece (laws_FnExactDivideOrdinals_p32_ct  h) [] [] ⟨⟨rfl, rfl⟩, ⟨rfl, trivial⟩, rfl, rfl, trivial⟩
def laws_FnExactDivideOrdinals_p28 (k : Nat) (o293 : Int) (o294 : Rw) (o295 : Rw) : Option Bool :=
  ((laws_heldOrdinal k o294 1).bind fun y331 => (laws_FnExactDivideOrdinals_p30 k o293 y331 o295))
set_option maxHeartbeats 4000000 in
set_option maxRecDepth 100000 in
theorem laws_FnExactDivideOrdinals_p28_ct {k : Nat} {o293 : Int} {o294 : Rw} {o295 : Rw} {r : Bool} (h : laws_FnExactDivideOrdinals_p28 k o293 o294 o295 = some r) : X prog 0 (tlF f7 28) (mk 156 [(11, .ptr 704 0), (12, .ptr 768 0), (15, .d (D.int .i64 o293))] [(704, .box 26 [.os 1204000 o294.length]), (768, .box 26 [.os 1204001 o295.length]), (1204000, .arr 98 true o294), (1204001, .arr 98 true o295)]) (finK prog f7 0 (.d (D.bool r)) (⟨[], []⟩)) := by
  rw [laws_FnExactDivideOrdinals_p28] at h
  conv => whnf
  refine Choice.old ?_
  conv => whnf
  refine Take.all (rfl) ?_
  conv => whnf
  obtain ⟨y331, e332, h⟩ := bind_ex h
  refine CallOk.of (laws_heldOrdinal_ct e332) ?_
  conv => whnf
  exact CutK.piece (laws_FnExactDivideOrdinals_p30_ct  h) [some 768, some 1204001] [] ⟨⟨rfl, rfl⟩, ⟨rfl, ⟨rfl, ⟨rfl, rfl⟩, trivial⟩, ⟨rfl, rfl, rows_same⟩, trivial⟩, ⟨rfl, rfl⟩, rfl, rfl, trivial⟩
def laws_FnExactDivideOrdinals_p27 (k : Nat) (o269 : Int) (o270 : Rw) (o271 : Rw) (o272 : Rw) (o273 : Rw) (o274 : Rw) (o275 : Rw) (v276 : Bool) (v286 : Bool) : Option Bool :=
  (cond v276 (cond v286 ((laws_eqOrdinal k o274 o270).bind fun y351 => (if y351 = true then ((laws_eqOrdinal k o275 o271).bind fun y354 => (if y354 = true then (laws_FnExactDivideOrdinals_p28 k o269 o272 o273) else some false)) else some false)) ((laws_eqOrdinal k o274 o270).bind fun y345 => (if y345 = true then ((laws_eqOrdinal k o275 o271).bind fun y348 => (if y348 = true then some false else some false)) else some false))) (cond v286 ((laws_eqOrdinal k o274 o270).bind fun y339 => (if y339 = true then ((laws_eqOrdinal k o275 o271).bind fun y342 => (if y342 = true then some false else some false)) else some false)) ((laws_eqOrdinal k o274 o270).bind fun y333 => (if y333 = true then ((laws_eqOrdinal k o275 o271).bind fun y336 => (if y336 = true then (laws_FnExactDivideOrdinals_p28 k o269 o272 o273) else some false)) else some false))))
set_option maxHeartbeats 4000000 in
set_option maxRecDepth 100000 in
theorem laws_FnExactDivideOrdinals_p27_ct {k : Nat} {o269 : Int} {o270 : Rw} {o271 : Rw} {o272 : Rw} {o273 : Rw} {o274 : Rw} {o275 : Rw} {v276 : Bool} {v286 : Bool} {r : Bool} (h : laws_FnExactDivideOrdinals_p27 k o269 o270 o271 o272 o273 o274 o275 v276 v286 = some r) : X prog 0 (tlF f7 27) (mk 156 [(6, .ptr 384 0), (7, .ptr 448 0), (8, .d (D.bool v286)), (11, .ptr 704 0), (12, .ptr 768 0), (15, .d (D.int .i64 o269)), (17, .ptr 1088 0), (18, .ptr 1152 0), (19, .d (D.bool v276))] [(384, .box 26 [.os 1199000 o270.length]), (448, .box 26 [.os 1199001 o271.length]), (704, .box 26 [.os 1199002 o272.length]), (768, .box 26 [.os 1199003 o273.length]), (1088, .box 26 [.os 1199004 o274.length]), (1152, .box 26 [.os 1199005 o275.length]), (1199000, .arr 98 true o270), (1199001, .arr 98 true o271), (1199002, .arr 98 true o272), (1199003, .arr 98 true o273), (1199004, .arr 98 true o274), (1199005, .arr 98 true o275)]) (finK prog f7 0 (.d (D.bool r)) (⟨[], []⟩)) := by
  rw [laws_FnExactDivideOrdinals_p27] at h
  cases v276
  · replace h := condF h
    cases v286
    · replace h := condF h
      conv => whnf
      refine Take.all (rfl) ?_
      conv => whnf
      refine Take.all (rfl) ?_
      conv => whnf
      obtain ⟨y333, e334, h⟩ := bind_ex h
      refine CallOk.of (laws_eqOrdinal_ct e334) ?_
      conv => whnf
      refine spl (fun g335 => ?_) (fun g335 => ?_)
      · replace h := iteT h g335
        conv => whnf
        refine Take.all (rfl) ?_
        conv => whnf
        refine Take.all (rfl) ?_
        conv => whnf
        obtain ⟨y336, e337, h⟩ := bind_ex h
        refine CallOk.of (laws_eqOrdinal_ct e337) ?_
        conv => whnf
        refine spl (fun g338 => ?_) (fun g338 => ?_)
        · replace h := iteT h g338
          conv => whnf
          refine splF ?_
          conv => whnf
          refine CutK.norm [11, 12, 15, 142] [704, 768, 1199002, 1199003] ?_
          conv => whnf
          exact CutK.piece (laws_FnExactDivideOrdinals_p28_ct  h) [some 704, some 768, some 1199002, some 1199003] [] ⟨⟨rfl, rfl⟩, ⟨rfl, ⟨rfl, ⟨rfl, rfl⟩, trivial⟩, ⟨rfl, ⟨rfl, rfl⟩, trivial⟩, ⟨rfl, rfl, rows_same⟩, ⟨rfl, rfl, rows_same⟩, trivial⟩, ⟨rfl, rfl⟩, ⟨rfl, rfl⟩, rfl, trivial⟩
        · replace h := iteF h g338
          conv => whnf
          refine CutK.norm [11, 12, 15, 142] [704, 768, 1199002, 1199003] ?_
          conv => whnf
          cases h
          exact Done.of [] [] rfl rfl ⟨⟨rfl, rfl⟩, ⟨rfl, trivial⟩, rfl, trivial⟩
      · replace h := iteF h g335
        conv => whnf
        refine CutK.norm [11, 12, 15, 142] [704, 768, 1199002, 1199003] ?_
        conv => whnf
        cases h
        exact Done.of [] [] rfl rfl ⟨⟨rfl, rfl⟩, ⟨rfl, trivial⟩, rfl, trivial⟩
    · replace h := condT h
      conv => whnf
      refine Take.all (rfl) ?_
      conv => whnf
      refine Take.all (rfl) ?_
      conv => whnf
      obtain ⟨y339, e340, h⟩ := bind_ex h
      refine CallOk.of (laws_eqOrdinal_ct e340) ?_
      conv => whnf
      refine spl (fun g341 => ?_) (fun g341 => ?_)
      · replace h := iteT h g341
        conv => whnf
        refine Take.all (rfl) ?_
        conv => whnf
        refine Take.all (rfl) ?_
        conv => whnf
        obtain ⟨y342, e343, h⟩ := bind_ex h
        refine CallOk.of (laws_eqOrdinal_ct e343) ?_
        conv => whnf
        refine spl (fun g344 => ?_) (fun g344 => ?_)
        · replace h := iteT h g344
          conv => whnf
          refine splT ?_
          conv => whnf
          refine CutK.norm [11, 12, 15, 142] [704, 768, 1199002, 1199003] ?_
          conv => whnf
          cases h
          exact Done.of [] [] rfl rfl ⟨⟨rfl, rfl⟩, ⟨rfl, trivial⟩, rfl, trivial⟩
        · replace h := iteF h g344
          conv => whnf
          refine CutK.norm [11, 12, 15, 142] [704, 768, 1199002, 1199003] ?_
          conv => whnf
          cases h
          exact Done.of [] [] rfl rfl ⟨⟨rfl, rfl⟩, ⟨rfl, trivial⟩, rfl, trivial⟩
      · replace h := iteF h g341
        conv => whnf
        refine CutK.norm [11, 12, 15, 142] [704, 768, 1199002, 1199003] ?_
        conv => whnf
        cases h
        exact Done.of [] [] rfl rfl ⟨⟨rfl, rfl⟩, ⟨rfl, trivial⟩, rfl, trivial⟩
  · replace h := condT h
    cases v286
    · replace h := condF h
      conv => whnf
      refine Take.all (rfl) ?_
      conv => whnf
      refine Take.all (rfl) ?_
      conv => whnf
      obtain ⟨y345, e346, h⟩ := bind_ex h
      refine CallOk.of (laws_eqOrdinal_ct e346) ?_
      conv => whnf
      refine spl (fun g347 => ?_) (fun g347 => ?_)
      · replace h := iteT h g347
        conv => whnf
        refine Take.all (rfl) ?_
        conv => whnf
        refine Take.all (rfl) ?_
        conv => whnf
        obtain ⟨y348, e349, h⟩ := bind_ex h
        refine CallOk.of (laws_eqOrdinal_ct e349) ?_
        conv => whnf
        refine spl (fun g350 => ?_) (fun g350 => ?_)
        · replace h := iteT h g350
          conv => whnf
          refine splT ?_
          conv => whnf
          refine CutK.norm [11, 12, 15, 142] [704, 768, 1199002, 1199003] ?_
          conv => whnf
          cases h
          exact Done.of [] [] rfl rfl ⟨⟨rfl, rfl⟩, ⟨rfl, trivial⟩, rfl, trivial⟩
        · replace h := iteF h g350
          conv => whnf
          refine CutK.norm [11, 12, 15, 142] [704, 768, 1199002, 1199003] ?_
          conv => whnf
          cases h
          exact Done.of [] [] rfl rfl ⟨⟨rfl, rfl⟩, ⟨rfl, trivial⟩, rfl, trivial⟩
      · replace h := iteF h g347
        conv => whnf
        refine CutK.norm [11, 12, 15, 142] [704, 768, 1199002, 1199003] ?_
        conv => whnf
        cases h
        exact Done.of [] [] rfl rfl ⟨⟨rfl, rfl⟩, ⟨rfl, trivial⟩, rfl, trivial⟩
    · replace h := condT h
      conv => whnf
      refine Take.all (rfl) ?_
      conv => whnf
      refine Take.all (rfl) ?_
      conv => whnf
      obtain ⟨y351, e352, h⟩ := bind_ex h
      refine CallOk.of (laws_eqOrdinal_ct e352) ?_
      conv => whnf
      refine spl (fun g353 => ?_) (fun g353 => ?_)
      · replace h := iteT h g353
        conv => whnf
        refine Take.all (rfl) ?_
        conv => whnf
        refine Take.all (rfl) ?_
        conv => whnf
        obtain ⟨y354, e355, h⟩ := bind_ex h
        refine CallOk.of (laws_eqOrdinal_ct e355) ?_
        conv => whnf
        refine spl (fun g356 => ?_) (fun g356 => ?_)
        · replace h := iteT h g356
          conv => whnf
          refine splF ?_
          conv => whnf
          refine CutK.norm [11, 12, 15, 142] [704, 768, 1199002, 1199003] ?_
          conv => whnf
          exact CutK.piece (laws_FnExactDivideOrdinals_p28_ct  h) [some 704, some 768, some 1199002, some 1199003] [] ⟨⟨rfl, rfl⟩, ⟨rfl, ⟨rfl, ⟨rfl, rfl⟩, trivial⟩, ⟨rfl, ⟨rfl, rfl⟩, trivial⟩, ⟨rfl, rfl, rows_same⟩, ⟨rfl, rfl, rows_same⟩, trivial⟩, ⟨rfl, rfl⟩, ⟨rfl, rfl⟩, rfl, trivial⟩
        · replace h := iteF h g356
          conv => whnf
          refine CutK.norm [11, 12, 15, 142] [704, 768, 1199002, 1199003] ?_
          conv => whnf
          cases h
          exact Done.of [] [] rfl rfl ⟨⟨rfl, rfl⟩, ⟨rfl, trivial⟩, rfl, trivial⟩
      · replace h := iteF h g353
        conv => whnf
        refine CutK.norm [11, 12, 15, 142] [704, 768, 1199002, 1199003] ?_
        conv => whnf
        cases h
        exact Done.of [] [] rfl rfl ⟨⟨rfl, rfl⟩, ⟨rfl, trivial⟩, rfl, trivial⟩
def laws_FnExactDivideOrdinals_p24 (k : Nat) (a1 : Rw) (a2 : Rw) (o250 : Int) (o251 : Int) (o252 : Rw) (o253 : Rw) (o254 : Rw) (o255 : Rw) (v259 : Bool) : Option Bool :=
  (cond v259 (if o251 < (0 : Int) then some false else (if o251 = o250 then ((laws_toOrdinal k a1).bind fun y368 => ((laws_toOrdinal k a2).bind fun y370 => ((impl_DivideOrdinals k y368 y370).bind fun y372 => (if y372.2.2 = true then (laws_FnExactDivideOrdinals_p27 k o250 o252 o253 o254 o255 y372.1 y372.2.1 true true) else (laws_FnExactDivideOrdinals_p27 k o250 o252 o253 o254 o255 y372.1 y372.2.1 false true))))) else some false)) (if o251 < (0 : Int) then some false else (if o251 = o250 then ((laws_toOrdinal k a1).bind fun y359 => ((laws_toOrdinal k a2).bind fun y361 => ((impl_DivideOrdinals k y359 y361).bind fun y363 => (if y363.2.2 = true then (laws_FnExactDivideOrdinals_p27 k o250 o252 o253 o254 o255 y363.1 y363.2.1 true false) else (laws_FnExactDivideOrdinals_p27 k o250 o252 o253 o254 o255 y363.1 y363.2.1 false false))))) else some false)))
set_option maxHeartbeats 4000000 in
set_option maxRecDepth 100000 in
theorem laws_FnExactDivideOrdinals_p24_ct {k : Nat} {a1 : Rw} {a2 : Rw} {o250 : Int} {o251 : Int} {o252 : Rw} {o253 : Rw} {o254 : Rw} {o255 : Rw} {v259 : Bool} {r : Bool} (h : laws_FnExactDivideOrdinals_p24 k a1 a2 o250 o251 o252 o253 o254 o255 v259 = some r) : X prog 0 (tlF f7 24) (mk 156 [(2, .ptr 128 0), (3, .ptr 192 0), (6, .ptr 384 0), (7, .ptr 448 0), (8, .d (D.bool v259)), (11, .ptr 704 0), (12, .ptr 768 0), (15, .d (D.int .i64 o250)), (16, .d (D.int .i64 o251))] [(128, .box 36 [.d (D.sl a1)]), (192, .box 36 [.d (D.sl a2)]), (384, .box 26 [.os 1184000 o252.length]), (448, .box 26 [.os 1184001 o253.length]), (704, .box 26 [.os 1184002 o254.length]), (768, .box 26 [.os 1184003 o255.length]), (1184000, .arr 98 true o252), (1184001, .arr 98 true o253), (1184002, .arr 98 true o254), (1184003, .arr 98 true o255)]) (finK prog f7 0 (.d (D.bool r)) (⟨[], []⟩)) := by
  rw [laws_FnExactDivideOrdinals_p24] at h
  cases v259
  · replace h := condF h
    conv => whnf
    refine splD (fun g357 => ?_) (fun g357 => ?_)
    · replace h := iteP h g357
      conv => whnf
      cases h
      exact Done.of [] [] rfl rfl ⟨⟨rfl, rfl⟩, ⟨rfl, trivial⟩, rfl, trivial⟩
    · replace h := iteN h g357
      conv => whnf
      refine splN (fun g358 => ?_) (fun g358 => ?_)
      · replace h := iteN h g358
        conv => whnf
        cases h
        exact Done.of [] [] rfl rfl ⟨⟨rfl, rfl⟩, ⟨rfl, trivial⟩, rfl, trivial⟩
      · replace h := iteP h g358
        conv => whnf
        obtain ⟨y359, e360, h⟩ := bind_ex h
        refine CallOk.of (laws_toOrdinal_ct e360) ?_
        conv => whnf
        obtain ⟨y361, e362, h⟩ := bind_ex h
        refine CallOk.of (laws_toOrdinal_ct e362) ?_
        conv => whnf
        refine Take.all (rfl) ?_
        conv => whnf
        refine Take.all (rfl) ?_
        conv => whnf
        obtain ⟨y363, e364, h⟩ := bind_ex h
        refine CallOk.of (impl_DivideOrdinals_ct e364) ?_
        conv => whnf
        refine spl (fun g365 => ?_) (fun g365 => ?_)
        · replace h := iteT h g365
          conv => whnf
          exact CutK.piece (laws_FnExactDivideOrdinals_p27_ct  h) [some 384, some 448, some 704, some 768, some 1088, some 1152, some 1184000, some 1184001, some 1184002, some 1184003, some 7936, some 7937] [] ⟨⟨rfl, rfl⟩, ⟨rfl, ⟨rfl, ⟨rfl, rfl⟩, trivial⟩, ⟨rfl, ⟨rfl, rfl⟩, trivial⟩, ⟨rfl, ⟨rfl, rfl⟩, trivial⟩, ⟨rfl, ⟨rfl, rfl⟩, trivial⟩, ⟨rfl, ⟨rfl, rfl⟩, trivial⟩, ⟨rfl, ⟨rfl, rfl⟩, trivial⟩, ⟨rfl, rfl, rows_same⟩, ⟨rfl, rfl, rows_same⟩, ⟨rfl, rfl, rows_same⟩, ⟨rfl, rfl, rows_same⟩, ⟨rfl, rfl, rows_same⟩, ⟨rfl, rfl, rows_same⟩, trivial⟩, ⟨rfl, rfl⟩, ⟨rfl, rfl⟩, rfl, ⟨rfl, rfl⟩, ⟨rfl, rfl⟩, rfl, ⟨rfl, rfl⟩, ⟨rfl, rfl⟩, rfl, trivial⟩
        · replace h := iteF h g365
          conv => whnf
          exact CutK.piece (laws_FnExactDivideOrdinals_p27_ct  h) [some 384, some 448, some 704, some 768, some 1088, some 1152, some 1184000, some 1184001, some 1184002, some 1184003, some 7936, some 7937] [] ⟨⟨rfl, rfl⟩, ⟨rfl, ⟨rfl, ⟨rfl, rfl⟩, trivial⟩, ⟨rfl, ⟨rfl, rfl⟩, trivial⟩, ⟨rfl, ⟨rfl, rfl⟩, trivial⟩, ⟨rfl, ⟨rfl, rfl⟩, trivial⟩, ⟨rfl, ⟨rfl, rfl⟩, trivial⟩, ⟨rfl, ⟨rfl, rfl⟩, trivial⟩, ⟨rfl, rfl, rows_same⟩, ⟨rfl, rfl, rows_same⟩, ⟨rfl, rfl, rows_same⟩, ⟨rfl, rfl, rows_same⟩, ⟨rfl, rfl, rows_same⟩, ⟨rfl, rfl, rows_same⟩, trivial⟩, ⟨rfl, rfl⟩, ⟨rfl, rfl⟩, rfl, ⟨rfl, rfl⟩, ⟨rfl, rfl⟩, rfl, ⟨rfl, rfl⟩, ⟨rfl, rfl⟩, rfl, trivial⟩
  · replace h := condT h
    conv => whnf
    refine splD (fun g366 => ?_) (fun g366 => ?_)
    · replace h := iteP h g366
      conv => whnf
      cases h
      exact Done.of [] [] rfl rfl ⟨⟨rfl, rfl⟩, ⟨rfl, trivial⟩, rfl, trivial⟩
    · replace h := iteN h g366
      conv => whnf
      refine splN (fun g367 => ?_) (fun g367 => ?_)
      · replace h := iteN h g367
        conv => whnf
        cases h
        exact Done.of [] [] rfl rfl ⟨⟨rfl, rfl⟩, ⟨rfl, trivial⟩, rfl, trivial⟩
      · replace h := iteP h g367
        conv => whnf
        obtain ⟨y368, e369, h⟩ := bind_ex h
        refine CallOk.of (laws_toOrdinal_ct e369) ?_
        conv => whnf
        obtain ⟨y370, e371, h⟩ := bind_ex h
        refine CallOk.of (laws_toOrdinal_ct e371) ?_
        conv => whnf
        refine Take.all (rfl) ?_
        conv => whnf
        refine Take.all (rfl) ?_
        conv => whnf
        obtain ⟨y372, e373, h⟩ := bind_ex h
        refine CallOk.of (impl_DivideOrdinals_ct e373) ?_
        conv => whnf
        refine spl (fun g374 => ?_) (fun g374 => ?_)
        · replace h := iteT h g374
          conv => whnf
          exact CutK.piece (laws_FnExactDivideOrdinals_p27_ct  h) [some 384, some 448, some 704, some 768, some 1088, some 1152, some 1184000, some 1184001, some 1184002, some 1184003, some 7936, some 7937] [] ⟨⟨rfl, rfl⟩, ⟨rfl, ⟨rfl, ⟨rfl, rfl⟩, trivial⟩, ⟨rfl, ⟨rfl, rfl⟩, trivial⟩, ⟨rfl, ⟨rfl, rfl⟩, trivial⟩, ⟨rfl, ⟨rfl, rfl⟩, trivial⟩, ⟨rfl, ⟨rfl, rfl⟩, trivial⟩, ⟨rfl, ⟨rfl, rfl⟩, trivial⟩, ⟨rfl, rfl, rows_same⟩, ⟨rfl, rfl, rows_same⟩, ⟨rfl, rfl, rows_same⟩, ⟨rfl, rfl, rows_same⟩, ⟨rfl, rfl, rows_same⟩, ⟨rfl, rfl, rows_same⟩, trivial⟩, ⟨rfl, rfl⟩, ⟨rfl, rfl⟩, rfl, ⟨rfl, rfl⟩, ⟨rfl, rfl⟩, rfl, ⟨rfl, rfl⟩, ⟨rfl, rfl⟩, rfl, trivial⟩
        · replace h := iteF h g374
          conv => whnf
          exact CutK.piece (laws_FnExactDivideOrdinals_p27_ct  h) [some 384, some 448, some 704, some 768, some 1088, some 1152, some 1184000, some 1184001, some 1184002, some 1184003, some 7936, some 7937] [] ⟨⟨rfl, rfl⟩, ⟨rfl, ⟨rfl, ⟨rfl, rfl⟩, trivial⟩, ⟨rfl, ⟨rfl, rfl⟩, trivial⟩, ⟨rfl, ⟨rfl, rfl⟩, trivial⟩, ⟨rfl, ⟨rfl, rfl⟩, trivial⟩, ⟨rfl, ⟨rfl, rfl⟩, trivial⟩, ⟨rfl, ⟨rfl, rfl⟩, trivial⟩, ⟨rfl, rfl, rows_same⟩, ⟨rfl, rfl, rows_same⟩, ⟨rfl, rfl, rows_same⟩, ⟨rfl, rfl, rows_same⟩, ⟨rfl, rfl, rows_same⟩, ⟨rfl, rfl, rows_same⟩, trivial⟩, ⟨rfl, rfl⟩, ⟨rfl, rfl⟩, rfl, ⟨rfl, rfl⟩, ⟨rfl, rfl⟩, rfl, ⟨rfl, rfl⟩, ⟨rfl, rfl⟩, rfl, trivial⟩
def laws_FnExactDivideOrdinals_p22 (k : Nat) (a1 : Rw) (a2 : Rw) (o238 : Int) (o239 : Int) (o240 : Rw) (o241 : Rw) (o242 : Rw) (o243 : Rw) (v246 : Bool) : Option Bool :=
  (cond v246 (if o239 < (0 : Int) then some false else ((laws_heldOrdinal k o243 o239).bind fun y379 => (laws_FnExactDivideOrdinals_p24 k a1 a2 o238 y379 o240 o241 o242 o243 true))) (if o239 < (0 : Int) then some false else ((laws_heldOrdinal k o243 o239).bind fun y376 => (laws_FnExactDivideOrdinals_p24 k a1 a2 o238 y376 o240 o241 o242 o243 false))))
set_option maxHeartbeats 4000000 in
set_option maxRecDepth 100000 in
theorem laws_FnExactDivideOrdinals_p22_ct {k : Nat} {a1 : Rw} {a2 : Rw} {o238 : Int} {o239 : Int} {o240 : Rw} {o241 : Rw} {o242 : Rw} {o243 : Rw} {v246 : Bool} {r : Bool} (h : laws_FnExactDivideOrdinals_p22 k a1 a2 o238 o239 o240 o241 o242 o243 v246 = some r) : X prog 0 (tlF f7 22) (mk 156 [(2, .ptr 128 0), (3, .ptr 192 0), (6, .ptr 384 0), (7, .ptr 448 0), (8, .d (D.bool v246)), (11, .ptr 704 0), (12, .ptr 768 0), (15, .d (D.int .i64 o238)), (16, .d (D.int .i64 o239))] [(128, .box 36 [.d (D.sl a1)]), (192, .box 36 [.d (D.sl a2)]), (384, .box 26 [.os 1174000 o240.length]), (448, .box 26 [.os 1174001 o241.length]), (704, .box 26 [.os 1174002 o242.length]), (768, .box 26 [.os 1174003 o243.length]), (1174000, .arr 98 true o240), (1174001, .arr 98 true o241), (1174002, .arr 98 true o242), (1174003, .arr 98 true o243)]) (finK prog f7 0 (.d (D.bool r)) (⟨[], []⟩)) := by
  rw [laws_FnExactDivideOrdinals_p22] at h
  cases v246
  · replace h := condF h
    conv => whnf
    refine splD (fun g375 => ?_) (fun g375 => ?_)
    · replace h := iteP h g375
      conv => whnf
      cases h
      exact Done.of [] [] rfl rfl ⟨⟨rfl, rfl⟩, ⟨rfl, trivial⟩, rfl, trivial⟩
    · replace h := iteN h g375
      conv => whnf
      refine Choice.old ?_
      conv => whnf
      refine Take.all (rfl) ?_
      conv => whnf
      obtain ⟨y376, e377, h⟩ := bind_ex h
      refine CallOk.of (laws_heldOrdinal_ct e377) ?_
      conv => whnf
      exact CutK.piece (laws_FnExactDivideOrdinals_p24_ct  h) [some 128, some 192, some 384, some 448, some 704, some 768, some 1174000, some 1174001, some 1174002, some 1174003] [] ⟨⟨rfl, rfl⟩, ⟨rfl, ⟨rfl, rfl, trivial⟩, ⟨rfl, rfl, trivial⟩, ⟨rfl, ⟨rfl, rfl⟩, trivial⟩, ⟨rfl, ⟨rfl, rfl⟩, trivial⟩, ⟨rfl, ⟨rfl, rfl⟩, trivial⟩, ⟨rfl, ⟨rfl, rfl⟩, trivial⟩, ⟨rfl, rfl, rows_same⟩, ⟨rfl, rfl, rows_same⟩, ⟨rfl, rfl, rows_same⟩, ⟨rfl, rfl, rows_same⟩, trivial⟩, ⟨rfl, rfl⟩, ⟨rfl, rfl⟩, ⟨rfl, rfl⟩, ⟨rfl, rfl⟩, rfl, ⟨rfl, rfl⟩, ⟨rfl, rfl⟩, rfl, rfl, trivial⟩
  · replace h := condT h
    conv => whnf
    refine splD (fun g378 => ?_) (fun g378 => ?_)
    · replace h := iteP h g378
      conv => whnf
      cases h
      exact Done.of [] [] rfl rfl ⟨⟨rfl, rfl⟩, ⟨rfl, trivial⟩, rfl, trivial⟩
    · replace h := iteN h g378
      conv => whnf
      refine Choice.old ?_
      conv => whnf
      refine Take.all (rfl) ?_
      conv => whnf
      obtain ⟨y379, e380, h⟩ := bind_ex h
      refine CallOk.of (laws_heldOrdinal_ct e380) ?_
      conv => whnf
      exact CutK.piece (laws_FnExactDivideOrdinals_p24_ct  h) [some 128, some 192, some 384, some 448, some 704, some 768, some 1174000, some 1174001, some 1174002, some 1174003] [] ⟨⟨rfl, rfl⟩, ⟨rfl, ⟨rfl, rfl, trivial⟩, ⟨rfl, rfl, trivial⟩, ⟨rfl, ⟨rfl, rfl⟩, trivial⟩, ⟨rfl, ⟨rfl, rfl⟩, trivial⟩, ⟨rfl, ⟨rfl, rfl⟩, trivial⟩, ⟨rfl, ⟨rfl, rfl⟩, trivial⟩, ⟨rfl, rfl, rows_same⟩, ⟨rfl, rfl, rows_same⟩, ⟨rfl, rfl, rows_same⟩, ⟨rfl, rfl, rows_same⟩, trivial⟩, ⟨rfl, rfl⟩, ⟨rfl, rfl⟩, ⟨rfl, rfl⟩, ⟨rfl, rfl⟩, rfl, ⟨rfl, rfl⟩, ⟨rfl, rfl⟩, rfl, rfl, trivial⟩
def laws_FnExactDivideOrdinals_p20 (k : Nat) (a1 : Rw) (a2 : Rw) (o227 : Int) (o228 : Rw) (o229 : Rw) (o230 : Rw) (o231 : Rw) (v235 : Bool) : Option Bool :=
  (cond v235 ((laws_heldOrdinal k o230 1).bind fun y383 => (laws_FnExactDivideOrdinals_p22 k a1 a2 o227 y383 o228 o229 o230 o231 true)) ((laws_heldOrdinal k o230 1).bind fun y381 => (laws_FnExactDivideOrdinals_p22 k a1 a2 o227 y381 o228 o229 o230 o231 false)))
set_option maxHeartbeats 4000000 in
set_option maxRecDepth 100000 in
theorem laws_FnExactDivideOrdinals_p20_ct {k : Nat} {a1 : Rw} {a2 : Rw} {o227 : Int} {o228 : Rw} {o229 : Rw} {o230 : Rw} {o231 : Rw} {v235 : Bool} {r : Bool} (h : laws_FnExactDivideOrdinals_p20 k a1 a2 o227 o228 o229 o230 o231 v235 = some r) : X prog 0 (tlF f7 20) (mk 156 [(2, .ptr 128 0), (3, .ptr 192 0), (6, .ptr 384 0), (7, .ptr 448 0), (8, .d (D.bool v235)), (11, .ptr 704 0), (12, .ptr 768 0), (15, .d (D.int .i64 o227))] [(128, .box 36 [.d (D.sl a1)]), (192, .box 36 [.d (D.sl a2)]), (384, .box 26 [.os 1164000 o228.length]), (448, .box 26 [.os 1164001 o229.length]), (704, .box 26 [.os 1164002 o230.length]), (768, .box 26 [.os 1164003 o231.length]), (1164000, .arr 98 true o228), (1164001, .arr 98 true o229), (1164002, .arr 98 true o230), (1164003, .arr 98 true o231)]) (finK prog f7 0 (.d (D.bool r)) (⟨[], []⟩)) := by
  rw [laws_FnExactDivideOrdinals_p20] at h
  cases v235
  · replace h := condF h
    conv => whnf
    refine Choice.old ?_
    conv => whnf
    refine Take.all (rfl) ?_
    conv => whnf
    obtain ⟨y381, e382, h⟩ := bind_ex h
    refine CallOk.of (laws_heldOrdinal_ct e382) ?_
    conv => whnf
    exact CutK.piece (laws_FnExactDivideOrdinals_p22_ct  h) [some 128, some 192, some 384, some 448, some 704, some 768, some 1164000, some 1164001, some 1164002, some 1164003] [] ⟨⟨rfl, rfl⟩, ⟨rfl, ⟨rfl, rfl, trivial⟩, ⟨rfl, rfl, trivial⟩, ⟨rfl, ⟨rfl, rfl⟩, trivial⟩, ⟨rfl, ⟨rfl, rfl⟩, trivial⟩, ⟨rfl, ⟨rfl, rfl⟩, trivial⟩, ⟨rfl, ⟨rfl, rfl⟩, trivial⟩, ⟨rfl, rfl, rows_same⟩, ⟨rfl, rfl, rows_same⟩, ⟨rfl, rfl, rows_same⟩, ⟨rfl, rfl, rows_same⟩, trivial⟩, ⟨rfl, rfl⟩, ⟨rfl, rfl⟩, ⟨rfl, rfl⟩, ⟨rfl, rfl⟩, rfl, ⟨rfl, rfl⟩, ⟨rfl, rfl⟩, rfl, rfl, trivial⟩
  · replace h := condT h
    conv => whnf
    refine Choice.old ?_
    conv => whnf
    refine Take.all (rfl) ?_
    conv => whnf
    obtain ⟨y383, e384, h⟩ := bind_ex h
    refine CallOk.of (laws_heldOrdinal_ct e384) ?_
    conv => whnf
    exact CutK.piece (laws_FnExactDivideOrdinals_p22_ct  h) [some 128, some 192, some 384, some 448, some 704, some 768, some 1164000, some 1164001, some 1164002, some 1164003] [] ⟨⟨rfl, rfl⟩, ⟨rfl, ⟨rfl, rfl, trivial⟩, ⟨rfl, rfl, trivial⟩, ⟨rfl, ⟨rfl, rfl⟩, trivial⟩, ⟨rfl, ⟨rfl, rfl⟩, trivial⟩, ⟨rfl, ⟨rfl, rfl⟩, trivial⟩, ⟨rfl, ⟨rfl, rfl⟩, trivial⟩, ⟨rfl, rfl, rows_same⟩, ⟨rfl, rfl, rows_same⟩, ⟨rfl, rfl, rows_same⟩, ⟨rfl, rfl, rows_same⟩, trivial⟩, ⟨rfl, rfl⟩, ⟨rfl, rfl⟩, ⟨rfl, rfl⟩, ⟨rfl, rfl⟩, rfl, ⟨rfl, rfl⟩, ⟨rfl, rfl⟩, rfl, rfl, trivial⟩
def laws_FnExactDivideOrdinals_p19 (k : Nat) (a1 : Rw) (a2 : Rw) (o215 : Int) (o216 : Rw) (o217 : Rw) (o218 : Rw) (o219 : Rw) (v223 : Bool) : Option Bool :=
  (cond v223 ((laws_markOrdinal k o219 o215).bind fun y388 => (if y388.2.length = o219.length then (laws_FnExactDivideOrdinals_p20 k a1 a2 y388.1 o216 o217 o218 y388.2 true) else none)) ((laws_markOrdinal k o219 o215).bind fun y385 => (if y385.2.length = o219.length then (laws_FnExactDivideOrdinals_p20 k a1 a2 y385.1 o216 o217 o218 y385.2 false) else none)))
set_option maxHeartbeats 4000000 in
set_option maxRecDepth 100000 in
theorem laws_FnExactDivideOrdinals_p19_ct {k : Nat} {a1 : Rw} {a2 : Rw} {o215 : Int} {o216 : Rw} {o217 : Rw} {o218 : Rw} {o219 : Rw} {v223 : Bool} {r : Bool} (h : laws_FnExactDivideOrdinals_p19 k a1 a2 o215 o216 o217 o218 o219 v223 = some r) : X prog 0 (tlF f7 19) (mk 156 [(2, .ptr 128 0), (3, .ptr 192 0), (6, .ptr 384 0), (7, .ptr 448 0), (8, .d (D.bool v223)), (11, .ptr 704 0), (12, .ptr 768 0), (15, .d (D.int .i64 o215))] [(128, .box 36 [.d (D.sl a1)]), (192, .box 36 [.d (D.sl a2)]), (384, .box 26 [.os 1159000 o216.length]), (448, .box 26 [.os 1159001 o217.length]), (704, .box 26 [.os 1159002 o218.length]), (768, .box 26 [.os 1159003 o219.length]), (1159000, .arr 98 true o216), (1159001, .arr 98 true o217), (1159002, .arr 98 true o218), (1159003, .arr 98 true o219)]) (finK prog f7 0 (.d (D.bool r)) (⟨[], []⟩)) := by
  rw [laws_FnExactDivideOrdinals_p19] at h
  cases v223
  · replace h := condF h
    conv => whnf
    refine Choice.new ?_
    conv => whnf
    refine Req.of (rfl) ?_
    conv => whnf
    obtain ⟨y385, e386, h⟩ := bind_ex h
    refine MarkOk.of (laws_markOrdinal_ct e386) ?_
    conv => whnf
    obtain ⟨g387, h⟩ := req_ex h
    exact CutK.piece (laws_FnExactDivideOrdinals_p20_ct  h) [some 128, some 192, some 384, some 448, some 704, some 768, some 1159000, some 1159001, some 1159002, some 1159003] [] ⟨⟨rfl, rfl⟩, ⟨rfl, ⟨rfl, rfl, trivial⟩, ⟨rfl, rfl, trivial⟩, ⟨rfl, ⟨rfl, rfl⟩, trivial⟩, ⟨rfl, ⟨rfl, rfl⟩, trivial⟩, ⟨rfl, ⟨rfl, rfl⟩, trivial⟩, ⟨rfl, ⟨(by first | rfl | exact List.length_append.symm | (simp; done) | omega), rfl⟩, trivial⟩, ⟨rfl, rfl, rows_same⟩, ⟨rfl, rfl, rows_same⟩, ⟨rfl, rfl, rows_same⟩, ⟨rfl, rfl, rows_same⟩, trivial⟩, ⟨rfl, rfl⟩, ⟨rfl, rfl⟩, ⟨rfl, rfl⟩, ⟨rfl, rfl⟩, rfl, ⟨rfl, rfl⟩, ⟨rfl, rfl⟩, rfl, trivial⟩
  · replace h := condT h
    conv => whnf
    refine Choice.new ?_
    conv => whnf
    refine Req.of (rfl) ?_
    conv => whnf
    obtain ⟨y388, e389, h⟩ := bind_ex h
    refine MarkOk.of (laws_markOrdinal_ct e389) ?_
    conv => whnf
    obtain ⟨g390, h⟩ := req_ex h
    exact CutK.piece (laws_FnExactDivideOrdinals_p20_ct  h) [some 128, some 192, some 384, some 448, some 704, some 768, some 1159000, some 1159001, some 1159002, some 1159003] [] ⟨⟨rfl, rfl⟩, ⟨rfl, ⟨rfl, rfl, trivial⟩, ⟨rfl, rfl, trivial⟩, ⟨rfl, ⟨rfl, rfl⟩, trivial⟩, ⟨rfl, ⟨rfl, rfl⟩, trivial⟩, ⟨rfl, ⟨rfl, rfl⟩, trivial⟩, ⟨rfl, ⟨(by first | rfl | exact List.length_append.symm | (simp; done) | omega), rfl⟩, trivial⟩, ⟨rfl, rfl, rows_same⟩, ⟨rfl, rfl, rows_same⟩, ⟨rfl, rfl, rows_same⟩, ⟨rfl, rfl, rows_same⟩, trivial⟩, ⟨rfl, rfl⟩, ⟨rfl, rfl⟩, ⟨rfl, rfl⟩, ⟨rfl, rfl⟩, rfl, ⟨rfl, rfl⟩, ⟨rfl, rfl⟩, rfl, trivial⟩
def laws_FnExactDivideOrdinals_p17 (k : Nat) (a1 : Rw) (a2 : Rw) (o186 : Rw) (o187 : Rw) (o188 : Rw) (o189 : Rw) (v211 : Bool) : Option Bool :=
  (cond v211 ((laws_markOrdinal k o188 1).bind fun y394 => (if y394.2.length = o188.length then (laws_FnExactDivideOrdinals_p19 k a1 a2 y394.1 o186 o187 y394.2 o189 true) else none)) ((laws_markOrdinal k o188 1).bind fun y391 => (if y391.2.length = o188.length then (laws_FnExactDivideOrdinals_p19 k a1 a2 y391.1 o186 o187 y391.2 o189 false) else none)))
set_option maxHeartbeats 4000000 in
set_option maxRecDepth 100000 in
theorem laws_FnExactDivideOrdinals_p17_ct {k : Nat} {a1 : Rw} {a2 : Rw} {o186 : Rw} {o187 : Rw} {o188 : Rw} {o189 : Rw} {v211 : Bool} {r : Bool} (h : laws_FnExactDivideOrdinals_p17 k a1 a2 o186 o187 o188 o189 v211 = some r) : X prog 0 (tlF f7 17) (mk 156 [(2, .ptr 128 0), (3, .ptr 192 0), (6, .ptr 384 0), (7, .ptr 448 0), (8, .d (D.bool v211)), (11, .ptr 704 0), (12, .ptr 768 0)] [(128, .box 36 [.d (D.sl a1)]), (192, .box 36 [.d (D.sl a2)]), (384, .box 26 [.os 1149000 o186.length]), (448, .box 26 [.os 1149001 o187.length]), (704, .box 26 [.os 1149002 o188.length]), (768, .box 26 [.os 1149003 o189.length]), (1149000, .arr 98 true o186), (1149001, .arr 98 true o187), (1149002, .arr 98 true o188), (1149003, .arr 98 true o189)]) (finK prog f7 0 (.d (D.bool r)) (⟨[], []⟩)) := by
  rw [laws_FnExactDivideOrdinals_p17] at h
  cases v211
  · replace h := condF h
    conv => whnf
    refine Choice.new ?_
    conv => whnf
    refine Req.of (rfl) ?_
    conv => whnf
    obtain ⟨y391, e392, h⟩ := bind_ex h
    refine MarkOk.of (laws_markOrdinal_ct e392) ?_
    conv => whnf
    obtain ⟨g393, h⟩ := req_ex h
    exact CutK.piece (laws_FnExactDivideOrdinals_p19_ct  h) [some 128, some 192, some 384, some 448, some 704, some 768, some 1149000, some 1149001, some 1149002, some 1149003] [] ⟨⟨rfl, rfl⟩, ⟨rfl, ⟨rfl, rfl, trivial⟩, ⟨rfl, rfl, trivial⟩, ⟨rfl, ⟨rfl, rfl⟩, trivial⟩, ⟨rfl, ⟨rfl, rfl⟩, trivial⟩, ⟨rfl, ⟨(by first | rfl | exact List.length_append.symm | (simp; done) | omega), rfl⟩, trivial⟩, ⟨rfl, ⟨rfl, rfl⟩, trivial⟩, ⟨rfl, rfl, rows_same⟩, ⟨rfl, rfl, rows_same⟩, ⟨rfl, rfl, rows_same⟩, ⟨rfl, rfl, rows_same⟩, trivial⟩, ⟨rfl, rfl⟩, ⟨rfl, rfl⟩, ⟨rfl, rfl⟩, ⟨rfl, rfl⟩, rfl, ⟨rfl, rfl⟩, ⟨rfl, rfl⟩, rfl, trivial⟩
  · replace h := condT h
    conv => whnf
    refine Choice.new ?_
    conv => whnf
    refine Req.of (rfl) ?_
    conv => whnf
    obtain ⟨y394, e395, h⟩ := bind_ex h
    refine MarkOk.of (laws_markOrdinal_ct e395) ?_
    conv => whnf
    obtain ⟨g396, h⟩ := req_ex h
    exact CutK.piece (laws_FnExactDivideOrdinals_p19_ct  h) [some 128, some 192, some 384, some 448, some 704, some 768, some 1149000, some 1149001, some 1149002, some 1149003] [] ⟨⟨rfl, rfl⟩, ⟨rfl, ⟨rfl, rfl, trivial⟩, ⟨rfl, rfl, trivial⟩, ⟨rfl, ⟨rfl, rfl⟩, trivial⟩, ⟨rfl, ⟨rfl, rfl⟩, trivial⟩, ⟨rfl, ⟨(by first | rfl | exact List.length_append.symm | (simp; done) | omega), rfl⟩, trivial⟩, ⟨rfl, ⟨rfl, rfl⟩, trivial⟩, ⟨rfl, rfl, rows_same⟩, ⟨rfl, rfl, rows_same⟩, ⟨rfl, rfl, rows_same⟩, ⟨rfl, rfl, rows_same⟩, trivial⟩, ⟨rfl, rfl⟩, ⟨rfl, rfl⟩, ⟨rfl, rfl⟩, ⟨rfl, rfl⟩, rfl, ⟨rfl, rfl⟩, ⟨rfl, rfl⟩, rfl, trivial⟩
def laws_FnExactDivideOrdinals_p16 (k : Nat) (a1 : Rw) (a2 : Rw) (o163 : Int) (o164 : Rw) (o165 : Rw) (o166 : Rw) (o167 : Rw) (v171 : Bool) (v175 : Bool) : Option Bool :=
  (cond v171 (cond v175 (if o163 < (0 : Int) then some false else ((laws_eqOrdinal k o166 o164).bind fun y419 => (if y419 = true then ((laws_eqOrdinal k o167 o165).bind fun y422 => (if y422 = true then (laws_FnExactDivideOrdinals_p17 k a1 a2 o164 o165 o166 o167 true) else some false)) else some false))) (if o163 < (0 : Int) then some false else ((laws_eqOrdinal k o166 o164).bind fun y412 => (if y412 = true then ((laws_eqOrdinal k o167 o165).bind fun y415 => (if y415 = true then some false else some false)) else some false)))) (cond v175 (if o163 < (0 : Int) then some false else ((laws_eqOrdinal k o166 o164).bind fun y405 => (if y405 = true then ((laws_eqOrdinal k o167 o165).bind fun y408 => (if y408 = true then some false else some false)) else some false))) (if o163 < (0 : Int) then some false else ((laws_eqOrdinal k o166 o164).bind fun y398 => (if y398 = true then ((laws_eqOrdinal k o167 o165).bind fun y401 => (if y401 = true then (laws_FnExactDivideOrdinals_p17 k a1 a2 o164 o165 o166 o167 false) else some false)) else some false)))))
set_option maxHeartbeats 4000000 in
set_option maxRecDepth 100000 in
theorem laws_FnExactDivideOrdinals_p16_ct {k : Nat} {a1 : Rw} {a2 : Rw} {o163 : Int} {o164 : Rw} {o165 : Rw} {o166 : Rw} {o167 : Rw} {v171 : Bool} {v175 : Bool} {r : Bool} (h : laws_FnExactDivideOrdinals_p16 k a1 a2 o163 o164 o165 o166 o167 v171 v175 = some r) : X prog 0 (tlF f7 16) (mk 156 [(2, .ptr 128 0), (3, .ptr 192 0), (6, .ptr 384 0), (7, .ptr 448 0), (8, .d (D.bool v171)), (11, .ptr 704 0), (12, .ptr 768 0), (13, .d (D.bool v175)), (14, .d (D.int .i64 o163))] [(128, .box 36 [.d (D.sl a1)]), (192, .box 36 [.d (D.sl a2)]), (384, .box 26 [.os 1144000 o164.length]), (448, .box 26 [.os 1144001 o165.length]), (704, .box 26 [.os 1144002 o166.length]), (768, .box 26 [.os 1144003 o167.length]), (1144000, .arr 98 true o164), (1144001, .arr 98 true o165), (1144002, .arr 98 true o166), (1144003, .arr 98 true o167)]) (finK prog f7 0 (.d (D.bool r)) (⟨[], []⟩)) := by
  rw [laws_FnExactDivideOrdinals_p16] at h
  cases v171
  · replace h := condF h
    cases v175
    · replace h := condF h
      conv => whnf
      refine splD (fun g397 => ?_) (fun g397 => ?_)
      · replace h := iteP h g397
        conv => whnf
        refine CutK.norm [2, 3, 6, 7, 8, 11, 12, 99] [128, 192, 384, 448, 704, 768, 1144000, 1144001, 1144002, 1144003] ?_
        conv => whnf
        cases h
        exact Done.of [] [] rfl rfl ⟨⟨rfl, rfl⟩, ⟨rfl, trivial⟩, rfl, trivial⟩
      · replace h := iteN h g397
        conv => whnf
        refine Take.all (rfl) ?_
        conv => whnf
        refine Take.all (rfl) ?_
        conv => whnf
        obtain ⟨y398, e399, h⟩ := bind_ex h
        refine CallOk.of (laws_eqOrdinal_ct e399) ?_
        conv => whnf
        refine spl (fun g400 => ?_) (fun g400 => ?_)
        · replace h := iteT h g400
          conv => whnf
          refine Take.all (rfl) ?_
          conv => whnf
          refine Take.all (rfl) ?_
          conv => whnf
          obtain ⟨y401, e402, h⟩ := bind_ex h
          refine CallOk.of (laws_eqOrdinal_ct e402) ?_
          conv => whnf
          refine spl (fun g403 => ?_) (fun g403 => ?_)
          · replace h := iteT h g403
            conv => whnf
            refine splF ?_
            conv => whnf
            refine CutK.norm [2, 3, 6, 7, 8, 11, 12, 99] [128, 192, 384, 448, 704, 768, 1144000, 1144001, 1144002, 1144003] ?_
            conv => whnf
            exact CutK.piece (laws_FnExactDivideOrdinals_p17_ct  h) [some 128, some 192, some 384, some 448, some 704, some 768, some 1144000, some 1144001, some 1144002, some 1144003] [] ⟨⟨rfl, rfl⟩, ⟨rfl, ⟨rfl, rfl, trivial⟩, ⟨rfl, rfl, trivial⟩, ⟨rfl, ⟨rfl, rfl⟩, trivial⟩, ⟨rfl, ⟨rfl, rfl⟩, trivial⟩, ⟨rfl, ⟨rfl, rfl⟩, trivial⟩, ⟨rfl, ⟨rfl, rfl⟩, trivial⟩, ⟨rfl, rfl, rows_same⟩, ⟨rfl, rfl, rows_same⟩, ⟨rfl, rfl, rows_same⟩, ⟨rfl, rfl, rows_same⟩, trivial⟩, ⟨rfl, rfl⟩, ⟨rfl, rfl⟩, ⟨rfl, rfl⟩, ⟨rfl, rfl⟩, rfl, ⟨rfl, rfl⟩, ⟨rfl, rfl⟩, trivial⟩
          · replace h := iteF h g403
            conv => whnf
            refine CutK.norm [2, 3, 6, 7, 8, 11, 12, 99] [128, 192, 384, 448, 704, 768, 1144000, 1144001, 1144002, 1144003] ?_
            conv => whnf
            cases h
            exact Done.of [] [] rfl rfl ⟨⟨rfl, rfl⟩, ⟨rfl, trivial⟩, rfl, trivial⟩
        · replace h := iteF h g400
          conv => whnf
          refine CutK.norm [2, 3, 6, 7, 8, 11, 12, 99] [128, 192, 384, 448, 704, 768, 1144000, 1144001, 1144002, 1144003] ?_
          conv => whnf
          cases h
          exact Done.of [] [] rfl rfl ⟨⟨rfl, rfl⟩, ⟨rfl, trivial⟩, rfl, trivial⟩
    · replace h := condT h
      conv => whnf
      refine splD (fun g404 => ?_) (fun g404 => ?_)
      · replace h := iteP h g404
        conv => whnf
        refine CutK.norm [2, 3, 6, 7, 8, 11, 12, 99] [128, 192, 384, 448, 704, 768, 1144000, 1144001, 1144002, 1144003] ?_
        conv => whnf
        cases h
        exact Done.of [] [] rfl rfl ⟨⟨rfl, rfl⟩, ⟨rfl, trivial⟩, rfl, trivial⟩
      · replace h := iteN h g404
        conv => whnf
        refine Take.all (rfl) ?_
        conv => whnf
        refine Take.all (rfl) ?_
        conv => whnf
        obtain ⟨y405, e406, h⟩ := bind_ex h
        refine CallOk.of (laws_eqOrdinal_ct e406) ?_
        conv => whnf
        refine spl (fun g407 => ?_) (fun g407 => ?_)
        · replace h := iteT h g407
          conv => whnf
          refine Take.all (rfl) ?_
          conv => whnf
          refine Take.all (rfl) ?_
          conv => whnf
          obtain ⟨y408, e409, h⟩ := bind_ex h
          refine CallOk.of (laws_eqOrdinal_ct e409) ?_
          conv => whnf
          refine spl (fun g410 => ?_) (fun g410 => ?_)
          · replace h := iteT h g410
            conv => whnf
            refine splT ?_
            conv => whnf
            refine CutK.norm [2, 3, 6, 7, 8, 11, 12, 99] [128, 192, 384, 448, 704, 768, 1144000, 1144001, 1144002, 1144003] ?_
            conv => whnf
            cases h
            exact Done.of [] [] rfl rfl ⟨⟨rfl, rfl⟩, ⟨rfl, trivial⟩, rfl, trivial⟩
          · replace h := iteF h g410
            conv => whnf
            refine CutK.norm [2, 3, 6, 7, 8, 11, 12, 99] [128, 192, 384, 448, 704, 768, 1144000, 1144001, 1144002, 1144003] ?_
            conv => whnf
            cases h
            exact Done.of [] [] rfl rfl ⟨⟨rfl, rfl⟩, ⟨rfl, trivial⟩, rfl, trivial⟩
        · replace h := iteF h g407
          conv => whnf
          refine CutK.norm [2, 3, 6, 7, 8, 11, 12, 99] [128, 192, 384, 448, 704, 768, 1144000, 1144001, 1144002, 1144003] ?_
          conv => whnf
          cases h
          exact Done.of [] [] rfl rfl ⟨⟨rfl, rfl⟩, ⟨rfl, trivial⟩, rfl, trivial⟩
  · replace h := condT h
    cases v175
    · replace h := condF h
      conv => whnf
      refine splD (fun g411 => ?_) (fun g411 => ?_)
      · replace h := iteP h g411
        conv => whnf
        refine CutK.norm [2, 3, 6, 7, 8, 11, 12, 99] [128, 192, 384, 448, 704, 768, 1144000, 1144001, 1144002, 1144003] ?_
        conv => whnf
        cases h
        exact Done.of [] [] rfl rfl ⟨⟨rfl, rfl⟩, ⟨rfl, trivial⟩, rfl, trivial⟩
      · replace h := iteN h g411
        conv => whnf
        refine Take.all (rfl) ?_
        conv => whnf
        refine Take.all (rfl) ?_
        conv => whnf
        obtain ⟨y412, e413, h⟩ := bind_ex h
        refine CallOk.of (laws_eqOrdinal_ct e413) ?_
        conv => whnf
        refine spl (fun g414 => ?_) (fun g414 => ?_)
        · replace h := iteT h g414
          conv => whnf
          refine Take.all (rfl) ?_
          conv => whnf
          refine Take.all (rfl) ?_
          conv => whnf
          obtain ⟨y415, e416, h⟩ := bind_ex h
          refine CallOk.of (laws_eqOrdinal_ct e416) ?_
          conv => whnf
          refine spl (fun g417 => ?_) (fun g417 => ?_)
          · replace h := iteT h g417
            conv => whnf
            refine splT ?_
            conv => whnf
            refine CutK.norm [2, 3, 6, 7, 8, 11, 12, 99] [128, 192, 384, 448, 704, 768, 1144000, 1144001, 1144002, 1144003] ?_
            conv => whnf
            cases h
            exact Done.of [] [] rfl rfl ⟨⟨rfl, rfl⟩, ⟨rfl, trivial⟩, rfl, trivial⟩
          · replace h := iteF h g417
            conv => whnf
            refine CutK.norm [2, 3, 6, 7, 8, 11, 12, 99] [128, 192, 384, 448, 704, 768, 1144000, 1144001, 1144002, 1144003] ?_
            conv => whnf
            cases h
            exact Done.of [] [] rfl rfl ⟨⟨rfl, rfl⟩, ⟨rfl, trivial⟩, rfl, trivial⟩
        · replace h := iteF h g414
          conv => whnf
          refine CutK.norm [2, 3, 6, 7, 8, 11, 12, 99] [128, 192, 384, 448, 704, 768, 1144000, 1144001, 1144002, 1144003] ?_
          conv => whnf
          cases h
          exact Done.of [] [] rfl rfl ⟨⟨rfl, rfl⟩, ⟨rfl, trivial⟩, rfl, trivial⟩
    · replace h := condT h
      conv => whnf
      refine splD (fun g418 => ?_) (fun g418 => ?_)
      · replace h := iteP h g418
        conv => whnf
        refine CutK.norm [2, 3, 6, 7, 8, 11, 12, 99] [128, 192, 384, 448, 704, 768, 1144000, 1144001, 1144002, 1144003] ?_
        conv => whnf
        cases h
        exact Done.of [] [] rfl rfl ⟨⟨rfl, rfl⟩, ⟨rfl, trivial⟩, rfl, trivial⟩
      · replace h := iteN h g418
        conv => whnf
        refine Take.all (rfl) ?_
        conv => whnf
        refine Take.all (rfl) ?_
        conv => whnf
        obtain ⟨y419, e420, h⟩ := bind_ex h
        refine CallOk.of (laws_eqOrdinal_ct e420) ?_
        conv => whnf
        refine spl (fun g421 => ?_) (fun g421 => ?_)
        · replace h := iteT h g421
          conv => whnf
          refine Take.all (rfl) ?_
          conv => whnf
          refine Take.all (rfl) ?_
          conv => whnf
          obtain ⟨y422, e423, h⟩ := bind_ex h
          refine CallOk.of (laws_eqOrdinal_ct e423) ?_
          conv => whnf
          refine spl (fun g424 => ?_) (fun g424 => ?_)
          · replace h := iteT h g424
            conv => whnf
            refine splF ?_
            conv => whnf
            refine CutK.norm [2, 3, 6, 7, 8, 11, 12, 99] [128, 192, 384, 448, 704, 768, 1144000, 1144001, 1144002, 1144003] ?_
            conv => whnf
            exact CutK.piece (laws_FnExactDivideOrdinals_p17_ct  h) [some 128, some 192, some 384, some 448, some 704, some 768, some 1144000, some 1144001, some 1144002, some 1144003] [] ⟨⟨rfl, rfl⟩, ⟨rfl, ⟨rfl, rfl, trivial⟩, ⟨rfl, rfl, trivial⟩, ⟨rfl, ⟨rfl, rfl⟩, trivial⟩, ⟨rfl, ⟨rfl, rfl⟩, trivial⟩, ⟨rfl, ⟨rfl, rfl⟩, trivial⟩, ⟨rfl, ⟨rfl, rfl⟩, trivial⟩, ⟨rfl, rfl, rows_same⟩, ⟨rfl, rfl, rows_same⟩, ⟨rfl, rfl, rows_same⟩, ⟨rfl, rfl, rows_same⟩, trivial⟩, ⟨rfl, rfl⟩, ⟨rfl, rfl⟩, ⟨rfl, rfl⟩, ⟨rfl, rfl⟩, rfl, ⟨rfl, rfl⟩, ⟨rfl, rfl⟩, trivial⟩
          · replace h := iteF h g424
            conv => whnf
            refine CutK.norm [2, 3, 6, 7, 8, 11, 12, 99] [128, 192, 384, 448, 704, 768, 1144000, 1144001, 1144002, 1144003] ?_
            conv => whnf
            cases h
            exact Done.of [] [] rfl rfl ⟨⟨rfl, rfl⟩, ⟨rfl, trivial⟩, rfl, trivial⟩
        · replace h := iteF h g421
          conv => whnf
          refine CutK.norm [2, 3, 6, 7, 8, 11, 12, 99] [128, 192, 384, 448, 704, 768, 1144000, 1144001, 1144002, 1144003] ?_
          conv => whnf
          cases h
          exact Done.of [] [] rfl rfl ⟨⟨rfl, rfl⟩, ⟨rfl, trivial⟩, rfl, trivial⟩
def laws_FnExactDivideOrdinals_p15 (k : Nat) (a1 : Rw) (a2 : Rw) (o143 : Int) (o144 : Rw) (o145 : Rw) (o146 : Rw) (o147 : Rw) (o148 : Rw) (v152 : Bool) (v156 : Bool) : Option Bool :=
  (cond v152 (cond v156 ((laws_markOrdinal k o146 o143).bind fun y434 => (if y434.2.length = o146.length then (laws_FnExactDivideOrdinals_p16 k a1 a2 y434.1 o144 o145 o147 o148 true true) else none)) ((laws_markOrdinal k o146 o143).bind fun y431 => (if y431.2.length = o146.length then (laws_FnExactDivideOrdinals_p16 k a1 a2 y431.1 o144 o145 o147 o148 false true) else none))) (cond v156 ((laws_markOrdinal k o146 o143).bind fun y428 => (if y428.2.length = o146.length then (laws_FnExactDivideOrdinals_p16 k a1 a2 y428.1 o144 o145 o147 o148 true false) else none)) ((laws_markOrdinal k o146 o143).bind fun y425 => (if y425.2.length = o146.length then (laws_FnExactDivideOrdinals_p16 k a1 a2 y425.1 o144 o145 o147 o148 false false) else none))))
set_option maxHeartbeats 4000000 in
set_option maxRecDepth 100000 in
theorem laws_FnExactDivideOrdinals_p15_ct {k : Nat} {a1 : Rw} {a2 : Rw} {o143 : Int} {o144 : Rw} {o145 : Rw} {o146 : Rw} {o147 : Rw} {o148 : Rw} {v152 : Bool} {v156 : Bool} {r : Bool} (h : laws_FnExactDivideOrdinals_p15 k a1 a2 o143 o144 o145 o146 o147 o148 v152 v156 = some r) : X prog 0 (tlF f7 15) (mk 156 [(2, .ptr 128 0), (3, .ptr 192 0), (6, .ptr 384 0), (7, .ptr 448 0), (8, .d (D.bool v156)), (10, .ptr 640 0), (11, .ptr 704 0), (12, .ptr 768 0), (13, .d (D.bool v152)), (14, .d (D.int .i64 o143))] [(128, .box 36 [.d (D.sl a1)]), (192, .box 36 [.d (D.sl a2)]), (384, .box 26 [.os 1139000 o144.length]), (448, .box 26 [.os 1139001 o145.length]), (640, .box 26 [.os 1139002 o146.length]), (704, .box 26 [.os 1139003 o147.length]), (768, .box 26 [.os 1139004 o148.length]), (1139000, .arr 98 true o144), (1139001, .arr 98 true o145), (1139002, .arr 98 true o146), (1139003, .arr 98 true o147), (1139004, .arr 98 true o148)]) (finK prog f7 0 (.d (D.bool r)) (⟨[], []⟩)) := by
  rw [laws_FnExactDivideOrdinals_p15] at h
  cases v152
  · replace h := condF h
    cases v156
    · replace h := condF h
      conv => whnf
      refine Choice.new ?_
      conv => whnf
      refine Req.of (rfl) ?_
      conv => whnf
      obtain ⟨y425, e426, h⟩ := bind_ex h
      refine MarkOk.of (laws_markOrdinal_ct e426) ?_
      conv => whnf
      obtain ⟨g427, h⟩ := req_ex h
      exact CutK.piece (laws_FnExactDivideOrdinals_p16_ct  h) [some 128, some 192, some 384, some 448, some 704, some 768, some 1139000, some 1139001, some 1139003, some 1139004] [] ⟨⟨rfl, rfl⟩, ⟨rfl, ⟨rfl, rfl, trivial⟩, ⟨rfl, rfl, trivial⟩, ⟨rfl, ⟨rfl, rfl⟩, trivial⟩, ⟨rfl, ⟨rfl, rfl⟩, trivial⟩, ⟨rfl, ⟨rfl, rfl⟩, trivial⟩, ⟨rfl, ⟨rfl, rfl⟩, trivial⟩, ⟨rfl, rfl, rows_same⟩, ⟨rfl, rfl, rows_same⟩, ⟨rfl, rfl, rows_same⟩, ⟨rfl, rfl, rows_same⟩, trivial⟩, ⟨rfl, rfl⟩, ⟨rfl, rfl⟩, ⟨rfl, rfl⟩, ⟨rfl, rfl⟩, rfl, ⟨rfl, rfl⟩, ⟨rfl, rfl⟩, rfl, rfl, trivial⟩
    · replace h := condT h
      conv => whnf
      refine Choice.new ?_
      conv => whnf
      refine Req.of (rfl) ?_
      conv => whnf
      obtain ⟨y428, e429, h⟩ := bind_ex h
      refine MarkOk.of (laws_markOrdinal_ct e429) ?_
      conv => whnf
      obtain ⟨g430, h⟩ := req_ex h
      exact CutK.piece (laws_FnExactDivideOrdinals_p16_ct  h) [some 128, some 192, some 384, some 448, some 704, some 768, some 1139000, some 1139001, some 1139003, some 1139004] [] ⟨⟨rfl, rfl⟩, ⟨rfl, ⟨rfl, rfl, trivial⟩, ⟨rfl, rfl, trivial⟩, ⟨rfl, ⟨rfl, rfl⟩, trivial⟩, ⟨rfl, ⟨rfl, rfl⟩, trivial⟩, ⟨rfl, ⟨rfl, rfl⟩, trivial⟩, ⟨rfl, ⟨rfl, rfl⟩, trivial⟩, ⟨rfl, rfl, rows_same⟩, ⟨rfl, rfl, rows_same⟩, ⟨rfl, rfl, rows_same⟩, ⟨rfl, rfl, rows_same⟩, trivial⟩, ⟨rfl, rfl⟩, ⟨rfl, rfl⟩, ⟨rfl, rfl⟩, ⟨rfl, rfl⟩, rfl, ⟨rfl, rfl⟩, ⟨rfl, rfl⟩, rfl, rfl, trivial⟩
  · replace h := condT h
    cases v156
    · replace h := condF h
      conv => whnf
      refine Choice.new ?_
      conv => whnf
      refine Req.of (rfl) ?_
      conv => whnf
      obtain ⟨y431, e432, h⟩ := bind_ex h
      refine MarkOk.of (laws_markOrdinal_ct e432) ?_
      conv => whnf
      obtain ⟨g433, h⟩ := req_ex h
      exact CutK.piece (laws_FnExactDivideOrdinals_p16_ct  h) [some 128, some 192, some 384, some 448, some 704, some 768, some 1139000, some 1139001, some 1139003, some 1139004] [] ⟨⟨rfl, rfl⟩, ⟨rfl, ⟨rfl, rfl, trivial⟩, ⟨rfl, rfl, trivial⟩, ⟨rfl, ⟨rfl, rfl⟩, trivial⟩, ⟨rfl, ⟨rfl, rfl⟩, trivial⟩, ⟨rfl, ⟨rfl, rfl⟩, trivial⟩, ⟨rfl, ⟨rfl, rfl⟩, trivial⟩, ⟨rfl, rfl, rows_same⟩, ⟨rfl, rfl, rows_same⟩, ⟨rfl, rfl, rows_same⟩, ⟨rfl, rfl, rows_same⟩, trivial⟩, ⟨rfl, rfl⟩, ⟨rfl, rfl⟩, ⟨rfl, rfl⟩, ⟨rfl, rfl⟩, rfl, ⟨rfl, rfl⟩, ⟨rfl, rfl⟩, rfl, rfl, trivial⟩
    · replace h := condT h
      conv => whnf
      refine Choice.new ?_
      conv => whnf
      refine Req.of (rfl) ?_
      conv => whnf
      obtain ⟨y434, e435, h⟩ := bind_ex h
      refine MarkOk.of (laws_markOrdinal_ct e435) ?_
      conv => whnf
      obtain ⟨g436, h⟩ := req_ex h
      exact CutK.piece (laws_FnExactDivideOrdinals_p16_ct  h) [some 128, some 192, some 384, some 448, some 704, some 768, some 1139000, some 1139001, some 1139003, some 1139004] [] ⟨⟨rfl, rfl⟩, ⟨rfl, ⟨rfl, rfl, trivial⟩, ⟨rfl, rfl, trivial⟩, ⟨rfl, ⟨rfl, rfl⟩, trivial⟩, ⟨rfl, ⟨rfl, rfl⟩, trivial⟩, ⟨rfl, ⟨rfl, rfl⟩, trivial⟩, ⟨rfl, ⟨rfl, rfl⟩, trivial⟩, ⟨rfl, rfl, rows_same⟩, ⟨rfl, rfl, rows_same⟩, ⟨rfl, rfl, rows_same⟩, ⟨rfl, rfl, rows_same⟩, trivial⟩, ⟨rfl, rfl⟩, ⟨rfl, rfl⟩, ⟨rfl, rfl⟩, ⟨rfl, rfl⟩, rfl, ⟨rfl, rfl⟩, ⟨rfl, rfl⟩, rfl, rfl, trivial⟩
def laws_FnExactDivideOrdinals_p13 (k : Nat) (a1 : Rw) (a2 : Rw) (o117 : Rw) (o118 : Rw) (o119 : Rw) (o120 : Rw) (o121 : Rw) (o122 : Rw) (v128 : Bool) (v134 : Bool) : Option Bool :=
  (cond v128 (cond v134 ((laws_markOrdinal k o119 1).bind fun y446 => (if y446.2.length = o119.length then (laws_FnExactDivideOrdinals_p15 k a1 a2 y446.1 o117 o118 o120 o121 o122 true true) else none)) ((laws_markOrdinal k o119 1).bind fun y443 => (if y443.2.length = o119.length then (laws_FnExactDivideOrdinals_p15 k a1 a2 y443.1 o117 o118 o120 o121 o122 false true) else none))) (cond v134 ((laws_markOrdinal k o119 1).bind fun y440 => (if y440.2.length = o119.length then (laws_FnExactDivideOrdinals_p15 k a1 a2 y440.1 o117 o118 o120 o121 o122 true false) else none)) ((laws_markOrdinal k o119 1).bind fun y437 => (if y437.2.length = o119.length then (laws_FnExactDivideOrdinals_p15 k a1 a2 y437.1 o117 o118 o120 o121 o122 false false) else none))))
set_option maxHeartbeats 4000000 in
set_option maxRecDepth 100000 in
theorem laws_FnExactDivideOrdinals_p13_ct {k : Nat} {a1 : Rw} {a2 : Rw} {o117 : Rw} {o118 : Rw} {o119 : Rw} {o120 : Rw} {o121 : Rw} {o122 : Rw} {v128 : Bool} {v134 : Bool} {r : Bool} (h : laws_FnExactDivideOrdinals_p13 k a1 a2 o117 o118 o119 o120 o121 o122 v128 v134 = some r) : X prog 0 (tlF f7 13) (mk 156 [(2, .ptr 128 0), (3, .ptr 192 0), (6, .ptr 384 0), (7, .ptr 448 0), (8, .d (D.bool v128)), (9, .ptr 576 0), (10, .ptr 640 0), (11, .ptr 704 0), (12, .ptr 768 0), (13, .d (D.bool v134))] [(128, .box 36 [.d (D.sl a1)]), (192, .box 36 [.d (D.sl a2)]), (384, .box 26 [.os 1129000 o117.length]), (448, .box 26 [.os 1129001 o118.length]), (576, .box 26 [.os 1129002 o119.length]), (640, .box 26 [.os 1129003 o120.length]), (704, .box 26 [.os 1129004 o121.length]), (768, .box 26 [.os 1129005 o122.length]), (1129000, .arr 98 true o117), (1129001, .arr 98 true o118), (1129002, .arr 98 true o119), (1129003, .arr 98 true o120), (1129004, .arr 98 true o121), (1129005, .arr 98 true o122)]) (finK prog f7 0 (.d (D.bool r)) (⟨[], []⟩)) := by
  rw [laws_FnExactDivideOrdinals_p13] at h
  cases v128
  · replace h := condF h
    cases v134
    · replace h := condF h
      conv => whnf
      refine Choice.new ?_
      conv => whnf
      refine Req.of (rfl) ?_
      conv => whnf
      obtain ⟨y437, e438, h⟩ := bind_ex h
      refine MarkOk.of (laws_markOrdinal_ct e438) ?_
      conv => whnf
      obtain ⟨g439, h⟩ := req_ex h
      exact CutK.piece (laws_FnExactDivideOrdinals_p15_ct  h) [some 128, some 192, some 384, some 448, some 640, some 704, some 768, some 1129000, some 1129001, some 1129003, some 1129004, some 1129005] [] ⟨⟨rfl, rfl⟩, ⟨rfl, ⟨rfl, rfl, trivial⟩, ⟨rfl, rfl, trivial⟩, ⟨rfl, ⟨rfl, rfl⟩, trivial⟩, ⟨rfl, ⟨rfl, rfl⟩, trivial⟩, ⟨rfl, ⟨rfl, rfl⟩, trivial⟩, ⟨rfl, ⟨rfl, rfl⟩, trivial⟩, ⟨rfl, ⟨rfl, rfl⟩, trivial⟩, ⟨rfl, rfl, rows_same⟩, ⟨rfl, rfl, rows_same⟩, ⟨rfl, rfl, rows_same⟩, ⟨rfl, rfl, rows_same⟩, ⟨rfl, rfl, rows_same⟩, trivial⟩, ⟨rfl, rfl⟩, ⟨rfl, rfl⟩, ⟨rfl, rfl⟩, ⟨rfl, rfl⟩, rfl, ⟨rfl, rfl⟩, ⟨rfl, rfl⟩, ⟨rfl, rfl⟩, rfl, rfl, trivial⟩
    · replace h := condT h
      conv => whnf
      refine Choice.new ?_
      conv => whnf
      refine Req.of (rfl) ?_
      conv => whnf
      obtain ⟨y440, e441, h⟩ := bind_ex h
      refine MarkOk.of (laws_markOrdinal_ct e441) ?_
      conv => whnf
      obtain ⟨g442, h⟩ := req_ex h
      exact CutK.piece (laws_FnExactDivideOrdinals_p15_ct  h) [some 128, some 192, some 384, some 448, some 640, some 704, some 768, some 1129000, some 1129001, some 1129003, some 1129004, some 1129005] [] ⟨⟨rfl, rfl⟩, ⟨rfl, ⟨rfl, rfl, trivial⟩, ⟨rfl, rfl, trivial⟩, ⟨rfl, ⟨rfl, rfl⟩, trivial⟩, ⟨rfl, ⟨rfl, rfl⟩, trivial⟩, ⟨rfl, ⟨rfl, rfl⟩, trivial⟩, ⟨rfl, ⟨rfl, rfl⟩, trivial⟩, ⟨rfl, ⟨rfl, rfl⟩, trivial⟩, ⟨rfl, rfl, rows_same⟩, ⟨rfl, rfl, rows_same⟩, ⟨rfl, rfl, rows_same⟩, ⟨rfl, rfl, rows_same⟩, ⟨rfl, rfl, rows_same⟩, trivial⟩, ⟨rfl, rfl⟩, ⟨rfl, rfl⟩, ⟨rfl, rfl⟩, ⟨rfl, rfl⟩, rfl, ⟨rfl, rfl⟩, ⟨rfl, rfl⟩, ⟨rfl, rfl⟩, rfl, rfl, trivial⟩
  · replace h := condT h
    cases v134
    · replace h := condF h
      conv => whnf
      refine Choice.new ?_
      conv => whnf
      refine Req.of (rfl) ?_
      conv => whnf
      obtain ⟨y443, e444, h⟩ := bind_ex h
      refine MarkOk.of (laws_markOrdinal_ct e444) ?_
      conv => whnf
      obtain ⟨g445, h⟩ := req_ex h
      exact CutK.piece (laws_FnExactDivideOrdinals_p15_ct  h) [some 128, some 192, some 384, some 448, some 640, some 704, some 768, some 1129000, some 1129001, some 1129003, some 1129004, some 1129005] [] ⟨⟨rfl, rfl⟩, ⟨rfl, ⟨rfl, rfl, trivial⟩, ⟨rfl, rfl, trivial⟩, ⟨rfl, ⟨rfl, rfl⟩, trivial⟩, ⟨rfl, ⟨rfl, rfl⟩, trivial⟩, ⟨rfl, ⟨rfl, rfl⟩, trivial⟩, ⟨rfl, ⟨rfl, rfl⟩, trivial⟩, ⟨rfl, ⟨rfl, rfl⟩, trivial⟩, ⟨rfl, rfl, rows_same⟩, ⟨rfl, rfl, rows_same⟩, ⟨rfl, rfl, rows_same⟩, ⟨rfl, rfl, rows_same⟩, ⟨rfl, rfl, rows_same⟩, trivial⟩, ⟨rfl, rfl⟩, ⟨rfl, rfl⟩, ⟨rfl, rfl⟩, ⟨rfl, rfl⟩, rfl, ⟨rfl, rfl⟩, ⟨rfl, rfl⟩, ⟨rfl, rfl⟩, rfl, rfl, trivial⟩
    · replace h := condT h
      conv => whnf
      refine Choice.new ?_
      conv => whnf
      refine Req.of (rfl) ?_
      conv => whnf
      obtain ⟨y446, e447, h⟩ := bind_ex h
      refine MarkOk.of (laws_markOrdinal_ct e447) ?_
      conv => whnf
      obtain ⟨g448, h⟩ := req_ex h
      exact CutK.piece (laws_FnExactDivideOrdinals_p15_ct  h) [some 128, some 192, some 384, some 448, some 640, some 704, some 768, some 1129000, some 1129001, some 1129003, some 1129004, some 1129005] [] ⟨⟨rfl, rfl⟩, ⟨rfl, ⟨rfl, rfl, trivial⟩, ⟨rfl, rfl, trivial⟩, ⟨rfl, ⟨rfl, rfl⟩, trivial⟩, ⟨rfl, ⟨rfl, rfl⟩, trivial⟩, ⟨rfl, ⟨rfl, rfl⟩, trivial⟩, ⟨rfl, ⟨rfl, rfl⟩, trivial⟩, ⟨rfl, ⟨rfl, rfl⟩, trivial⟩, ⟨rfl, rfl, rows_same⟩, ⟨rfl, rfl, rows_same⟩, ⟨rfl, rfl, rows_same⟩, ⟨rfl, rfl, rows_same⟩, ⟨rfl, rfl, rows_same⟩, trivial⟩, ⟨rfl, rfl⟩, ⟨rfl, rfl⟩, ⟨rfl, rfl⟩, ⟨rfl, rfl⟩, rfl, ⟨rfl, rfl⟩, ⟨rfl, rfl⟩, ⟨rfl, rfl⟩, rfl, rfl, trivial⟩
def laws_FnExactDivideOrdinals_p12 (k : Nat) (a1 : Rw) (a2 : Rw) (o89 : Rw) (o90 : Rw) (o91 : Rw) (o92 : Rw) (o93 : Rw) (o94 : Rw) (v100 : Bool) (v106 : Bool) : Option Bool :=
  (cond v100 (cond v106 ((laws_toOrdinal k a2).bind fun y464 => ((laws_eqOrdinal k o92 y464).bind fun y466 => (if y466 = true then (laws_FnExactDivideOrdinals_p13 k a1 a2 o89 o90 o91 o92 o93 o94 true true) else some false))) ((laws_toOrdinal k a2).bind fun y459 => ((laws_eqOrdinal k o92 y459).bind fun y461 => (if y461 = true then (laws_FnExactDivideOrdinals_p13 k a1 a2 o89 o90 o91 o92 o93 o94 false true) else some false)))) (cond v106 ((laws_toOrdinal k a2).bind fun y454 => ((laws_eqOrdinal k o92 y454).bind fun y456 => (if y456 = true then (laws_FnExactDivideOrdinals_p13 k a1 a2 o89 o90 o91 o92 o93 o94 true false) else some false))) ((laws_toOrdinal k a2).bind fun y449 => ((laws_eqOrdinal k o92 y449).bind fun y451 => (if y451 = true then (laws_FnExactDivideOrdinals_p13 k a1 a2 o89 o90 o91 o92 o93 o94 false false) else some false)))))
set_option maxHeartbeats 4000000 in
set_option maxRecDepth 100000 in
theorem laws_FnExactDivideOrdinals_p12_ct {k : Nat} {a1 : Rw} {a2 : Rw} {o89 : Rw} {o90 : Rw} {o91 : Rw} {o92 : Rw} {o93 : Rw} {o94 : Rw} {v100 : Bool} {v106 : Bool} {r : Bool} (h : laws_FnExactDivideOrdinals_p12 k a1 a2 o89 o90 o91 o92 o93 o94 v100 v106 = some r) : X prog 0 (tlF f7 12) (mk 156 [(2, .ptr 128 0), (3, .ptr 192 0), (6, .ptr 384 0), (7, .ptr 448 0), (8, .d (D.bool v106)), (9, .ptr 576 0), (10, .ptr 640 0), (11, .ptr 704 0), (12, .ptr 768 0), (13, .d (D.bool v100))] [(128, .box 36 [.d (D.sl a1)]), (192, .box 36 [.d (D.sl a2)]), (384, .box 26 [.os 1124000 o89.length]), (448, .box 26 [.os 1124001 o90.length]), (576, .box 26 [.os 1124002 o91.length]), (640, .box 26 [.os 1124003 o92.length]), (704, .box 26 [.os 1124004 o93.length]), (768, .box 26 [.os 1124005 o94.length]), (1124000, .arr 98 true o89), (1124001, .arr 98 true o90), (1124002, .arr 98 true o91), (1124003, .arr 98 true o92), (1124004, .arr 98 true o93), (1124005, .arr 98 true o94)]) (finK prog f7 0 (.d (D.bool r)) (⟨[], []⟩)) := by
  rw [laws_FnExactDivideOrdinals_p12] at h
  cases v100
  · replace h := condF h
    cases v106
    · replace h := condF h
      conv => whnf
      obtain ⟨y449, e450, h⟩ := bind_ex h
      refine CallOk.of (laws_toOrdinal_ct e450) ?_
      conv => whnf
      refine Take.all (rfl) ?_
      conv => whnf
      refine Take.all (rfl) ?_
      conv => whnf
      obtain ⟨y451, e452, h⟩ := bind_ex h
      refine CallOk.of (laws_eqOrdinal_ct e452) ?_
      conv => whnf
      refine spl (fun g453 => ?_) (fun g453 => ?_)
      · replace h := iteT h g453
        conv => whnf
        refine CutK.norm [2, 3, 6, 7, 8, 9, 10, 11, 12, 13, 74] [128, 192, 384, 448, 576, 640, 704, 768, 1124000, 1124001, 1124002, 1124003, 1124004, 1124005] ?_
        conv => whnf
        exact CutK.piece (laws_FnExactDivideOrdinals_p13_ct  h) [some 128, some 192, some 384, some 448, some 576, some 640, some 704, some 768, some 1124000, some 1124001, some 1124002, some 1124003, some 1124004, some 1124005] [] ⟨⟨rfl, rfl⟩, ⟨rfl, ⟨rfl, rfl, trivial⟩, ⟨rfl, rfl, trivial⟩, ⟨rfl, ⟨rfl, rfl⟩, trivial⟩, ⟨rfl, ⟨rfl, rfl⟩, trivial⟩, ⟨rfl, ⟨rfl, rfl⟩, trivial⟩, ⟨rfl, ⟨rfl, rfl⟩, trivial⟩, ⟨rfl, ⟨rfl, rfl⟩, trivial⟩, ⟨rfl, ⟨rfl, rfl⟩, trivial⟩, ⟨rfl, rfl, rows_same⟩, ⟨rfl, rfl, rows_same⟩, ⟨rfl, rfl, rows_same⟩, ⟨rfl, rfl, rows_same⟩, ⟨rfl, rfl, rows_same⟩, ⟨rfl, rfl, rows_same⟩, trivial⟩, ⟨rfl, rfl⟩, ⟨rfl, rfl⟩, ⟨rfl, rfl⟩, ⟨rfl, rfl⟩, rfl, ⟨rfl, rfl⟩, ⟨rfl, rfl⟩, ⟨rfl, rfl⟩, ⟨rfl, rfl⟩, rfl, trivial⟩
      · replace h := iteF h g453
        conv => whnf
        refine CutK.norm [2, 3, 6, 7, 8, 9, 10, 11, 12, 13, 74] [128, 192, 384, 448, 576, 640, 704, 768, 1124000, 1124001, 1124002, 1124003, 1124004, 1124005] ?_
        conv => whnf
        cases h
        exact Done.of [] [] rfl rfl ⟨⟨rfl, rfl⟩, ⟨rfl, trivial⟩, rfl, trivial⟩
    · replace h := condT h
      conv => whnf
      obtain ⟨y454, e455, h⟩ := bind_ex h
      refine CallOk.of (laws_toOrdinal_ct e455) ?_
      conv => whnf
      refine Take.all (rfl) ?_
      conv => whnf
      refine Take.all (rfl) ?_
      conv => whnf
      obtain ⟨y456, e457, h⟩ := bind_ex h
      refine CallOk.of (laws_eqOrdinal_ct e457) ?_
      conv => whnf
      refine spl (fun g458 => ?_) (fun g458 => ?_)
      · replace h := iteT h g458
        conv => whnf
        refine CutK.norm [2, 3, 6, 7, 8, 9, 10, 11, 12, 13, 74] [128, 192, 384, 448, 576, 640, 704, 768, 1124000, 1124001, 1124002, 1124003, 1124004, 1124005] ?_
        conv => whnf
        exact CutK.piece (laws_FnExactDivideOrdinals_p13_ct  h) [some 128, some 192, some 384, some 448, some 576, some 640, some 704, some 768, some 1124000, some 1124001, some 1124002, some 1124003, some 1124004, some 1124005] [] ⟨⟨rfl, rfl⟩, ⟨rfl, ⟨rfl, rfl, trivial⟩, ⟨rfl, rfl, trivial⟩, ⟨rfl, ⟨rfl, rfl⟩, trivial⟩, ⟨rfl, ⟨rfl, rfl⟩, trivial⟩, ⟨rfl, ⟨rfl, rfl⟩, trivial⟩, ⟨rfl, ⟨rfl, rfl⟩, trivial⟩, ⟨rfl, ⟨rfl, rfl⟩, trivial⟩, ⟨rfl, ⟨rfl, rfl⟩, trivial⟩, ⟨rfl, rfl, rows_same⟩, ⟨rfl, rfl, rows_same⟩, ⟨rfl, rfl, rows_same⟩, ⟨rfl, rfl, rows_same⟩, ⟨rfl, rfl, rows_same⟩, ⟨rfl, rfl, rows_same⟩, trivial⟩, ⟨rfl, rfl⟩, ⟨rfl, rfl⟩, ⟨rfl, rfl⟩, ⟨rfl, rfl⟩, rfl, ⟨rfl, rfl⟩, ⟨rfl, rfl⟩, ⟨rfl, rfl⟩, ⟨rfl, rfl⟩, rfl, trivial⟩
      · replace h := iteF h g458
        conv => whnf
        refine CutK.norm [2, 3, 6, 7, 8, 9, 10, 11, 12, 13, 74] [128, 192, 384, 448, 576, 640, 704, 768, 1124000, 1124001, 1124002, 1124003, 1124004, 1124005] ?_
        conv => whnf
        cases h
        exact Done.of [] [] rfl rfl ⟨⟨rfl, rfl⟩, ⟨rfl, trivial⟩, rfl, trivial⟩
  · replace h := condT h
    cases v106
    · replace h := condF h
      conv => whnf
      obtain ⟨y459, e460, h⟩ := bind_ex h
      refine CallOk.of (laws_toOrdinal_ct e460) ?_
      conv => whnf
      refine Take.all (rfl) ?_
      conv => whnf
      refine Take.all (rfl) ?_
      conv => whnf
      obtain ⟨y461, e462, h⟩ := bind_ex h
      refine CallOk.of (laws_eqOrdinal_ct e462) ?_
      conv => whnf
      refine spl (fun g463 => ?_) (fun g463 => ?_)
      · replace h := iteT h g463
        conv => whnf
        refine CutK.norm [2, 3, 6, 7, 8, 9, 10, 11, 12, 13, 74] [128, 192, 384, 448, 576, 640, 704, 768, 1124000, 1124001, 1124002, 1124003, 1124004, 1124005] ?_
        conv => whnf
        exact CutK.piece (laws_FnExactDivideOrdinals_p13_ct  h) [some 128, some 192, some 384, some 448, some 576, some 640, some 704, some 768, some 1124000, some 1124001, some 1124002, some 1124003, some 1124004, some 1124005] [] ⟨⟨rfl, rfl⟩, ⟨rfl, ⟨rfl, rfl, trivial⟩, ⟨rfl, rfl, trivial⟩, ⟨rfl, ⟨rfl, rfl⟩, trivial⟩, ⟨rfl, ⟨rfl, rfl⟩, trivial⟩, ⟨rfl, ⟨rfl, rfl⟩, trivial⟩, ⟨rfl, ⟨rfl, rfl⟩, trivial⟩, ⟨rfl, ⟨rfl, rfl⟩, trivial⟩, ⟨rfl, ⟨rfl, rfl⟩, trivial⟩, ⟨rfl, rfl, rows_same⟩, ⟨rfl, rfl, rows_same⟩, ⟨rfl, rfl, rows_same⟩, ⟨rfl, rfl, rows_same⟩, ⟨rfl, rfl, rows_same⟩, ⟨rfl, rfl, rows_same⟩, trivial⟩, ⟨rfl, rfl⟩, ⟨rfl, rfl⟩, ⟨rfl, rfl⟩, ⟨rfl, rfl⟩, rfl, ⟨rfl, rfl⟩, ⟨rfl, rfl⟩, ⟨rfl, rfl⟩, ⟨rfl, rfl⟩, rfl, trivial⟩
      · replace h := iteF h g463
        conv => whnf
        refine CutK.norm [2, 3, 6, 7, 8, 9, 10, 11, 12, 13, 74] [128, 192, 384, 448, 576, 640, 704, 768, 1124000, 1124001, 1124002, 1124003, 1124004, 1124005] ?_
        conv => whnf
        cases h
        exact Done.of [] [] rfl rfl ⟨⟨rfl, rfl⟩, ⟨rfl, trivial⟩, rfl, trivial⟩
    · replace h := condT h
      conv => whnf
      obtain ⟨y464, e465, h⟩ := bind_ex h
      refine CallOk.of (laws_toOrdinal_ct e465) ?_
      conv => whnf
      refine Take.all (rfl) ?_
      conv => whnf
      refine Take.all (rfl) ?_
      conv => whnf
      obtain ⟨y466, e467, h⟩ := bind_ex h
      refine CallOk.of (laws_eqOrdinal_ct e467) ?_
      conv => whnf
      refine spl (fun g468 => ?_) (fun g468 => ?_)
      · replace h := iteT h g468
        conv => whnf
        refine CutK.norm [2, 3, 6, 7, 8, 9, 10, 11, 12, 13, 74] [128, 192, 384, 448, 576, 640, 704, 768, 1124000, 1124001, 1124002, 1124003, 1124004, 1124005] ?_
        conv => whnf
        exact CutK.piece (laws_FnExactDivideOrdinals_p13_ct  h) [some 128, some 192, some 384, some 448, some 576, some 640, some 704, some 768, some 1124000, some 1124001, some 1124002, some 1124003, some 1124004, some 1124005] [] ⟨⟨rfl, rfl⟩, ⟨rfl, ⟨rfl, rfl, trivial⟩, ⟨rfl, rfl, trivial⟩, ⟨rfl, ⟨rfl, rfl⟩, trivial⟩, ⟨rfl, ⟨rfl, rfl⟩, trivial⟩, ⟨rfl, ⟨rfl, rfl⟩, trivial⟩, ⟨rfl, ⟨rfl, rfl⟩, trivial⟩, ⟨rfl, ⟨rfl, rfl⟩, trivial⟩, ⟨rfl, ⟨rfl, rfl⟩, trivial⟩, ⟨rfl, rfl, rows_same⟩, ⟨rfl, rfl, rows_same⟩, ⟨rfl, rfl, rows_same⟩, ⟨rfl, rfl, rows_same⟩, ⟨rfl, rfl, rows_same⟩, ⟨rfl, rfl, rows_same⟩, trivial⟩, ⟨rfl, rfl⟩, ⟨rfl, rfl⟩, ⟨rfl, rfl⟩, ⟨rfl, rfl⟩, rfl, ⟨rfl, rfl⟩, ⟨rfl, rfl⟩, ⟨rfl, rfl⟩, ⟨rfl, rfl⟩, rfl, trivial⟩
      · replace h := iteF h g468
        conv => whnf
        refine CutK.norm [2, 3, 6, 7, 8, 9, 10, 11, 12, 13, 74] [128, 192, 384, 448, 576, 640, 704, 768, 1124000, 1124001, 1124002, 1124003, 1124004, 1124005] ?_
        conv => whnf
        cases h
        exact Done.of [] [] rfl rfl ⟨⟨rfl, rfl⟩, ⟨rfl, trivial⟩, rfl, trivial⟩
def laws_FnExactDivideOrdinals_p11 (k : Nat) (a1 : Rw) (a2 : Rw) (o58 : Rw) (o59 : Rw) (o60 : Rw) (o61 : Rw) (o62 : Rw) (o63 : Rw) (v82 : Bool) (v83 : Bool) : Option Bool :=
  (cond v82 (cond v83 ((laws_toOrdinal k a1).bind fun y484 => ((laws_eqOrdinal k o60 y484).bind fun y486 => (if y486 = true then (laws_FnExactDivideOrdinals_p12 k a1 a2 o58 o59 o60 o61 o62 o63 true true) else some false))) ((laws_toOrdinal k a1).bind fun y479 => ((laws_eqOrdinal k o60 y479).bind fun y481 => (if y481 = true then (laws_FnExactDivideOrdinals_p12 k a1 a2 o58 o59 o60 o61 o62 o63 false true) else some false)))) (cond v83 ((laws_toOrdinal k a1).bind fun y474 => ((laws_eqOrdinal k o60 y474).bind fun y476 => (if y476 = true then (laws_FnExactDivideOrdinals_p12 k a1 a2 o58 o59 o60 o61 o62 o63 true false) else some false))) ((laws_toOrdinal k a1).bind fun y469 => ((laws_eqOrdinal k o60 y469).bind fun y471 => (if y471 = true then (laws_FnExactDivideOrdinals_p12 k a1 a2 o58 o59 o60 o61 o62 o63 false false) else some false)))))
set_option maxHeartbeats 4000000 in
set_option maxRecDepth 100000 in
theorem laws_FnExactDivideOrdinals_p11_ct {k : Nat} {a1 : Rw} {a2 : Rw} {o58 : Rw} {o59 : Rw} {o60 : Rw} {o61 : Rw} {o62 : Rw} {o63 : Rw} {v82 : Bool} {v83 : Bool} {r : Bool} (h : laws_FnExactDivideOrdinals_p11 k a1 a2 o58 o59 o60 o61 o62 o63 v82 v83 = some r) : X prog 0 (tlF f7 11) (mk 156 [(2, .ptr 128 0), (3, .ptr 192 0), (6, .ptr 384 0), (7, .ptr 448 0), (8, .d (D.bool v82)), (9, .ptr 576 0), (10, .ptr 640 0), (11, .ptr 704 0), (12, .ptr 768 0), (13, .d (D.bool v83))] [(128, .box 36 [.d (D.sl a1)]), (192, .box 36 [.d (D.sl a2)]), (384, .box 26 [.os 1119000 o58.length]), (448, .box 26 [.os 1119001 o59.length]), (576, .box 26 [.os 1119002 o60.length]), (640, .box 26 [.os 1119003 o61.length]), (704, .box 26 [.os 1119004 o62.length]), (768, .box 26 [.os 1119005 o63.length]), (1119000, .arr 98 true o58), (1119001, .arr 98 true o59), (1119002, .arr 98 true o60), (1119003, .arr 98 true o61), (1119004, .arr 98 true o62), (1119005, .arr 98 true o63)]) (finK prog f7 0 (.d (D.bool r)) (⟨[], []⟩)) := by
  rw [laws_FnExactDivideOrdinals_p11] at h
  cases v82
  · replace h := condF h
    cases v83
    · replace h := condF h
      conv => whnf
      obtain ⟨y469, e470, h⟩ := bind_ex h
      refine CallOk.of (laws_toOrdinal_ct e470) ?_
      conv => whnf
      refine Take.all (rfl) ?_
      conv => whnf
      refine Take.all (rfl) ?_
      conv => whnf
      obtain ⟨y471, e472, h⟩ := bind_ex h
      refine CallOk.of (laws_eqOrdinal_ct e472) ?_
      conv => whnf
      refine spl (fun g473 => ?_) (fun g473 => ?_)
      · replace h := iteT h g473
        conv => whnf
        refine CutK.norm [2, 3, 6, 7, 8, 9, 10, 11, 12, 13, 69] [128, 192, 384, 448, 576, 640, 704, 768, 1119000, 1119001, 1119002, 1119003, 1119004, 1119005] ?_
        conv => whnf
        exact CutK.piece (laws_FnExactDivideOrdinals_p12_ct  h) [some 128, some 192, some 384, some 448, some 576, some 640, some 704, some 768, some 1119000, some 1119001, some 1119002, some 1119003, some 1119004, some 1119005] [] ⟨⟨rfl, rfl⟩, ⟨rfl, ⟨rfl, rfl, trivial⟩, ⟨rfl, rfl, trivial⟩, ⟨rfl, ⟨rfl, rfl⟩, trivial⟩, ⟨rfl, ⟨rfl, rfl⟩, trivial⟩, ⟨rfl, ⟨rfl, rfl⟩, trivial⟩, ⟨rfl, ⟨rfl, rfl⟩, trivial⟩, ⟨rfl, ⟨rfl, rfl⟩, trivial⟩, ⟨rfl, ⟨rfl, rfl⟩, trivial⟩, ⟨rfl, rfl, rows_same⟩, ⟨rfl, rfl, rows_same⟩, ⟨rfl, rfl, rows_same⟩, ⟨rfl, rfl, rows_same⟩, ⟨rfl, rfl, rows_same⟩, ⟨rfl, rfl, rows_same⟩, trivial⟩, ⟨rfl, rfl⟩, ⟨rfl, rfl⟩, ⟨rfl, rfl⟩, ⟨rfl, rfl⟩, rfl, ⟨rfl, rfl⟩, ⟨rfl, rfl⟩, ⟨rfl, rfl⟩, ⟨rfl, rfl⟩, rfl, trivial⟩
      · replace h := iteF h g473
        conv => whnf
        refine CutK.norm [2, 3, 6, 7, 8, 9, 10, 11, 12, 13, 69] [128, 192, 384, 448, 576, 640, 704, 768, 1119000, 1119001, 1119002, 1119003, 1119004, 1119005] ?_
        conv => whnf
        cases h
        exact Done.of [] [] rfl rfl ⟨⟨rfl, rfl⟩, ⟨rfl, trivial⟩, rfl, trivial⟩
    · replace h := condT h
      conv => whnf
      obtain ⟨y474, e475, h⟩ := bind_ex h
      refine CallOk.of (laws_toOrdinal_ct e475) ?_
      conv => whnf
      refine Take.all (rfl) ?_
      conv => whnf
      refine Take.all (rfl) ?_
      conv => whnf
      obtain ⟨y476, e477, h⟩ := bind_ex h
      refine CallOk.of (laws_eqOrdinal_ct e477) ?_
      conv => whnf
      refine spl (fun g478 => ?_) (fun g478 => ?_)
      · replace h := iteT h g478
        conv => whnf
        refine CutK.norm [2, 3, 6, 7, 8, 9, 10, 11, 12, 13, 69] [128, 192, 384, 448, 576, 640, 704, 768, 1119000, 1119001, 1119002, 1119003, 1119004, 1119005] ?_
        conv => whnf
        exact CutK.piece (laws_FnExactDivideOrdinals_p12_ct  h) [some 128, some 192, some 384, some 448, some 576, some 640, some 704, some 768, some 1119000, some 1119001, some 1119002, some 1119003, some 1119004, some 1119005] [] ⟨⟨rfl, rfl⟩, ⟨rfl, ⟨rfl, rfl, trivial⟩, ⟨rfl, rfl, trivial⟩, ⟨rfl, ⟨rfl, rfl⟩, trivial⟩, ⟨rfl, ⟨rfl, rfl⟩, trivial⟩, ⟨rfl, ⟨rfl, rfl⟩, trivial⟩, ⟨rfl, ⟨rfl, rfl⟩, trivial⟩, ⟨rfl, ⟨rfl, rfl⟩, trivial⟩, ⟨rfl, ⟨rfl, rfl⟩, trivial⟩, ⟨rfl, rfl, rows_same⟩, ⟨rfl, rfl, rows_same⟩, ⟨rfl, rfl, rows_same⟩, ⟨rfl, rfl, rows_same⟩, ⟨rfl, rfl, rows_same⟩, ⟨rfl, rfl, rows_same⟩, trivial⟩, ⟨rfl, rfl⟩, ⟨rfl, rfl⟩, ⟨rfl, rfl⟩, ⟨rfl, rfl⟩, rfl, ⟨rfl, rfl⟩, ⟨rfl, rfl⟩, ⟨rfl, rfl⟩, ⟨rfl, rfl⟩, rfl, trivial⟩
      · replace h := iteF h g478
        conv => whnf
        refine CutK.norm [2, 3, 6, 7, 8, 9, 10, 11, 12, 13, 69] [128, 192, 384, 448, 576, 640, 704, 768, 1119000, 1119001, 1119002, 1119003, 1119004, 1119005] ?_
        conv => whnf
        cases h
        exact Done.of [] [] rfl rfl ⟨⟨rfl, rfl⟩, ⟨rfl, trivial⟩, rfl, trivial⟩
  · replace h := condT h
    cases v83
    · replace h := condF h
      conv => whnf
      obtain ⟨y479, e480, h⟩ := bind_ex h
      refine CallOk.of (laws_toOrdinal_ct e480) ?_
      conv => whnf
      refine Take.all (rfl) ?_
      conv => whnf
      refine Take.all (rfl) ?_
      conv => whnf
      obtain ⟨y481, e482, h⟩ := bind_ex h
      refine CallOk.of (laws_eqOrdinal_ct e482) ?_
      conv => whnf
      refine spl (fun g483 => ?_) (fun g483 => ?_)
      · replace h := iteT h g483
        conv => whnf
        refine CutK.norm [2, 3, 6, 7, 8, 9, 10, 11, 12, 13, 69] [128, 192, 384, 448, 576, 640, 704, 768, 1119000, 1119001, 1119002, 1119003, 1119004, 1119005] ?_
        conv => whnf
        exact CutK.piece (laws_FnExactDivideOrdinals_p12_ct  h) [some 128, some 192, some 384, some 448, some 576, some 640, some 704, some 768, some 1119000, some 1119001, some 1119002, some 1119003, some 1119004, some 1119005] [] ⟨⟨rfl, rfl⟩, ⟨rfl, ⟨rfl, rfl, trivial⟩, ⟨rfl, rfl, trivial⟩, ⟨rfl, ⟨rfl, rfl⟩, trivial⟩, ⟨rfl, ⟨rfl, rfl⟩, trivial⟩, ⟨rfl, ⟨rfl, rfl⟩, trivial⟩, ⟨rfl, ⟨rfl, rfl⟩, trivial⟩, ⟨rfl, ⟨rfl, rfl⟩, trivial⟩, ⟨rfl, ⟨rfl, rfl⟩, trivial⟩, ⟨rfl, rfl, rows_same⟩, ⟨rfl, rfl, rows_same⟩, ⟨rfl, rfl, rows_same⟩, ⟨rfl, rfl, rows_same⟩, ⟨rfl, rfl, rows_same⟩, ⟨rfl, rfl, rows_same⟩, trivial⟩, ⟨rfl, rfl⟩, ⟨rfl, rfl⟩, ⟨rfl, rfl⟩, ⟨rfl, rfl⟩, rfl, ⟨rfl, rfl⟩, ⟨rfl, rfl⟩, ⟨rfl, rfl⟩, ⟨rfl, rfl⟩, rfl, trivial⟩
      · replace h := iteF h g483
        conv => whnf
        refine CutK.norm [2, 3, 6, 7, 8, 9, 10, 11, 12, 13, 69] [128, 192, 384, 448, 576, 640, 704, 768, 1119000, 1119001, 1119002, 1119003, 1119004, 1119005] ?_
        conv => whnf
        cases h
        exact Done.of [] [] rfl rfl ⟨⟨rfl, rfl⟩, ⟨rfl, trivial⟩, rfl, trivial⟩
    · replace h := condT h
      conv => whnf
      obtain ⟨y484, e485, h⟩ := bind_ex h
      refine CallOk.of (laws_toOrdinal_ct e485) ?_
      conv => whnf
      refine Take.all (rfl) ?_
      conv => whnf
      refine Take.all (rfl) ?_
      conv => whnf
      obtain ⟨y486, e487, h⟩ := bind_ex h
      refine CallOk.of (laws_eqOrdinal_ct e487) ?_
      conv => whnf
      refine spl (fun g488 => ?_) (fun g488 => ?_)
      · replace h := iteT h g488
        conv => whnf
        refine CutK.norm [2, 3, 6, 7, 8, 9, 10, 11, 12, 13, 69] [128, 192, 384, 448, 576, 640, 704, 768, 1119000, 1119001, 1119002, 1119003, 1119004, 1119005] ?_
        conv => whnf
        exact CutK.piece (laws_FnExactDivideOrdinals_p12_ct  h) [some 128, some 192, some 384, some 448, some 576, some 640, some 704, some 768, some 1119000, some 1119001, some 1119002, some 1119003, some 1119004, some 1119005] [] ⟨⟨rfl, rfl⟩, ⟨rfl, ⟨rfl, rfl, trivial⟩, ⟨rfl, rfl, trivial⟩, ⟨rfl, ⟨rfl, rfl⟩, trivial⟩, ⟨rfl, ⟨rfl, rfl⟩, trivial⟩, ⟨rfl, ⟨rfl, rfl⟩, trivial⟩, ⟨rfl, ⟨rfl, rfl⟩, trivial⟩, ⟨rfl, ⟨rfl, rfl⟩, trivial⟩, ⟨rfl, ⟨rfl, rfl⟩, trivial⟩, ⟨rfl, rfl, rows_same⟩, ⟨rfl, rfl, rows_same⟩, ⟨rfl, rfl, rows_same⟩, ⟨rfl, rfl, rows_same⟩, ⟨rfl, rfl, rows_same⟩, ⟨rfl, rfl, rows_same⟩, trivial⟩, ⟨rfl, rfl⟩, ⟨rfl, rfl⟩, ⟨rfl, rfl⟩, ⟨rfl, rfl⟩, rfl, ⟨rfl, rfl⟩, ⟨rfl, rfl⟩, ⟨rfl, rfl⟩, ⟨rfl, rfl⟩, rfl, trivial⟩
      · replace h := iteF h g488
        conv => whnf
        refine CutK.norm [2, 3, 6, 7, 8, 9, 10, 11, 12, 13, 69] [128, 192, 384, 448, 576, 640, 704, 768, 1119000, 1119001, 1119002, 1119003, 1119004, 1119005] ?_
        conv => whnf
        cases h
        exact Done.of [] [] rfl rfl ⟨⟨rfl, rfl⟩, ⟨rfl, trivial⟩, rfl, trivial⟩
def laws_FnExactDivideOrdinals_p10 (k : Nat) (a1 : Rw) (a2 : Rw) (o41 : Rw) (o42 : Rw) (o43 : Rw) (o44 : Rw) (o45 : Rw) (o46 : Rw) (v47 : Bool) (v51 : Bool) : Option Bool :=
  (cond v47 (cond v51 ((laws_eqOrdinal k o45 o41).bind fun y507 => (if y507 = true then ((laws_eqOrdinal k o46 o42).bind fun y510 => (if y510 = true then (laws_FnExactDivideOrdinals_p11 k a1 a2 o41 o42 o43 o44 o45 o46 true true) else some false)) else some false)) ((laws_eqOrdinal k o45 o41).bind fun y501 => (if y501 = true then ((laws_eqOrdinal k o46 o42).bind fun y504 => (if y504 = true then some false else some false)) else some false))) (cond v51 ((laws_eqOrdinal k o45 o41).bind fun y495 => (if y495 = true then ((laws_eqOrdinal k o46 o42).bind fun y498 => (if y498 = true then some false else some false)) else some false)) ((laws_eqOrdinal k o45 o41).bind fun y489 => (if y489 = true then ((laws_eqOrdinal k o46 o42).bind fun y492 => (if y492 = true then (laws_FnExactDivideOrdinals_p11 k a1 a2 o41 o42 o43 o44 o45 o46 false false) else some false)) else some false))))
set_option maxHeartbeats 4000000 in
set_option maxRecDepth 100000 in
theorem laws_FnExactDivideOrdinals_p10_ct {k : Nat} {a1 : Rw} {a2 : Rw} {o41 : Rw} {o42 : Rw} {o43 : Rw} {o44 : Rw} {o45 : Rw} {o46 : Rw} {v47 : Bool} {v51 : Bool} {r : Bool} (h : laws_FnExactDivideOrdinals_p10 k a1 a2 o41 o42 o43 o44 o45 o46 v47 v51 = some r) : X prog 0 (tlF f7 10) (mk 156 [(2, .ptr 128 0), (3, .ptr 192 0), (6, .ptr 384 0), (7, .ptr 448 0), (8, .d (D.bool v51)), (9, .ptr 576 0), (10, .ptr 640 0), (11, .ptr 704 0), (12, .ptr 768 0), (13, .d (D.bool v47))] [(128, .box 36 [.d (D.sl a1)]), (192, .box 36 [.d (D.sl a2)]), (384, .box 26 [.os 1114000 o41.length]), (448, .box 26 [.os 1114001 o42.length]), (576, .box 26 [.os 1114002 o43.length]), (640, .box 26 [.os 1114003 o44.length]), (704, .box 26 [.os 1114004 o45.length]), (768, .box 26 [.os 1114005 o46.length]), (1114000, .arr 98 true o41), (1114001, .arr 98 true o42), (1114002, .arr 98 true o43), (1114003, .arr 98 true o44), (1114004, .arr 98 true o45), (1114005, .arr 98 true o46)]) (finK prog f7 0 (.d (D.bool r)) (⟨[], []⟩)) := by
  rw [laws_FnExactDivideOrdinals_p10] at h
  cases v47
  · replace h := condF h
    cases v51
    · replace h := condF h
      conv => whnf
      refine Take.all (rfl) ?_
      conv => whnf
      refine Take.all (rfl) ?_
      conv => whnf
      obtain ⟨y489, e490, h⟩ := bind_ex h
      refine CallOk.of (laws_eqOrdinal_ct e490) ?_
      conv => whnf
      refine spl (fun g491 => ?_) (fun g491 => ?_)
      · replace h := iteT h g491
        conv => whnf
        refine Take.all (rfl) ?_
        conv => whnf
        refine Take.all (rfl) ?_
        conv => whnf
        obtain ⟨y492, e493, h⟩ := bind_ex h
        refine CallOk.of (laws_eqOrdinal_ct e493) ?_
        conv => whnf
        refine spl (fun g494 => ?_) (fun g494 => ?_)
        · replace h := iteT h g494
          conv => whnf
          refine splF ?_
          conv => whnf
          refine CutK.norm [2, 3, 6, 7, 8, 9, 10, 11, 12, 13, 64] [128, 192, 384, 448, 576, 640, 704, 768, 1114000, 1114001, 1114002, 1114003, 1114004, 1114005] ?_
          conv => whnf
          exact CutK.piece (laws_FnExactDivideOrdinals_p11_ct  h) [some 128, some 192, some 384, some 448, some 576, some 640, some 704, some 768, some 1114000, some 1114001, some 1114002, some 1114003, some 1114004, some 1114005] [] ⟨⟨rfl, rfl⟩, ⟨rfl, ⟨rfl, rfl, trivial⟩, ⟨rfl, rfl, trivial⟩, ⟨rfl, ⟨rfl, rfl⟩, trivial⟩, ⟨rfl, ⟨rfl, rfl⟩, trivial⟩, ⟨rfl, ⟨rfl, rfl⟩, trivial⟩, ⟨rfl, ⟨rfl, rfl⟩, trivial⟩, ⟨rfl, ⟨rfl, rfl⟩, trivial⟩, ⟨rfl, ⟨rfl, rfl⟩, trivial⟩, ⟨rfl, rfl, rows_same⟩, ⟨rfl, rfl, rows_same⟩, ⟨rfl, rfl, rows_same⟩, ⟨rfl, rfl, rows_same⟩, ⟨rfl, rfl, rows_same⟩, ⟨rfl, rfl, rows_same⟩, trivial⟩, ⟨rfl, rfl⟩, ⟨rfl, rfl⟩, ⟨rfl, rfl⟩, ⟨rfl, rfl⟩, rfl, ⟨rfl, rfl⟩, ⟨rfl, rfl⟩, ⟨rfl, rfl⟩, ⟨rfl, rfl⟩, rfl, trivial⟩
        · replace h := iteF h g494
          conv => whnf
          refine CutK.norm [2, 3, 6, 7, 8, 9, 10, 11, 12, 13, 64] [128, 192, 384, 448, 576, 640, 704, 768, 1114000, 1114001, 1114002, 1114003, 1114004, 1114005] ?_
          conv => whnf
          cases h
          exact Done.of [] [] rfl rfl ⟨⟨rfl, rfl⟩, ⟨rfl, trivial⟩, rfl, trivial⟩
      · replace h := iteF h g491
        conv => whnf
        refine CutK.norm [2, 3, 6, 7, 8, 9, 10, 11, 12, 13, 64] [128, 192, 384, 448, 576, 640, 704, 768, 1114000, 1114001, 1114002, 1114003, 1114004, 1114005] ?_
        conv => whnf
        cases h
        exact Done.of [] [] rfl rfl ⟨⟨rfl, rfl⟩, ⟨rfl, trivial⟩, rfl, trivial⟩
    · replace h := condT h
      conv => whnf
      refine Take.all (rfl) ?_
      conv => whnf
      refine Take.all (rfl) ?_
      conv => whnf
      obtain ⟨y495, e496, h⟩ := bind_ex h
      refine CallOk.of (laws_eqOrdinal_ct e496) ?_
      conv => whnf
      refine spl (fun g497 => ?_) (fun g497 => ?_)
      · replace h := iteT h g497
        conv => whnf
        refine Take.all (rfl) ?_
        conv => whnf
        refine Take.all (rfl) ?_
        conv => whnf
        obtain ⟨y498, e499, h⟩ := bind_ex h
        refine CallOk.of (laws_eqOrdinal_ct e499) ?_
        conv => whnf
        refine spl (fun g500 => ?_) (fun g500 => ?_)
        · replace h := iteT h g500
          conv => whnf
          refine splT ?_
          conv => whnf
          refine CutK.norm [2, 3, 6, 7, 8, 9, 10, 11, 12, 13, 64] [128, 192, 384, 448, 576, 640, 704, 768, 1114000, 1114001, 1114002, 1114003, 1114004, 1114005] ?_
          conv => whnf
          cases h
          exact Done.of [] [] rfl rfl ⟨⟨rfl, rfl⟩, ⟨rfl, trivial⟩, rfl, trivial⟩
        · replace h := iteF h g500
          conv => whnf
          refine CutK.norm [2, 3, 6, 7, 8, 9, 10, 11, 12, 13, 64] [128, 192, 384, 448, 576, 640, 704, 768, 1114000, 1114001, 1114002, 1114003, 1114004, 1114005] ?_
          conv => whnf
          cases h
          exact Done.of [] [] rfl rfl ⟨⟨rfl, rfl⟩, ⟨rfl, trivial⟩, rfl, trivial⟩
      · replace h := iteF h g497
        conv => whnf
        refine CutK.norm [2, 3, 6, 7, 8, 9, 10, 11, 12, 13, 64] [128, 192, 384, 448, 576, 640, 704, 768, 1114000, 1114001, 1114002, 1114003, 1114004, 1114005] ?_
        conv => whnf
        cases h
        exact Done.of [] [] rfl rfl ⟨⟨rfl, rfl⟩, ⟨rfl, trivial⟩, rfl, trivial⟩
  · replace h := condT h
    cases v51
    · replace h := condF h
      conv => whnf
      refine Take.all (rfl) ?_
      conv => whnf
      refine Take.all (rfl) ?_
      conv => whnf
      obtain ⟨y501, e502, h⟩ := bind_ex h
      refine CallOk.of (laws_eqOrdinal_ct e502) ?_
      conv => whnf
      refine spl (fun g503 => ?_) (fun g503 => ?_)
      · replace h := iteT h g503
        conv => whnf
        refine Take.all (rfl) ?_
        conv => whnf
        refine Take.all (rfl) ?_
        conv => whnf
        obtain ⟨y504, e505, h⟩ := bind_ex h
        refine CallOk.of (laws_eqOrdinal_ct e505) ?_
        conv => whnf
        refine spl (fun g506 => ?_) (fun g506 => ?_)
        · replace h := iteT h g506
          conv => whnf
          refine splT ?_
          conv => whnf
          refine CutK.norm [2, 3, 6, 7, 8, 9, 10, 11, 12, 13, 64] [128, 192, 384, 448, 576, 640, 704, 768, 1114000, 1114001, 1114002, 1114003, 1114004, 1114005] ?_
          conv => whnf
          cases h
          exact Done.of [] [] rfl rfl ⟨⟨rfl, rfl⟩, ⟨rfl, trivial⟩, rfl, trivial⟩
        · replace h := iteF h g506
          conv => whnf
          refine CutK.norm [2, 3, 6, 7, 8, 9, 10, 11, 12, 13, 64] [128, 192, 384, 448, 576, 640, 704, 768, 1114000, 1114001, 1114002, 1114003, 1114004, 1114005] ?_
          conv => whnf
          cases h
          exact Done.of [] [] rfl rfl ⟨⟨rfl, rfl⟩, ⟨rfl, trivial⟩, rfl, trivial⟩
      · replace h := iteF h g503
        conv => whnf
        refine CutK.norm [2, 3, 6, 7, 8, 9, 10, 11, 12, 13, 64] [128, 192, 384, 448, 576, 640, 704, 768, 1114000, 1114001, 1114002, 1114003, 1114004, 1114005] ?_
        conv => whnf
        cases h
        exact Done.of [] [] rfl rfl ⟨⟨rfl, rfl⟩, ⟨rfl, trivial⟩, rfl, trivial⟩
    · replace h := condT h
      conv => whnf
      refine Take.all (rfl) ?_
      conv => whnf
      refine Take.all (rfl) ?_
      conv => whnf
      obtain ⟨y507, e508, h⟩ := bind_ex h
      refine CallOk.of (laws_eqOrdinal_ct e508) ?_
      conv => whnf
      refine spl (fun g509 => ?_) (fun g509 => ?_)
      · replace h := iteT h g509
        conv => whnf
        refine Take.all (rfl) ?_
        conv => whnf
        refine Take.all (rfl) ?_
        conv => whnf
        obtain ⟨y510, e511, h⟩ := bind_ex h
        refine CallOk.of (laws_eqOrdinal_ct e511) ?_
        conv => whnf
        refine spl (fun g512 => ?_) (fun g512 => ?_)
        · replace h := iteT h g512
          conv => whnf
          refine splF ?_
          conv => whnf
          refine CutK.norm [2, 3, 6, 7, 8, 9, 10, 11, 12, 13, 64] [128, 192, 384, 448, 576, 640, 704, 768, 1114000, 1114001, 1114002, 1114003, 1114004, 1114005] ?_
          conv => whnf
          exact CutK.piece (laws_FnExactDivideOrdinals_p11_ct  h) [some 128, some 192, some 384, some 448, some 576, some 640, some 704, some 768, some 1114000, some 1114001, some 1114002, some 1114003, some 1114004, some 1114005] [] ⟨⟨rfl, rfl⟩, ⟨rfl, ⟨rfl, rfl, trivial⟩, ⟨rfl, rfl, trivial⟩, ⟨rfl, ⟨rfl, rfl⟩, trivial⟩, ⟨rfl, ⟨rfl, rfl⟩, trivial⟩, ⟨rfl, ⟨rfl, rfl⟩, trivial⟩, ⟨rfl, ⟨rfl, rfl⟩, trivial⟩, ⟨rfl, ⟨rfl, rfl⟩, trivial⟩, ⟨rfl, ⟨rfl, rfl⟩, trivial⟩, ⟨rfl, rfl, rows_same⟩, ⟨rfl, rfl, rows_same⟩, ⟨rfl, rfl, rows_same⟩, ⟨rfl, rfl, rows_same⟩, ⟨rfl, rfl, rows_same⟩, ⟨rfl, rfl, rows_same⟩, trivial⟩, ⟨rfl, rfl⟩, ⟨rfl, rfl⟩, ⟨rfl, rfl⟩, ⟨rfl, rfl⟩, rfl, ⟨rfl, rfl⟩, ⟨rfl, rfl⟩, ⟨rfl, rfl⟩, ⟨rfl, rfl⟩, rfl, trivial⟩
        · replace h := iteF h g512
          conv => whnf
          refine CutK.norm [2, 3, 6, 7, 8, 9, 10, 11, 12, 13, 64] [128, 192, 384, 448, 576, 640, 704, 768, 1114000, 1114001, 1114002, 1114003, 1114004, 1114005] ?_
          conv => whnf
          cases h
          exact Done.of [] [] rfl rfl ⟨⟨rfl, rfl⟩, ⟨rfl, trivial⟩, rfl, trivial⟩
      · replace h := iteF h g509
        conv => whnf
        refine CutK.norm [2, 3, 6, 7, 8, 9, 10, 11, 12, 13, 64] [128, 192, 384, 448, 576, 640, 704, 768, 1114000, 1114001, 1114002, 1114003, 1114004, 1114005] ?_
        conv => whnf
        cases h
        exact Done.of [] [] rfl rfl ⟨⟨rfl, rfl⟩, ⟨rfl, trivial⟩, rfl, trivial⟩
def laws_FnExactDivideOrdinals_p9 (k : Nat) (a1 : Rw) (a2 : Rw) (o31 : Rw) (o32 : Rw) (o33 : Rw) (o34 : Rw) (v37 : Bool) : Option Bool :=
  (cond v37 ((impl_DivideOrdinals k o33 o34).bind fun y516 => (if y516.2.2 = true then (laws_FnExactDivideOrdinals_p10 k a1 a2 o31 o32 o33 o34 y516.1 y516.2.1 true true) else (laws_FnExactDivideOrdinals_p10 k a1 a2 o31 o32 o33 o34 y516.1 y516.2.1 false true))) ((impl_DivideOrdinals k o33 o34).bind fun y513 => (if y513.2.2 = true then (laws_FnExactDivideOrdinals_p10 k a1 a2 o31 o32 o33 o34 y513.1 y513.2.1 true false) else (laws_FnExactDivideOrdinals_p10 k a1 a2 o31 o32 o33 o34 y513.1 y513.2.1 false false))))
set_option maxHeartbeats 4000000 in
set_option maxRecDepth 100000 in
theorem laws_FnExactDivideOrdinals_p9_ct {k : Nat} {a1 : Rw} {a2 : Rw} {o31 : Rw} {o32 : Rw} {o33 : Rw} {o34 : Rw} {v37 : Bool} {r : Bool} (h : laws_FnExactDivideOrdinals_p9 k a1 a2 o31 o32 o33 o34 v37 = some r) : X prog 0 (tlF f7 9) (mk 156 [(2, .ptr 128 0), (3, .ptr 192 0), (6, .ptr 384 0), (7, .ptr 448 0), (8, .d (D.bool v37)), (9, .ptr 576 0), (10, .ptr 640 0)] [(128, .box 36 [.d (D.sl a1)]), (192, .box 36 [.d (D.sl a2)]), (384, .box 26 [.os 1109000 o31.length]), (448, .box 26 [.os 1109001 o32.length]), (576, .box 26 [.os 1109002 o33.length]), (640, .box 26 [.os 1109003 o34.length]), (1109000, .arr 98 true o31), (1109001, .arr 98 true o32), (1109002, .arr 98 true o33), (1109003, .arr 98 true o34)]) (finK prog f7 0 (.d (D.bool r)) (⟨[], []⟩)) := by
  rw [laws_FnExactDivideOrdinals_p9] at h
  cases v37
  · replace h := condF h
    conv => whnf
    refine Take.all (rfl) ?_
    conv => whnf
    refine Take.all (rfl) ?_
    conv => whnf
    obtain ⟨y513, e514, h⟩ := bind_ex h
    refine CallOk.of (impl_DivideOrdinals_ct e514) ?_
    conv => whnf
    refine spl (fun g515 => ?_) (fun g515 => ?_)
    · replace h := iteT h g515
      conv => whnf
      exact CutK.piece (laws_FnExactDivideOrdinals_p10_ct  h) [some 128, some 192, some 384, some 448, some 576, some 640, some 704, some 768, some 1109000, some 1109001, some 1109002, some 1109003, some 2944, some 2945] [] ⟨⟨rfl, rfl⟩, ⟨rfl, ⟨rfl, rfl, trivial⟩, ⟨rfl, rfl, trivial⟩, ⟨rfl, ⟨rfl, rfl⟩, trivial⟩, ⟨rfl, ⟨rfl, rfl⟩, trivial⟩, ⟨rfl, ⟨rfl, rfl⟩, trivial⟩, ⟨rfl, ⟨rfl, rfl⟩, trivial⟩, ⟨rfl, ⟨rfl, rfl⟩, trivial⟩, ⟨rfl, ⟨rfl, rfl⟩, trivial⟩, ⟨rfl, rfl, rows_same⟩, ⟨rfl, rfl, rows_same⟩, ⟨rfl, rfl, rows_same⟩, ⟨rfl, rfl, rows_same⟩, ⟨rfl, rfl, rows_same⟩, ⟨rfl, rfl, rows_same⟩, trivial⟩, ⟨rfl, rfl⟩, ⟨rfl, rfl⟩, ⟨rfl, rfl⟩, ⟨rfl, rfl⟩, rfl, ⟨rfl, rfl⟩, ⟨rfl, rfl⟩, ⟨rfl, rfl⟩, ⟨rfl, rfl⟩, rfl, trivial⟩
    · replace h := iteF h g515
      conv => whnf
      exact CutK.piece (laws_FnExactDivideOrdinals_p10_ct  h) [some 128, some 192, some 384, some 448, some 576, some 640, some 704, some 768, some 1109000, some 1109001, some 1109002, some 1109003, some 2944, some 2945] [] ⟨⟨rfl, rfl⟩, ⟨rfl, ⟨rfl, rfl, trivial⟩, ⟨rfl, rfl, trivial⟩, ⟨rfl, ⟨rfl, rfl⟩, trivial⟩, ⟨rfl, ⟨rfl, rfl⟩, trivial⟩, ⟨rfl, ⟨rfl, rfl⟩, trivial⟩, ⟨rfl, ⟨rfl, rfl⟩, trivial⟩, ⟨rfl, ⟨rfl, rfl⟩, trivial⟩, ⟨rfl, ⟨rfl, rfl⟩, trivial⟩, ⟨rfl, rfl, rows_same⟩, ⟨rfl, rfl, rows_same⟩, ⟨rfl, rfl, rows_same⟩, ⟨rfl, rfl, rows_same⟩, ⟨rfl, rfl, rows_same⟩, ⟨rfl, rfl, rows_same⟩, trivial⟩, ⟨rfl, rfl⟩, ⟨rfl, rfl⟩, ⟨rfl, rfl⟩, ⟨rfl, rfl⟩, rfl, ⟨rfl, rfl⟩, ⟨rfl, rfl⟩, ⟨rfl, rfl⟩, ⟨rfl, rfl⟩, rfl, trivial⟩
  · replace h := condT h
    conv => whnf
    refine Take.all (rfl) ?_
    conv => whnf
    refine Take.all (rfl) ?_
    conv => whnf
    obtain ⟨y516, e517, h⟩ := bind_ex h
    refine CallOk.of (impl_DivideOrdinals_ct e517) ?_
    conv => whnf
    refine spl (fun g518 => ?_) (fun g518 => ?_)
    · replace h := iteT h g518
      conv => whnf
      exact CutK.piece (laws_FnExactDivideOrdinals_p10_ct  h) [some 128, some 192, some 384, some 448, some 576, some 640, some 704, some 768, some 1109000, some 1109001, some 1109002, some 1109003, some 2944, some 2945] [] ⟨⟨rfl, rfl⟩, ⟨rfl, ⟨rfl, rfl, trivial⟩, ⟨rfl, rfl, trivial⟩, ⟨rfl, ⟨rfl, rfl⟩, trivial⟩, ⟨rfl, ⟨rfl, rfl⟩, trivial⟩, ⟨rfl, ⟨rfl, rfl⟩, trivial⟩, ⟨rfl, ⟨rfl, rfl⟩, trivial⟩, ⟨rfl, ⟨rfl, rfl⟩, trivial⟩, ⟨rfl, ⟨rfl, rfl⟩, trivial⟩, ⟨rfl, rfl, rows_same⟩, ⟨rfl, rfl, rows_same⟩, ⟨rfl, rfl, rows_same⟩, ⟨rfl, rfl, rows_same⟩, ⟨rfl, rfl, rows_same⟩, ⟨rfl, rfl, rows_same⟩, trivial⟩, ⟨rfl, rfl⟩, ⟨rfl, rfl⟩, ⟨rfl, rfl⟩, ⟨rfl, rfl⟩, rfl, ⟨rfl, rfl⟩, ⟨rfl, rfl⟩, ⟨rfl, rfl⟩, ⟨rfl, rfl⟩, rfl, trivial⟩
    · replace h := iteF h g518
      conv => whnf
      exact CutK.piece (laws_FnExactDivideOrdinals_p10_ct  h) [some 128, some 192, some 384, some 448, some 576, some 640, some 704, some 768, some 1109000, some 1109001, some 1109002, some 1109003, some 2944, some 2945] [] ⟨⟨rfl, rfl⟩, ⟨rfl, ⟨rfl, rfl, trivial⟩, ⟨rfl, rfl, trivial⟩, ⟨rfl, ⟨rfl, rfl⟩, trivial⟩, ⟨rfl, ⟨rfl, rfl⟩, trivial⟩, ⟨rfl, ⟨rfl, rfl⟩, trivial⟩, ⟨rfl, ⟨rfl, rfl⟩, trivial⟩, ⟨rfl, ⟨rfl, rfl⟩, trivial⟩, ⟨rfl, ⟨rfl, rfl⟩, trivial⟩, ⟨rfl, rfl, rows_same⟩, ⟨rfl, rfl, rows_same⟩, ⟨rfl, rfl, rows_same⟩, ⟨rfl, rfl, rows_same⟩, ⟨rfl, rfl, rows_same⟩, ⟨rfl, rfl, rows_same⟩, trivial⟩, ⟨rfl, rfl⟩, ⟨rfl, rfl⟩, ⟨rfl, rfl⟩, ⟨rfl, rfl⟩, rfl, ⟨rfl, rfl⟩, ⟨rfl, rfl⟩, ⟨rfl, rfl⟩, ⟨rfl, rfl⟩, rfl, trivial⟩
def laws_FnExactDivideOrdinals_p8 (k : Nat) (a1 : Rw) (a2 : Rw) (o23 : Rw) (o24 : Rw) (o25 : Rw) (v28 : Bool) : Option Bool :=
  (cond v28 ((laws_toOrdinal k a2).bind fun y521 => (laws_FnExactDivideOrdinals_p9 k a1 a2 o23 o24 o25 y521 true)) ((laws_toOrdinal k a2).bind fun y519 => (laws_FnExactDivideOrdinals_p9 k a1 a2 o23 o24 o25 y519 false)))
set_option maxHeartbeats 4000000 in
set_option maxRecDepth 100000 in
theorem laws_FnExactDivideOrdinals_p8_ct {k : Nat} {a1 : Rw} {a2 : Rw} {o23 : Rw} {o24 : Rw} {o25 : Rw} {v28 : Bool} {r : Bool} (h : laws_FnExactDivideOrdinals_p8 k a1 a2 o23 o24 o25 v28 = some r) : X prog 0 (tlF f7 8) (mk 156 [(2, .ptr 128 0), (3, .ptr 192 0), (6, .ptr 384 0), (7, .ptr 448 0), (8, .d (D.bool v28)), (9, .ptr 576 0)] [(128, .box 36 [.d (D.sl a1)]), (192, .box 36 [.d (D.sl a2)]), (384, .box 26 [.os 1104000 o23.length]), (448, .box 26 [.os 1104001 o24.length]), (576, .box 26 [.os 1104002 o25.length]), (1104000, .arr 98 true o23), (1104001, .arr 98 true o24), (1104002, .arr 98 true o25)]) (finK prog f7 0 (.d (D.bool r)) (⟨[], []⟩)) := by
  rw [laws_FnExactDivideOrdinals_p8] at h
  cases v28
  · replace h := condF h
    conv => whnf
    obtain ⟨y519, e520, h⟩ := bind_ex h
    refine CallOk.of (laws_toOrdinal_ct e520) ?_
    conv => whnf
    exact CutK.piece (laws_FnExactDivideOrdinals_p9_ct  h) [some 128, some 192, some 384, some 448, some 576, some 640, some 1104000, some 1104001, some 1104002, some 2688] [] ⟨⟨rfl, rfl⟩, ⟨rfl, ⟨rfl, rfl, trivial⟩, ⟨rfl, rfl, trivial⟩, ⟨rfl, ⟨rfl, rfl⟩, trivial⟩, ⟨rfl, ⟨rfl, rfl⟩, trivial⟩, ⟨rfl, ⟨rfl, rfl⟩, trivial⟩, ⟨rfl, ⟨rfl, rfl⟩, trivial⟩, ⟨rfl, rfl, rows_same⟩, ⟨rfl, rfl, rows_same⟩, ⟨rfl, rfl, rows_same⟩, ⟨rfl, rfl, rows_same⟩, trivial⟩, ⟨rfl, rfl⟩, ⟨rfl, rfl⟩, ⟨rfl, rfl⟩, ⟨rfl, rfl⟩, rfl, ⟨rfl, rfl⟩, ⟨rfl, rfl⟩, trivial⟩
  · replace h := condT h
    conv => whnf
    obtain ⟨y521, e522, h⟩ := bind_ex h
    refine CallOk.of (laws_toOrdinal_ct e522) ?_
    conv => whnf
    exact CutK.piece (laws_FnExactDivideOrdinals_p9_ct  h) [some 128, some 192, some 384, some 448, some 576, some 640, some 1104000, some 1104001, some 1104002, some 2688] [] ⟨⟨rfl, rfl⟩, ⟨rfl, ⟨rfl, rfl, trivial⟩, ⟨rfl, rfl, trivial⟩, ⟨rfl, ⟨rfl, rfl⟩, trivial⟩, ⟨rfl, ⟨rfl, rfl⟩, trivial⟩, ⟨rfl, ⟨rfl, rfl⟩, trivial⟩, ⟨rfl, ⟨rfl, rfl⟩, trivial⟩, ⟨rfl, rfl, rows_same⟩, ⟨rfl, rfl, rows_same⟩, ⟨rfl, rfl, rows_same⟩, ⟨rfl, rfl, rows_same⟩, trivial⟩, ⟨rfl, rfl⟩, ⟨rfl, rfl⟩, ⟨rfl, rfl⟩, ⟨rfl, rfl⟩, rfl, ⟨rfl, rfl⟩, ⟨rfl, rfl⟩, trivial⟩
def laws_FnExactDivideOrdinals_p7 (k : Nat) (a1 : Rw) (a2 : Rw) (o18 : Rw) (o19 : Rw) (v20 : Bool) : Option Bool :=
  (cond v20 ((laws_toOrdinal k a1).bind fun y525 => (laws_FnExactDivideOrdinals_p8 k a1 a2 o18 o19 y525 true)) ((laws_toOrdinal k a1).bind fun y523 => (laws_FnExactDivideOrdinals_p8 k a1 a2 o18 o19 y523 false)))
set_option maxHeartbeats 4000000 in
set_option maxRecDepth 100000 in
theorem laws_FnExactDivideOrdinals_p7_ct {k : Nat} {a1 : Rw} {a2 : Rw} {o18 : Rw} {o19 : Rw} {v20 : Bool} {r : Bool} (h : laws_FnExactDivideOrdinals_p7 k a1 a2 o18 o19 v20 = some r) : X prog 0 (tlF f7 7) (mk 156 [(2, .ptr 128 0), (3, .ptr 192 0), (6, .ptr 384 0), (7, .ptr 448 0), (8, .d (D.bool v20))] [(128, .box 36 [.d (D.sl a1)]), (192, .box 36 [.d (D.sl a2)]), (384, .box 26 [.os 1099000 o18.length]), (448, .box 26 [.os 1099001 o19.length]), (1099000, .arr 98 true o18), (1099001, .arr 98 true o19)]) (finK prog f7 0 (.d (D.bool r)) (⟨[], []⟩)) := by
  rw [laws_FnExactDivideOrdinals_p7] at h
  cases v20
  · replace h := condF h
    conv => whnf
    obtain ⟨y523, e524, h⟩ := bind_ex h
    refine CallOk.of (laws_toOrdinal_ct e524) ?_
    conv => whnf
    exact CutK.piece (laws_FnExactDivideOrdinals_p8_ct  h) [some 128, some 192, some 384, some 448, some 576, some 1099000, some 1099001, some 2560] [] ⟨⟨rfl, rfl⟩, ⟨rfl, ⟨rfl, rfl, trivial⟩, ⟨rfl, rfl, trivial⟩, ⟨rfl, ⟨rfl, rfl⟩, trivial⟩, ⟨rfl, ⟨rfl, rfl⟩, trivial⟩, ⟨rfl, ⟨rfl, rfl⟩, trivial⟩, ⟨rfl, rfl, rows_same⟩, ⟨rfl, rfl, rows_same⟩, ⟨rfl, rfl, rows_same⟩, trivial⟩, ⟨rfl, rfl⟩, ⟨rfl, rfl⟩, ⟨rfl, rfl⟩, ⟨rfl, rfl⟩, rfl, ⟨rfl, rfl⟩, trivial⟩
  · replace h := condT h
    conv => whnf
    obtain ⟨y525, e526, h⟩ := bind_ex h
    refine CallOk.of (laws_toOrdinal_ct e526) ?_
    conv => whnf
    exact CutK.piece (laws_FnExactDivideOrdinals_p8_ct  h) [some 128, some 192, some 384, some 448, some 576, some 1099000, some 1099001, some 2560] [] ⟨⟨rfl, rfl⟩, ⟨rfl, ⟨rfl, rfl, trivial⟩, ⟨rfl, rfl, trivial⟩, ⟨rfl, ⟨rfl, rfl⟩, trivial⟩, ⟨rfl, ⟨rfl, rfl⟩, trivial⟩, ⟨rfl, ⟨rfl, rfl⟩, trivial⟩, ⟨rfl, rfl, rows_same⟩, ⟨rfl, rfl, rows_same⟩, ⟨rfl, rfl, rows_same⟩, trivial⟩, ⟨rfl, rfl⟩, ⟨rfl, rfl⟩, ⟨rfl, rfl⟩, ⟨rfl, rfl⟩, rfl, ⟨rfl, rfl⟩, trivial⟩
def laws_FnExactDivideOrdinals_p5 (k : Nat) (a1 : Rw) (a2 : Rw) (o9 : Int) : Option Bool :=
  (if o9 < (0 : Int) then some true else ((laws_toOrdinal k a1).bind fun y528 => ((laws_toOrdinal k a2).bind fun y530 => ((spec_DivideOrdinals k y528 y530).bind fun y532 => (if y532.2.2 = true then (laws_FnExactDivideOrdinals_p7 k a1 a2 y532.1 y532.2.1 true) else (laws_FnExactDivideOrdinals_p7 k a1 a2 y532.1 y532.2.1 false))))))
set_option maxHeartbeats 4000000 in
set_option maxRecDepth 100000 in
theorem laws_FnExactDivideOrdinals_p5_ct {k : Nat} {a1 : Rw} {a2 : Rw} {o9 : Int} {r : Bool} (h : laws_FnExactDivideOrdinals_p5 k a1 a2 o9 = some r) : X prog 0 (tlF f7 5) (mk 156 [(2, .ptr 128 0), (3, .ptr 192 0), (5, .d (D.int .i64 o9))] [(128, .box 36 [.d (D.sl a1)]), (192, .box 36 [.d (D.sl a2)])]) (finK prog f7 0 (.d (D.bool r)) (⟨[], []⟩)) := by
  rw [laws_FnExactDivideOrdinals_p5] at h
  conv => whnf
  refine splD (fun g527 => ?_) (fun g527 => ?_)
  · replace h := iteP h g527
    conv => whnf
    cases h
    exact Done.of [] [] rfl rfl ⟨⟨rfl, rfl⟩, ⟨rfl, trivial⟩, rfl, trivial⟩
  · replace h := iteN h g527
    conv => whnf
    obtain ⟨y528, e529, h⟩ := bind_ex h
    refine CallOk.of (laws_toOrdinal_ct e529) ?_
    conv => whnf
    obtain ⟨y530, e531, h⟩ := bind_ex h
    refine CallOk.of (laws_toOrdinal_ct e531) ?_
    conv => whnf
    refine Take.all (rfl) ?_
    conv => whnf
    refine Take.all (rfl) ?_
    conv => whnf
    obtain ⟨y532, e533, h⟩ := bind_ex h
    refine CallOk.of (spec_DivideOrdinals_ct e533) ?_
    conv => whnf
    refine spl (fun g534 => ?_) (fun g534 => ?_)
    · replace h := iteT h g534
      conv => whnf
      exact CutK.piece (laws_FnExactDivideOrdinals_p7_ct  h) [some 128, some 192, some 384, some 448, some 2240, some 2241] [] ⟨⟨rfl, rfl⟩, ⟨rfl, ⟨rfl, rfl, trivial⟩, ⟨rfl, rfl, trivial⟩, ⟨rfl, ⟨rfl, rfl⟩, trivial⟩, ⟨rfl, ⟨rfl, rfl⟩, trivial⟩, ⟨rfl, rfl, rows_same⟩, ⟨rfl, rfl, rows_same⟩, trivial⟩, ⟨rfl, rfl⟩, ⟨rfl, rfl⟩, ⟨rfl, rfl⟩, ⟨rfl, rfl⟩, rfl, trivial⟩
    · replace h := iteF h g534
      conv => whnf
      exact CutK.piece (laws_FnExactDivideOrdinals_p7_ct  h) [some 128, some 192, some 384, some 448, some 2240, some 2241] [] ⟨⟨rfl, rfl⟩, ⟨rfl, ⟨rfl, rfl, trivial⟩, ⟨rfl, rfl, trivial⟩, ⟨rfl, ⟨rfl, rfl⟩, trivial⟩, ⟨rfl, ⟨rfl, rfl⟩, trivial⟩, ⟨rfl, rfl, rows_same⟩, ⟨rfl, rfl, rows_same⟩, trivial⟩, ⟨rfl, rfl⟩, ⟨rfl, rfl⟩, ⟨rfl, rfl⟩, ⟨rfl, rfl⟩, rfl, trivial⟩
def laws_FnExactDivideOrdinals_p3 (k : Nat) (a1 : Rw) (a2 : Rw) (o5 : Int) : Option Bool :=
  (if o5 < (0 : Int) then some true else ((laws_szOrdinal k a2 o5).bind fun y536 => (laws_FnExactDivideOrdinals_p5 k a1 a2 y536)))
set_option maxHeartbeats 4000000 in
set_option maxRecDepth 100000 in
theorem laws_FnExactDivideOrdinals_p3_ct {k : Nat} {a1 : Rw} {a2 : Rw} {o5 : Int} {r : Bool} (h : laws_FnExactDivideOrdinals_p3 k a1 a2 o5 = some r) : X prog 0 (tlF f7 3) (mk 156 [(2, .ptr 128 0), (3, .ptr 192 0), (5, .d (D.int .i64 o5))] [(128, .box 36 [.d (D.sl a1)]), (192, .box 36 [.d (D.sl a2)])]) (finK prog f7 0 (.d (D.bool r)) (⟨[], []⟩)) := by
  rw [laws_FnExactDivideOrdinals_p3] at h
  conv => whnf
  refine splD (fun g535 => ?_) (fun g535 => ?_)
  · replace h := iteP h g535
    conv => whnf
    cases h
    exact Done.of [] [] rfl rfl ⟨⟨rfl, rfl⟩, ⟨rfl, trivial⟩, rfl, trivial⟩
  · replace h := iteN h g535
    conv => whnf
    obtain ⟨y536, e537, h⟩ := bind_ex h
    refine CallOk.of (laws_szOrdinal_ct e537) ?_
    conv => whnf
    exact CutK.piece (laws_FnExactDivideOrdinals_p5_ct  h) [some 128, some 192] [] ⟨⟨rfl, rfl⟩, ⟨rfl, ⟨rfl, rfl, trivial⟩, ⟨rfl, rfl, trivial⟩, trivial⟩, ⟨rfl, rfl⟩, ⟨rfl, rfl⟩, rfl, trivial⟩
def laws_FnExactDivideOrdinals (k : Nat) (a1 : Rw) (a2 : Rw) : Option Bool :=
  ((laws_szOrdinal k a1 1048576).bind fun y538 => (laws_FnExactDivideOrdinals_p3 k a1 a2 y538))
set_option maxHeartbeats 4000000 in
set_option maxRecDepth 100000 in
theorem laws_FnExactDivideOrdinals_ct {k : Nat} {a1 : Rw} {a2 : Rw} {r : Bool} (h : laws_FnExactDivideOrdinals k a1 a2 = some r) : Ct prog 7 [.agg [.d (D.sl a1)], .agg [.d (D.sl a2)]] (⟨[], []⟩) (.d (D.bool r)) (⟨[], []⟩) := by
  rw [laws_FnExactDivideOrdinals] at h
  refine Ct.of (c := _) mixed func7 ⟨rfl, rfl, rfl⟩ ?_ rfl
  conv => whnf
  obtain ⟨y538, e539, h⟩ := bind_ex h
  refine CallOk.of (laws_szOrdinal_ct e539) ?_
  conv => whnf
  exact CutK.piece (laws_FnExactDivideOrdinals_p3_ct  h) [some 128, some 192] [] ⟨⟨rfl, rfl⟩, ⟨rfl, ⟨rfl, rfl, trivial⟩, ⟨rfl, rfl, trivial⟩, trivial⟩, ⟨rfl, rfl⟩, ⟨rfl, rfl⟩, rfl, trivial⟩
end
end Go.Proofs.Try
