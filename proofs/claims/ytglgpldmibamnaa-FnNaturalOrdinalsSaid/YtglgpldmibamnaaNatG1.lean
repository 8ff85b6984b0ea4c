/- Printed by program (axgen): pure functions, and that the Go functions compute them. -/
import Derived.Test.YtglgpldmibamnaaNatG0
set_option linter.unusedVariables false
set_option linter.unusedSimpArgs false
namespace Go.Proofs.Try
open Go Go.AX
noncomputable section
def laws_FnNaturalOrdinals_p15  : Option Bool :=
  some true
set_option maxHeartbeats 4000000 in
set_option maxRecDepth 100000 in
theorem laws_FnNaturalOrdinals_p15_ct  {r : Bool} (h : laws_FnNaturalOrdinals_p15 = some r) : X prog 0 (tlF f3 15) (mk 155 [] []) (finK prog f3 0 (.d (D.bool r)) (⟨[], []⟩)) := by
  rw [laws_FnNaturalOrdinals_p15] at h
  conv => whnf
  cases h
  exact Done.of [] [] rfl rfl ⟨⟨rfl, rfl⟩, ⟨rfl, trivial⟩, rfl, trivial⟩
def laws_FnNaturalOrdinals_p14 (k : Nat) (o256 : Rw) (o257 : Rw) (v258 : Bool) (v262 : Bool) : Option Bool :=
  (cond v258 (cond v262 ((impl_CompareOrdinals k o257 o256).bind fun y267 => (if y267.2 = true then (if (0 : Int) < y267.1 then some false else (laws_FnNaturalOrdinals_p15)) else some false)) (laws_FnNaturalOrdinals_p15)) (cond v262 (laws_FnNaturalOrdinals_p15) (laws_FnNaturalOrdinals_p15)))
set_option maxHeartbeats 4000000 in
set_option maxRecDepth 100000 in
theorem laws_FnNaturalOrdinals_p14_ct {k : Nat} {o256 : Rw} {o257 : Rw} {v258 : Bool} {v262 : Bool} {r : Bool} (h : laws_FnNaturalOrdinals_p14 k o256 o257 v258 v262 = some r) : X prog 0 (tlF f3 14) (mk 155 [(11, .ptr 704 0), (12, .d (D.bool v262)), (23, .ptr 1472 0), (24, .d (D.bool v258))] [(704, .box 26 [.os 1134000 o256.length]), (1472, .box 26 [.os 1134001 o257.length]), (1134000, .arr 98 true o256), (1134001, .arr 98 true o257)]) (finK prog f3 0 (.d (D.bool r)) (⟨[], []⟩)) := by
  rw [laws_FnNaturalOrdinals_p14] at h
  cases v258
  · replace h := condF h
    cases v262
    · replace h := condF h
      conv => whnf
      exact CutK.piece (laws_FnNaturalOrdinals_p15_ct  h) [] [] ⟨⟨rfl, rfl⟩, ⟨rfl, trivial⟩, trivial⟩
    · replace h := condT h
      conv => whnf
      exact CutK.piece (laws_FnNaturalOrdinals_p15_ct  h) [] [] ⟨⟨rfl, rfl⟩, ⟨rfl, trivial⟩, trivial⟩
  · replace h := condT h
    cases v262
    · replace h := condF h
      conv => whnf
      exact CutK.piece (laws_FnNaturalOrdinals_p15_ct  h) [] [] ⟨⟨rfl, rfl⟩, ⟨rfl, trivial⟩, trivial⟩
    · replace h := condT h
      conv => whnf
      refine Take.all (rfl) ?_
      conv => whnf
      refine Take.all (rfl) ?_
      conv => whnf
      obtain ⟨y267, e268, h⟩ := bind_ex h
      refine CallOk.of (impl_CompareOrdinals_ct e268) ?_
      conv => whnf
      refine spl (fun g269 => ?_) (fun g269 => ?_)
      · replace h := iteT h g269
        conv => whnf
        refine CutK.norm [25, 26] [] ?_
        conv => whnf
        refine splD (fun g270 => ?_) (fun g270 => ?_)
        · replace h := iteP h g270
          conv => whnf
          cases h
          exact Done.of [] [] rfl rfl ⟨⟨rfl, rfl⟩, ⟨rfl, trivial⟩, rfl, trivial⟩
        · replace h := iteN h g270
          conv => whnf
          exact CutK.piece (laws_FnNaturalOrdinals_p15_ct  h) [] [] ⟨⟨rfl, rfl⟩, ⟨rfl, trivial⟩, trivial⟩
      · replace h := iteF h g269
        conv => whnf
        refine CutK.norm [25, 26] [] ?_
        conv => whnf
        cases h
        exact Done.of [] [] rfl rfl ⟨⟨rfl, rfl⟩, ⟨rfl, trivial⟩, rfl, trivial⟩
def laws_FnNaturalOrdinals_p13 (k : Nat) (o241 : Rw) (o242 : Rw) (o243 : Rw) (v244 : Bool) : Option Bool :=
  (cond v244 ((impl_MultiplyOrdinals k o241 o242).bind fun y274 => (if y274.2 = true then (laws_FnNaturalOrdinals_p14 k o243 y274.1 true true) else (laws_FnNaturalOrdinals_p14 k o243 y274.1 false true))) ((impl_MultiplyOrdinals k o241 o242).bind fun y271 => (if y271.2 = true then (laws_FnNaturalOrdinals_p14 k o243 y271.1 true false) else (laws_FnNaturalOrdinals_p14 k o243 y271.1 false false))))
set_option maxHeartbeats 4000000 in
set_option maxRecDepth 100000 in
theorem laws_FnNaturalOrdinals_p13_ct {k : Nat} {o241 : Rw} {o242 : Rw} {o243 : Rw} {v244 : Bool} {r : Bool} (h : laws_FnNaturalOrdinals_p13 k o241 o242 o243 v244 = some r) : X prog 0 (tlF f3 13) (mk 155 [(5, .ptr 320 0), (6, .ptr 384 0), (11, .ptr 704 0), (12, .d (D.bool v244))] [(320, .box 26 [.os 1129000 o241.length]), (384, .box 26 [.d (D.sl o242)]), (704, .box 26 [.os 1129001 o243.length]), (1129000, .arr 98 false o241), (1129001, .arr 98 true o243)]) (finK prog f3 0 (.d (D.bool r)) (⟨[], []⟩)) := by
  rw [laws_FnNaturalOrdinals_p13] at h
  cases v244
  · replace h := condF h
    conv => whnf
    refine Take.all (rfl) ?_
    conv => whnf
    obtain ⟨y271, e272, h⟩ := bind_ex h
    refine CallOk.of (impl_MultiplyOrdinals_ct e272) ?_
    conv => whnf
    refine spl (fun g273 => ?_) (fun g273 => ?_)
    · replace h := iteT h g273
      conv => whnf
      exact CutK.piece (laws_FnNaturalOrdinals_p14_ct  h) [some 704, some 1472, some 1129001, some 8704] [] ⟨⟨rfl, rfl⟩, ⟨rfl, ⟨rfl, ⟨rfl, rfl⟩, trivial⟩, ⟨rfl, ⟨rfl, rfl⟩, trivial⟩, ⟨rfl, rfl, rows_same⟩, ⟨rfl, rfl, rows_same⟩, trivial⟩, ⟨rfl, rfl⟩, rfl, ⟨rfl, rfl⟩, rfl, trivial⟩
    · replace h := iteF h g273
      conv => whnf
      exact CutK.piece (laws_FnNaturalOrdinals_p14_ct  h) [some 704, some 1472, some 1129001, some 8704] [] ⟨⟨rfl, rfl⟩, ⟨rfl, ⟨rfl, ⟨rfl, rfl⟩, trivial⟩, ⟨rfl, ⟨rfl, rfl⟩, trivial⟩, ⟨rfl, rfl, rows_same⟩, ⟨rfl, rfl, rows_same⟩, trivial⟩, ⟨rfl, rfl⟩, rfl, ⟨rfl, rfl⟩, rfl, trivial⟩
  · replace h := condT h
    conv => whnf
    refine Take.all (rfl) ?_
    conv => whnf
    obtain ⟨y274, e275, h⟩ := bind_ex h
    refine CallOk.of (impl_MultiplyOrdinals_ct e275) ?_
    conv => whnf
    refine spl (fun g276 => ?_) (fun g276 => ?_)
    · replace h := iteT h g276
      conv => whnf
      exact CutK.piece (laws_FnNaturalOrdinals_p14_ct  h) [some 704, some 1472, some 1129001, some 8704] [] ⟨⟨rfl, rfl⟩, ⟨rfl, ⟨rfl, ⟨rfl, rfl⟩, trivial⟩, ⟨rfl, ⟨rfl, rfl⟩, trivial⟩, ⟨rfl, rfl, rows_same⟩, ⟨rfl, rfl, rows_same⟩, trivial⟩, ⟨rfl, rfl⟩, rfl, ⟨rfl, rfl⟩, rfl, trivial⟩
    · replace h := iteF h g276
      conv => whnf
      exact CutK.piece (laws_FnNaturalOrdinals_p14_ct  h) [some 704, some 1472, some 1129001, some 8704] [] ⟨⟨rfl, rfl⟩, ⟨rfl, ⟨rfl, ⟨rfl, rfl⟩, trivial⟩, ⟨rfl, ⟨rfl, rfl⟩, trivial⟩, ⟨rfl, rfl, rows_same⟩, ⟨rfl, rfl, rows_same⟩, trivial⟩, ⟨rfl, rfl⟩, rfl, ⟨rfl, rfl⟩, rfl, trivial⟩
def laws_FnNaturalOrdinals_p12 (k : Nat) (o224 : Rw) (o225 : Rw) (o226 : Rw) (o227 : Rw) (o228 : Rw) (v229 : Bool) (v233 : Bool) (v237 : Bool) : Option Bool :=
  (cond v229 (cond v233 (cond v237 ((impl_CompareOrdinals k o228 o226).bind fun y281 => (if y281.2 = true then (if (0 : Int) < y281.1 then some false else (laws_FnNaturalOrdinals_p13 k o224 o225 o227 true)) else some false)) (laws_FnNaturalOrdinals_p13 k o224 o225 o227 true)) (cond v237 ((impl_CompareOrdinals k o228 o226).bind fun y277 => (if y277.2 = true then (if (0 : Int) < y277.1 then some false else (laws_FnNaturalOrdinals_p13 k o224 o225 o227 false)) else some false)) (laws_FnNaturalOrdinals_p13 k o224 o225 o227 false))) (cond v233 (cond v237 (laws_FnNaturalOrdinals_p13 k o224 o225 o227 true) (laws_FnNaturalOrdinals_p13 k o224 o225 o227 true)) (cond v237 (laws_FnNaturalOrdinals_p13 k o224 o225 o227 false) (laws_FnNaturalOrdinals_p13 k o224 o225 o227 false))))
set_option maxHeartbeats 4000000 in
set_option maxRecDepth 100000 in
theorem laws_FnNaturalOrdinals_p12_ct {k : Nat} {o224 : Rw} {o225 : Rw} {o226 : Rw} {o227 : Rw} {o228 : Rw} {v229 : Bool} {v233 : Bool} {v237 : Bool} {r : Bool} (h : laws_FnNaturalOrdinals_p12 k o224 o225 o226 o227 o228 v229 v233 v237 = some r) : X prog 0 (tlF f3 12) (mk 155 [(5, .ptr 320 0), (6, .ptr 384 0), (7, .ptr 448 0), (8, .d (D.bool v237)), (11, .ptr 704 0), (12, .d (D.bool v233)), (19, .ptr 1216 0), (20, .d (D.bool v229))] [(320, .box 26 [.os 1124000 o224.length]), (384, .box 26 [.d (D.sl o225)]), (448, .box 26 [.os 1124001 o226.length]), (704, .box 26 [.os 1124002 o227.length]), (1216, .box 26 [.os 1124003 o228.length]), (1124000, .arr 98 false o224), (1124001, .arr 98 true o226), (1124002, .arr 98 true o227), (1124003, .arr 98 true o228)]) (finK prog f3 0 (.d (D.bool r)) (⟨[], []⟩)) := by
  rw [laws_FnNaturalOrdinals_p12] at h
  cases v229
  · replace h := condF h
    cases v233
    · replace h := condF h
      cases v237
      · replace h := condF h
        conv => whnf
        exact CutK.piece (laws_FnNaturalOrdinals_p13_ct  h) [some 320, some 384, some 704, some 1124000, some 1124002] [] ⟨⟨rfl, rfl⟩, ⟨rfl, ⟨rfl, ⟨rfl, rfl⟩, trivial⟩, ⟨rfl, rfl, trivial⟩, ⟨rfl, ⟨rfl, rfl⟩, trivial⟩, ⟨rfl, rfl, rows_same⟩, ⟨rfl, rfl, rows_same⟩, trivial⟩, ⟨rfl, rfl⟩, ⟨rfl, rfl⟩, ⟨rfl, rfl⟩, rfl, trivial⟩
      · replace h := condT h
        conv => whnf
        exact CutK.piece (laws_FnNaturalOrdinals_p13_ct  h) [some 320, some 384, some 704, some 1124000, some 1124002] [] ⟨⟨rfl, rfl⟩, ⟨rfl, ⟨rfl, ⟨rfl, rfl⟩, trivial⟩, ⟨rfl, rfl, trivial⟩, ⟨rfl, ⟨rfl, rfl⟩, trivial⟩, ⟨rfl, rfl, rows_same⟩, ⟨rfl, rfl, rows_same⟩, trivial⟩, ⟨rfl, rfl⟩, ⟨rfl, rfl⟩, ⟨rfl, rfl⟩, rfl, trivial⟩
    · replace h := condT h
      cases v237
      · replace h := condF h
        conv => whnf
        exact CutK.piece (laws_FnNaturalOrdinals_p13_ct  h) [some 320, some 384, some 704, some 1124000, some 1124002] [] ⟨⟨rfl, rfl⟩, ⟨rfl, ⟨rfl, ⟨rfl, rfl⟩, trivial⟩, ⟨rfl, rfl, trivial⟩, ⟨rfl, ⟨rfl, rfl⟩, trivial⟩, ⟨rfl, rfl, rows_same⟩, ⟨rfl, rfl, rows_same⟩, trivial⟩, ⟨rfl, rfl⟩, ⟨rfl, rfl⟩, ⟨rfl, rfl⟩, rfl, trivial⟩
      · replace h := condT h
        conv => whnf
        exact CutK.piece (laws_FnNaturalOrdinals_p13_ct  h) [some 320, some 384, some 704, some 1124000, some 1124002] [] ⟨⟨rfl, rfl⟩, ⟨rfl, ⟨rfl, ⟨rfl, rfl⟩, trivial⟩, ⟨rfl, rfl, trivial⟩, ⟨rfl, ⟨rfl, rfl⟩, trivial⟩, ⟨rfl, rfl, rows_same⟩, ⟨rfl, rfl, rows_same⟩, trivial⟩, ⟨rfl, rfl⟩, ⟨rfl, rfl⟩, ⟨rfl, rfl⟩, rfl, trivial⟩
  · replace h := condT h
    cases v233
    · replace h := condF h
      cases v237
      · replace h := condF h
        conv => whnf
        exact CutK.piece (laws_FnNaturalOrdinals_p13_ct  h) [some 320, some 384, some 704, some 1124000, some 1124002] [] ⟨⟨rfl, rfl⟩, ⟨rfl, ⟨rfl, ⟨rfl, rfl⟩, trivial⟩, ⟨rfl, rfl, trivial⟩, ⟨rfl, ⟨rfl, rfl⟩, trivial⟩, ⟨rfl, rfl, rows_same⟩, ⟨rfl, rfl, rows_same⟩, trivial⟩, ⟨rfl, rfl⟩, ⟨rfl, rfl⟩, ⟨rfl, rfl⟩, rfl, trivial⟩
      · replace h := condT h
        conv => whnf
        refine Take.all (rfl) ?_
        conv => whnf
        refine Take.all (rfl) ?_
        conv => whnf
        obtain ⟨y277, e278, h⟩ := bind_ex h
        refine CallOk.of (impl_CompareOrdinals_ct e278) ?_
        conv => whnf
        refine spl (fun g279 => ?_) (fun g279 => ?_)
        · replace h := iteT h g279
          conv => whnf
          refine CutK.norm [5, 6, 11, 12, 21, 22] [320, 384, 704, 1124000, 1124002] ?_
          conv => whnf
          refine splD (fun g280 => ?_) (fun g280 => ?_)
          · replace h := iteP h g280
            conv => whnf
            cases h
            exact Done.of [] [] rfl rfl ⟨⟨rfl, rfl⟩, ⟨rfl, trivial⟩, rfl, trivial⟩
          · replace h := iteN h g280
            conv => whnf
            exact CutK.piece (laws_FnNaturalOrdinals_p13_ct  h) [some 320, some 384, some 704, some 1124000, some 1124002] [] ⟨⟨rfl, rfl⟩, ⟨rfl, ⟨rfl, ⟨rfl, rfl⟩, trivial⟩, ⟨rfl, rfl, trivial⟩, ⟨rfl, ⟨rfl, rfl⟩, trivial⟩, ⟨rfl, rfl, rows_same⟩, ⟨rfl, rfl, rows_same⟩, trivial⟩, ⟨rfl, rfl⟩, ⟨rfl, rfl⟩, ⟨rfl, rfl⟩, rfl, trivial⟩
        · replace h := iteF h g279
          conv => whnf
          refine CutK.norm [5, 6, 11, 12, 21, 22] [320, 384, 704, 1124000, 1124002] ?_
          conv => whnf
          cases h
          exact Done.of [] [] rfl rfl ⟨⟨rfl, rfl⟩, ⟨rfl, trivial⟩, rfl, trivial⟩
    · replace h := condT h
      cases v237
      · replace h := condF h
        conv => whnf
        exact CutK.piece (laws_FnNaturalOrdinals_p13_ct  h) [some 320, some 384, some 704, some 1124000, some 1124002] [] ⟨⟨rfl, rfl⟩, ⟨rfl, ⟨rfl, ⟨rfl, rfl⟩, trivial⟩, ⟨rfl, rfl, trivial⟩, ⟨rfl, ⟨rfl, rfl⟩, trivial⟩, ⟨rfl, rfl, rows_same⟩, ⟨rfl, rfl, rows_same⟩, trivial⟩, ⟨rfl, rfl⟩, ⟨rfl, rfl⟩, ⟨rfl, rfl⟩, rfl, trivial⟩
      · replace h := condT h
        conv => whnf
        refine Take.all (rfl) ?_
        conv => whnf
        refine Take.all (rfl) ?_
        conv => whnf
        obtain ⟨y281, e282, h⟩ := bind_ex h
        refine CallOk.of (impl_CompareOrdinals_ct e282) ?_
        conv => whnf
        refine spl (fun g283 => ?_) (fun g283 => ?_)
        · replace h := iteT h g283
          conv => whnf
          refine CutK.norm [5, 6, 11, 12, 21, 22] [320, 384, 704, 1124000, 1124002] ?_
          conv => whnf
          refine splD (fun g284 => ?_) (fun g284 => ?_)
          · replace h := iteP h g284
            conv => whnf
            cases h
            exact Done.of [] [] rfl rfl ⟨⟨rfl, rfl⟩, ⟨rfl, trivial⟩, rfl, trivial⟩
          · replace h := iteN h g284
            conv => whnf
            exact CutK.piece (laws_FnNaturalOrdinals_p13_ct  h) [some 320, some 384, some 704, some 1124000, some 1124002] [] ⟨⟨rfl, rfl⟩, ⟨rfl, ⟨rfl, ⟨rfl, rfl⟩, trivial⟩, ⟨rfl, rfl, trivial⟩, ⟨rfl, ⟨rfl, rfl⟩, trivial⟩, ⟨rfl, rfl, rows_same⟩, ⟨rfl, rfl, rows_same⟩, trivial⟩, ⟨rfl, rfl⟩, ⟨rfl, rfl⟩, ⟨rfl, rfl⟩, rfl, trivial⟩
        · replace h := iteF h g283
          conv => whnf
          refine CutK.norm [5, 6, 11, 12, 21, 22] [320, 384, 704, 1124000, 1124002] ?_
          conv => whnf
          cases h
          exact Done.of [] [] rfl rfl ⟨⟨rfl, rfl⟩, ⟨rfl, trivial⟩, rfl, trivial⟩
def laws_FnNaturalOrdinals_p11 (k : Nat) (o185 : Rw) (o186 : Rw) (o187 : Rw) (o188 : Rw) (v198 : Bool) (v211 : Bool) : Option Bool :=
  (cond v198 (cond v211 ((impl_AddOrdinals k o185 o186).bind fun y294 => (if y294.2 = true then (laws_FnNaturalOrdinals_p12 k o185 o186 o187 o188 y294.1 true true true) else (laws_FnNaturalOrdinals_p12 k o185 o186 o187 o188 y294.1 false true true))) ((impl_AddOrdinals k o185 o186).bind fun y291 => (if y291.2 = true then (laws_FnNaturalOrdinals_p12 k o185 o186 o187 o188 y291.1 true false true) else (laws_FnNaturalOrdinals_p12 k o185 o186 o187 o188 y291.1 false false true)))) (cond v211 ((impl_AddOrdinals k o185 o186).bind fun y288 => (if y288.2 = true then (laws_FnNaturalOrdinals_p12 k o185 o186 o187 o188 y288.1 true true false) else (laws_FnNaturalOrdinals_p12 k o185 o186 o187 o188 y288.1 false true false))) ((impl_AddOrdinals k o185 o186).bind fun y285 => (if y285.2 = true then (laws_FnNaturalOrdinals_p12 k o185 o186 o187 o188 y285.1 true false false) else (laws_FnNaturalOrdinals_p12 k o185 o186 o187 o188 y285.1 false false false)))))
set_option maxHeartbeats 4000000 in
set_option maxRecDepth 100000 in
theorem laws_FnNaturalOrdinals_p11_ct {k : Nat} {o185 : Rw} {o186 : Rw} {o187 : Rw} {o188 : Rw} {v198 : Bool} {v211 : Bool} {r : Bool} (h : laws_FnNaturalOrdinals_p11 k o185 o186 o187 o188 v198 v211 = some r) : X prog 0 (tlF f3 11) (mk 155 [(5, .ptr 320 0), (6, .ptr 384 0), (7, .ptr 448 0), (8, .d (D.bool v198)), (11, .ptr 704 0), (12, .d (D.bool v211))] [(320, .box 26 [.os 1119000 o185.length]), (384, .box 26 [.d (D.sl o186)]), (448, .box 26 [.os 1119001 o187.length]), (704, .box 26 [.os 1119002 o188.length]), (1119000, .arr 98 false o185), (1119001, .arr 98 true o187), (1119002, .arr 98 true o188)]) (finK prog f3 0 (.d (D.bool r)) (⟨[], []⟩)) := by
  rw [laws_FnNaturalOrdinals_p11] at h
  cases v198
  · replace h := condF h
    cases v211
    · replace h := condF h
      conv => whnf
      refine Take.all (rfl) ?_
      conv => whnf
      obtain ⟨y285, e286, h⟩ := bind_ex h
      refine CallOk.of (impl_AddOrdinals_ct e286) ?_
      conv => whnf
      refine spl (fun g287 => ?_) (fun g287 => ?_)
      · replace h := iteT h g287
        conv => whnf
        exact CutK.piece (laws_FnNaturalOrdinals_p12_ct  h) [some 320, some 384, some 448, some 704, some 1216, some 1119000, some 1119001, some 1119002, some 7296] [] ⟨⟨rfl, rfl⟩, ⟨rfl, ⟨rfl, ⟨rfl, rfl⟩, trivial⟩, ⟨rfl, rfl, trivial⟩, ⟨rfl, ⟨rfl, rfl⟩, trivial⟩, ⟨rfl, ⟨rfl, rfl⟩, trivial⟩, ⟨rfl, ⟨rfl, rfl⟩, trivial⟩, ⟨rfl, rfl, rows_same⟩, ⟨rfl, rfl, rows_same⟩, ⟨rfl, rfl, rows_same⟩, ⟨rfl, rfl, rows_same⟩, trivial⟩, ⟨rfl, rfl⟩, ⟨rfl, rfl⟩, ⟨rfl, rfl⟩, rfl, ⟨rfl, rfl⟩, rfl, ⟨rfl, rfl⟩, rfl, trivial⟩
      · replace h := iteF h g287
        conv => whnf
        exact CutK.piece (laws_FnNaturalOrdinals_p12_ct  h) [some 320, some 384, some 448, some 704, some 1216, some 1119000, some 1119001, some 1119002, some 7296] [] ⟨⟨rfl, rfl⟩, ⟨rfl, ⟨rfl, ⟨rfl, rfl⟩, trivial⟩, ⟨rfl, rfl, trivial⟩, ⟨rfl, ⟨rfl, rfl⟩, trivial⟩, ⟨rfl, ⟨rfl, rfl⟩, trivial⟩, ⟨rfl, ⟨rfl, rfl⟩, trivial⟩, ⟨rfl, rfl, rows_same⟩, ⟨rfl, rfl, rows_same⟩, ⟨rfl, rfl, rows_same⟩, ⟨rfl, rfl, rows_same⟩, trivial⟩, ⟨rfl, rfl⟩, ⟨rfl, rfl⟩, ⟨rfl, rfl⟩, rfl, ⟨rfl, rfl⟩, rfl, ⟨rfl, rfl⟩, rfl, trivial⟩
    · replace h := condT h
      conv => whnf
      refine Take.all (rfl) ?_
      conv => whnf
      obtain ⟨y288, e289, h⟩ := bind_ex h
      refine CallOk.of (impl_AddOrdinals_ct e289) ?_
      conv => whnf
      refine spl (fun g290 => ?_) (fun g290 => ?_)
      · replace h := iteT h g290
        conv => whnf
        exact CutK.piece (laws_FnNaturalOrdinals_p12_ct  h) [some 320, some 384, some 448, some 704, some 1216, some 1119000, some 1119001, some 1119002, some 7296] [] ⟨⟨rfl, rfl⟩, ⟨rfl, ⟨rfl, ⟨rfl, rfl⟩, trivial⟩, ⟨rfl, rfl, trivial⟩, ⟨rfl, ⟨rfl, rfl⟩, trivial⟩, ⟨rfl, ⟨rfl, rfl⟩, trivial⟩, ⟨rfl, ⟨rfl, rfl⟩, trivial⟩, ⟨rfl, rfl, rows_same⟩, ⟨rfl, rfl, rows_same⟩, ⟨rfl, rfl, rows_same⟩, ⟨rfl, rfl, rows_same⟩, trivial⟩, ⟨rfl, rfl⟩, ⟨rfl, rfl⟩, ⟨rfl, rfl⟩, rfl, ⟨rfl, rfl⟩, rfl, ⟨rfl, rfl⟩, rfl, trivial⟩
      · replace h := iteF h g290
        conv => whnf
        exact CutK.piece (laws_FnNaturalOrdinals_p12_ct  h) [some 320, some 384, some 448, some 704, some 1216, some 1119000, some 1119001, some 1119002, some 7296] [] ⟨⟨rfl, rfl⟩, ⟨rfl, ⟨rfl, ⟨rfl, rfl⟩, trivial⟩, ⟨rfl, rfl, trivial⟩, ⟨rfl, ⟨rfl, rfl⟩, trivial⟩, ⟨rfl, ⟨rfl, rfl⟩, trivial⟩, ⟨rfl, ⟨rfl, rfl⟩, trivial⟩, ⟨rfl, rfl, rows_same⟩, ⟨rfl, rfl, rows_same⟩, ⟨rfl, rfl, rows_same⟩, ⟨rfl, rfl, rows_same⟩, trivial⟩, ⟨rfl, rfl⟩, ⟨rfl, rfl⟩, ⟨rfl, rfl⟩, rfl, ⟨rfl, rfl⟩, rfl, ⟨rfl, rfl⟩, rfl, trivial⟩
  · replace h := condT h
    cases v211
    · replace h := condF h
      conv => whnf
      refine Take.all (rfl) ?_
      conv => whnf
      obtain ⟨y291, e292, h⟩ := bind_ex h
      refine CallOk.of (impl_AddOrdinals_ct e292) ?_
      conv => whnf
      refine spl (fun g293 => ?_) (fun g293 => ?_)
      · replace h := iteT h g293
        conv => whnf
        exact CutK.piece (laws_FnNaturalOrdinals_p12_ct  h) [some 320, some 384, some 448, some 704, some 1216, some 1119000, some 1119001, some 1119002, some 7296] [] ⟨⟨rfl, rfl⟩, ⟨rfl, ⟨rfl, ⟨rfl, rfl⟩, trivial⟩, ⟨rfl, rfl, trivial⟩, ⟨rfl, ⟨rfl, rfl⟩, trivial⟩, ⟨rfl, ⟨rfl, rfl⟩, trivial⟩, ⟨rfl, ⟨rfl, rfl⟩, trivial⟩, ⟨rfl, rfl, rows_same⟩, ⟨rfl, rfl, rows_same⟩, ⟨rfl, rfl, rows_same⟩, ⟨rfl, rfl, rows_same⟩, trivial⟩, ⟨rfl, rfl⟩, ⟨rfl, rfl⟩, ⟨rfl, rfl⟩, rfl, ⟨rfl, rfl⟩, rfl, ⟨rfl, rfl⟩, rfl, trivial⟩
      · replace h := iteF h g293
        conv => whnf
        exact CutK.piece (laws_FnNaturalOrdinals_p12_ct  h) [some 320, some 384, some 448, some 704, some 1216, some 1119000, some 1119001, some 1119002, some 7296] [] ⟨⟨rfl, rfl⟩, ⟨rfl, ⟨rfl, ⟨rfl, rfl⟩, trivial⟩, ⟨rfl, rfl, trivial⟩, ⟨rfl, ⟨rfl, rfl⟩, trivial⟩, ⟨rfl, ⟨rfl, rfl⟩, trivial⟩, ⟨rfl, ⟨rfl, rfl⟩, trivial⟩, ⟨rfl, rfl, rows_same⟩, ⟨rfl, rfl, rows_same⟩, ⟨rfl, rfl, rows_same⟩, ⟨rfl, rfl, rows_same⟩, trivial⟩, ⟨rfl, rfl⟩, ⟨rfl, rfl⟩, ⟨rfl, rfl⟩, rfl, ⟨rfl, rfl⟩, rfl, ⟨rfl, rfl⟩, rfl, trivial⟩
    · replace h := condT h
      conv => whnf
      refine Take.all (rfl) ?_
      conv => whnf
      obtain ⟨y294, e295, h⟩ := bind_ex h
      refine CallOk.of (impl_AddOrdinals_ct e295) ?_
      conv => whnf
      refine spl (fun g296 => ?_) (fun g296 => ?_)
      · replace h := iteT h g296
        conv => whnf
        exact CutK.piece (laws_FnNaturalOrdinals_p12_ct  h) [some 320, some 384, some 448, some 704, some 1216, some 1119000, some 1119001, some 1119002, some 7296] [] ⟨⟨rfl, rfl⟩, ⟨rfl, ⟨rfl, ⟨rfl, rfl⟩, trivial⟩, ⟨rfl, rfl, trivial⟩, ⟨rfl, ⟨rfl, rfl⟩, trivial⟩, ⟨rfl, ⟨rfl, rfl⟩, trivial⟩, ⟨rfl, ⟨rfl, rfl⟩, trivial⟩, ⟨rfl, rfl, rows_same⟩, ⟨rfl, rfl, rows_same⟩, ⟨rfl, rfl, rows_same⟩, ⟨rfl, rfl, rows_same⟩, trivial⟩, ⟨rfl, rfl⟩, ⟨rfl, rfl⟩, ⟨rfl, rfl⟩, rfl, ⟨rfl, rfl⟩, rfl, ⟨rfl, rfl⟩, rfl, trivial⟩
      · replace h := iteF h g296
        conv => whnf
        exact CutK.piece (laws_FnNaturalOrdinals_p12_ct  h) [some 320, some 384, some 448, some 704, some 1216, some 1119000, some 1119001, some 1119002, some 7296] [] ⟨⟨rfl, rfl⟩, ⟨rfl, ⟨rfl, ⟨rfl, rfl⟩, trivial⟩, ⟨rfl, rfl, trivial⟩, ⟨rfl, ⟨rfl, rfl⟩, trivial⟩, ⟨rfl, ⟨rfl, rfl⟩, trivial⟩, ⟨rfl, ⟨rfl, rfl⟩, trivial⟩, ⟨rfl, rfl, rows_same⟩, ⟨rfl, rfl, rows_same⟩, ⟨rfl, rfl, rows_same⟩, ⟨rfl, rfl, rows_same⟩, trivial⟩, ⟨rfl, rfl⟩, ⟨rfl, rfl⟩, ⟨rfl, rfl⟩, rfl, ⟨rfl, rfl⟩, rfl, ⟨rfl, rfl⟩, rfl, trivial⟩
def laws_FnNaturalOrdinals_p10 (k : Nat) (o148 : Rw) (o149 : Rw) (o150 : Rw) (o151 : Rw) (o152 : Rw) (o153 : Rw) (v154 : Bool) (v158 : Bool) (v162 : Bool) (v169 : Bool) : Option Bool :=
  (cond v154 (cond v158 (cond v162 (cond v169 ((laws_sameOrdinal k o150 o152).bind fun y327 => (if y327 = true then ((laws_sameOrdinal k o151 o153).bind fun y330 => (if y330 = true then (laws_FnNaturalOrdinals_p11 k o148 o149 o150 o151 true true) else some false)) else some false)) (some false)) (cond v169 ((laws_sameOrdinal k o150 o152).bind fun y324 => (if y324 = true then some false else some false)) (some false))) (cond v162 (cond v169 (some false) ((laws_sameOrdinal k o150 o152).bind fun y318 => (if y318 = true then ((laws_sameOrdinal k o151 o153).bind fun y321 => (if y321 = true then (laws_FnNaturalOrdinals_p11 k o148 o149 o150 o151 false true) else some false)) else some false))) (cond v169 (some false) ((laws_sameOrdinal k o150 o152).bind fun y315 => (if y315 = true then some false else some false))))) (cond v158 (cond v162 (cond v169 ((laws_sameOrdinal k o150 o152).bind fun y312 => (if y312 = true then some false else some false)) (some false)) (cond v169 ((laws_sameOrdinal k o150 o152).bind fun y306 => (if y306 = true then ((laws_sameOrdinal k o151 o153).bind fun y309 => (if y309 = true then (laws_FnNaturalOrdinals_p11 k o148 o149 o150 o151 true false) else some false)) else some false)) (some false))) (cond v162 (cond v169 (some false) ((laws_sameOrdinal k o150 o152).bind fun y303 => (if y303 = true then some false else some false))) (cond v169 (some false) ((laws_sameOrdinal k o150 o152).bind fun y297 => (if y297 = true then ((laws_sameOrdinal k o151 o153).bind fun y300 => (if y300 = true then (laws_FnNaturalOrdinals_p11 k o148 o149 o150 o151 false false) else some false)) else some false))))))
set_option maxHeartbeats 4000000 in
set_option maxRecDepth 100000 in
theorem laws_FnNaturalOrdinals_p10_ct {k : Nat} {o148 : Rw} {o149 : Rw} {o150 : Rw} {o151 : Rw} {o152 : Rw} {o153 : Rw} {v154 : Bool} {v158 : Bool} {v162 : Bool} {v169 : Bool} {r : Bool} (h : laws_FnNaturalOrdinals_p10 k o148 o149 o150 o151 o152 o153 v154 v158 v162 v169 = some r) : X prog 0 (tlF f3 10) (mk 155 [(5, .ptr 320 0), (6, .ptr 384 0), (7, .ptr 448 0), (8, .d (D.bool v158)), (11, .ptr 704 0), (12, .d (D.bool v162)), (15, .ptr 960 0), (16, .d (D.bool v169)), (17, .ptr 1088 0), (18, .d (D.bool v154))] [(320, .box 26 [.os 1114000 o148.length]), (384, .box 26 [.d (D.sl o149)]), (448, .box 26 [.os 1114001 o150.length]), (704, .box 26 [.os 1114002 o151.length]), (960, .box 26 [.os 1114003 o152.length]), (1088, .box 26 [.os 1114004 o153.length]), (1114000, .arr 98 false o148), (1114001, .arr 98 true o150), (1114002, .arr 98 true o151), (1114003, .arr 98 true o152), (1114004, .arr 98 true o153)]) (finK prog f3 0 (.d (D.bool r)) (⟨[], []⟩)) := by
  rw [laws_FnNaturalOrdinals_p10] at h
  cases v154
  · replace h := condF h
    cases v158
    · replace h := condF h
      cases v162
      · replace h := condF h
        cases v169
        · replace h := condF h
          conv => whnf
          refine splF ?_
          conv => whnf
          refine Take.all (rfl) ?_
          conv => whnf
          refine Take.all (rfl) ?_
          conv => whnf
          obtain ⟨y297, e298, h⟩ := bind_ex h
          refine CallOk.of (laws_sameOrdinal_ct e298) ?_
          conv => whnf
          refine spl (fun g299 => ?_) (fun g299 => ?_)
          · replace h := iteT h g299
            conv => whnf
            refine splF ?_
            conv => whnf
            refine Take.all (rfl) ?_
            conv => whnf
            refine Take.all (rfl) ?_
            conv => whnf
            obtain ⟨y300, e301, h⟩ := bind_ex h
            refine CallOk.of (laws_sameOrdinal_ct e301) ?_
            conv => whnf
            refine spl (fun g302 => ?_) (fun g302 => ?_)
            · replace h := iteT h g302
              conv => whnf
              refine CutK.norm [5, 6, 7, 8, 11, 12, 110] [320, 384, 448, 704, 1114000, 1114001, 1114002] ?_
              conv => whnf
              exact CutK.piece (laws_FnNaturalOrdinals_p11_ct  h) [some 320, some 384, some 448, some 704, some 1114000, some 1114001, some 1114002] [] ⟨⟨rfl, rfl⟩, ⟨rfl, ⟨rfl, ⟨rfl, rfl⟩, trivial⟩, ⟨rfl, rfl, trivial⟩, ⟨rfl, ⟨rfl, rfl⟩, trivial⟩, ⟨rfl, ⟨rfl, rfl⟩, trivial⟩, ⟨rfl, rfl, rows_same⟩, ⟨rfl, rfl, rows_same⟩, ⟨rfl, rfl, rows_same⟩, trivial⟩, ⟨rfl, rfl⟩, ⟨rfl, rfl⟩, ⟨rfl, rfl⟩, rfl, ⟨rfl, rfl⟩, rfl, trivial⟩
            · replace h := iteF h g302
              conv => whnf
              refine CutK.norm [5, 6, 7, 8, 11, 12, 110] [320, 384, 448, 704, 1114000, 1114001, 1114002] ?_
              conv => whnf
              cases h
              exact Done.of [] [] rfl rfl ⟨⟨rfl, rfl⟩, ⟨rfl, trivial⟩, rfl, trivial⟩
          · replace h := iteF h g299
            conv => whnf
            refine CutK.norm [5, 6, 7, 8, 11, 12, 110] [320, 384, 448, 704, 1114000, 1114001, 1114002] ?_
            conv => whnf
            cases h
            exact Done.of [] [] rfl rfl ⟨⟨rfl, rfl⟩, ⟨rfl, trivial⟩, rfl, trivial⟩
        · replace h := condT h
          conv => whnf
          refine splT ?_
          conv => whnf
          refine CutK.norm [5, 6, 7, 8, 11, 12, 110] [320, 384, 448, 704, 1114000, 1114001, 1114002] ?_
          conv => whnf
          cases h
          exact Done.of [] [] rfl rfl ⟨⟨rfl, rfl⟩, ⟨rfl, trivial⟩, rfl, trivial⟩
      · replace h := condT h
        cases v169
        · replace h := condF h
          conv => whnf
          refine splF ?_
          conv => whnf
          refine Take.all (rfl) ?_
          conv => whnf
          refine Take.all (rfl) ?_
          conv => whnf
          obtain ⟨y303, e304, h⟩ := bind_ex h
          refine CallOk.of (laws_sameOrdinal_ct e304) ?_
          conv => whnf
          refine spl (fun g305 => ?_) (fun g305 => ?_)
          · replace h := iteT h g305
            conv => whnf
            refine splT ?_
            conv => whnf
            refine CutK.norm [5, 6, 7, 8, 11, 12, 110] [320, 384, 448, 704, 1114000, 1114001, 1114002] ?_
            conv => whnf
            cases h
            exact Done.of [] [] rfl rfl ⟨⟨rfl, rfl⟩, ⟨rfl, trivial⟩, rfl, trivial⟩
          · replace h := iteF h g305
            conv => whnf
            refine CutK.norm [5, 6, 7, 8, 11, 12, 110] [320, 384, 448, 704, 1114000, 1114001, 1114002] ?_
            conv => whnf
            cases h
            exact Done.of [] [] rfl rfl ⟨⟨rfl, rfl⟩, ⟨rfl, trivial⟩, rfl, trivial⟩
        · replace h := condT h
          conv => whnf
          refine splT ?_
          conv => whnf
          refine CutK.norm [5, 6, 7, 8, 11, 12, 110] [320, 384, 448, 704, 1114000, 1114001, 1114002] ?_
          conv => whnf
          cases h
          exact Done.of [] [] rfl rfl ⟨⟨rfl, rfl⟩, ⟨rfl, trivial⟩, rfl, trivial⟩
    · replace h := condT h
      cases v162
      · replace h := condF h
        cases v169
        · replace h := condF h
          conv => whnf
          refine splT ?_
          conv => whnf
          refine CutK.norm [5, 6, 7, 8, 11, 12, 110] [320, 384, 448, 704, 1114000, 1114001, 1114002] ?_
          conv => whnf
          cases h
          exact Done.of [] [] rfl rfl ⟨⟨rfl, rfl⟩, ⟨rfl, trivial⟩, rfl, trivial⟩
        · replace h := condT h
          conv => whnf
          refine splF ?_
          conv => whnf
          refine Take.all (rfl) ?_
          conv => whnf
          refine Take.all (rfl) ?_
          conv => whnf
          obtain ⟨y306, e307, h⟩ := bind_ex h
          refine CallOk.of (laws_sameOrdinal_ct e307) ?_
          conv => whnf
          refine spl (fun g308 => ?_) (fun g308 => ?_)
          · replace h := iteT h g308
            conv => whnf
            refine splF ?_
            conv => whnf
            refine Take.all (rfl) ?_
            conv => whnf
            refine Take.all (rfl) ?_
            conv => whnf
            obtain ⟨y309, e310, h⟩ := bind_ex h
            refine CallOk.of (laws_sameOrdinal_ct e310) ?_
            conv => whnf
            refine spl (fun g311 => ?_) (fun g311 => ?_)
            · replace h := iteT h g311
              conv => whnf
              refine CutK.norm [5, 6, 7, 8, 11, 12, 110] [320, 384, 448, 704, 1114000, 1114001, 1114002] ?_
              conv => whnf
              exact CutK.piece (laws_FnNaturalOrdinals_p11_ct  h) [some 320, some 384, some 448, some 704, some 1114000, some 1114001, some 1114002] [] ⟨⟨rfl, rfl⟩, ⟨rfl, ⟨rfl, ⟨rfl, rfl⟩, trivial⟩, ⟨rfl, rfl, trivial⟩, ⟨rfl, ⟨rfl, rfl⟩, trivial⟩, ⟨rfl, ⟨rfl, rfl⟩, trivial⟩, ⟨rfl, rfl, rows_same⟩, ⟨rfl, rfl, rows_same⟩, ⟨rfl, rfl, rows_same⟩, trivial⟩, ⟨rfl, rfl⟩, ⟨rfl, rfl⟩, ⟨rfl, rfl⟩, rfl, ⟨rfl, rfl⟩, rfl, trivial⟩
            · replace h := iteF h g311
              conv => whnf
              refine CutK.norm [5, 6, 7, 8, 11, 12, 110] [320, 384, 448, 704, 1114000, 1114001, 1114002] ?_
              conv => whnf
              cases h
              exact Done.of [] [] rfl rfl ⟨⟨rfl, rfl⟩, ⟨rfl, trivial⟩, rfl, trivial⟩
          · replace h := iteF h g308
            conv => whnf
            refine CutK.norm [5, 6, 7, 8, 11, 12, 110] [320, 384, 448, 704, 1114000, 1114001, 1114002] ?_
            conv => whnf
            cases h
            exact Done.of [] [] rfl rfl ⟨⟨rfl, rfl⟩, ⟨rfl, trivial⟩, rfl, trivial⟩
      · replace h := condT h
        cases v169
        · replace h := condF h
          conv => whnf
          refine splT ?_
          conv => whnf
          refine CutK.norm [5, 6, 7, 8, 11, 12, 110] [320, 384, 448, 704, 1114000, 1114001, 1114002] ?_
          conv => whnf
          cases h
          exact Done.of [] [] rfl rfl ⟨⟨rfl, rfl⟩, ⟨rfl, trivial⟩, rfl, trivial⟩
        · replace h := condT h
          conv => whnf
          refine splF ?_
          conv => whnf
          refine Take.all (rfl) ?_
          conv => whnf
          refine Take.all (rfl) ?_
          conv => whnf
          obtain ⟨y312, e313, h⟩ := bind_ex h
          refine CallOk.of (laws_sameOrdinal_ct e313) ?_
          conv => whnf
          refine spl (fun g314 => ?_) (fun g314 => ?_)
          · replace h := iteT h g314
            conv => whnf
            refine splT ?_
            conv => whnf
            refine CutK.norm [5, 6, 7, 8, 11, 12, 110] [320, 384, 448, 704, 1114000, 1114001, 1114002] ?_
            conv => whnf
            cases h
            exact Done.of [] [] rfl rfl ⟨⟨rfl, rfl⟩, ⟨rfl, trivial⟩, rfl, trivial⟩
          · replace h := iteF h g314
            conv => whnf
            refine CutK.norm [5, 6, 7, 8, 11, 12, 110] [320, 384, 448, 704, 1114000, 1114001, 1114002] ?_
            conv => whnf
            cases h
            exact Done.of [] [] rfl rfl ⟨⟨rfl, rfl⟩, ⟨rfl, trivial⟩, rfl, trivial⟩
  · replace h := condT h
    cases v158
    · replace h := condF h
      cases v162
      · replace h := condF h
        cases v169
        · replace h := condF h
          conv => whnf
          refine splF ?_
          conv => whnf
          refine Take.all (rfl) ?_
          conv => whnf
          refine Take.all (rfl) ?_
          conv => whnf
          obtain ⟨y315, e316, h⟩ := bind_ex h
          refine CallOk.of (laws_sameOrdinal_ct e316) ?_
          conv => whnf
          refine spl (fun g317 => ?_) (fun g317 => ?_)
          · replace h := iteT h g317
            conv => whnf
            refine splT ?_
            conv => whnf
            refine CutK.norm [5, 6, 7, 8, 11, 12, 110] [320, 384, 448, 704, 1114000, 1114001, 1114002] ?_
            conv => whnf
            cases h
            exact Done.of [] [] rfl rfl ⟨⟨rfl, rfl⟩, ⟨rfl, trivial⟩, rfl, trivial⟩
          · replace h := iteF h g317
            conv => whnf
            refine CutK.norm [5, 6, 7, 8, 11, 12, 110] [320, 384, 448, 704, 1114000, 1114001, 1114002] ?_
            conv => whnf
            cases h
            exact Done.of [] [] rfl rfl ⟨⟨rfl, rfl⟩, ⟨rfl, trivial⟩, rfl, trivial⟩
        · replace h := condT h
          conv => whnf
          refine splT ?_
          conv => whnf
          refine CutK.norm [5, 6, 7, 8, 11, 12, 110] [320, 384, 448, 704, 1114000, 1114001, 1114002] ?_
          conv => whnf
          cases h
          exact Done.of [] [] rfl rfl ⟨⟨rfl, rfl⟩, ⟨rfl, trivial⟩, rfl, trivial⟩
      · replace h := condT h
        cases v169
        · replace h := condF h
          conv => whnf
          refine splF ?_
          conv => whnf
          refine Take.all (rfl) ?_
          conv => whnf
          refine Take.all (rfl) ?_
          conv => whnf
          obtain ⟨y318, e319, h⟩ := bind_ex h
          refine CallOk.of (laws_sameOrdinal_ct e319) ?_
          conv => whnf
          refine spl (fun g320 => ?_) (fun g320 => ?_)
          · replace h := iteT h g320
            conv => whnf
            refine splF ?_
            conv => whnf
            refine Take.all (rfl) ?_
            conv => whnf
            refine Take.all (rfl) ?_
            conv => whnf
            obtain ⟨y321, e322, h⟩ := bind_ex h
            refine CallOk.of (laws_sameOrdinal_ct e322) ?_
            conv => whnf
            refine spl (fun g323 => ?_) (fun g323 => ?_)
            · replace h := iteT h g323
              conv => whnf
              refine CutK.norm [5, 6, 7, 8, 11, 12, 110] [320, 384, 448, 704, 1114000, 1114001, 1114002] ?_
              conv => whnf
              exact CutK.piece (laws_FnNaturalOrdinals_p11_ct  h) [some 320, some 384, some 448, some 704, some 1114000, some 1114001, some 1114002] [] ⟨⟨rfl, rfl⟩, ⟨rfl, ⟨rfl, ⟨rfl, rfl⟩, trivial⟩, ⟨rfl, rfl, trivial⟩, ⟨rfl, ⟨rfl, rfl⟩, trivial⟩, ⟨rfl, ⟨rfl, rfl⟩, trivial⟩, ⟨rfl, rfl, rows_same⟩, ⟨rfl, rfl, rows_same⟩, ⟨rfl, rfl, rows_same⟩, trivial⟩, ⟨rfl, rfl⟩, ⟨rfl, rfl⟩, ⟨rfl, rfl⟩, rfl, ⟨rfl, rfl⟩, rfl, trivial⟩
            · replace h := iteF h g323
              conv => whnf
              refine CutK.norm [5, 6, 7, 8, 11, 12, 110] [320, 384, 448, 704, 1114000, 1114001, 1114002] ?_
              conv => whnf
              cases h
              exact Done.of [] [] rfl rfl ⟨⟨rfl, rfl⟩, ⟨rfl, trivial⟩, rfl, trivial⟩
          · replace h := iteF h g320
            conv => whnf
            refine CutK.norm [5, 6, 7, 8, 11, 12, 110] [320, 384, 448, 704, 1114000, 1114001, 1114002] ?_
            conv => whnf
            cases h
            exact Done.of [] [] rfl rfl ⟨⟨rfl, rfl⟩, ⟨rfl, trivial⟩, rfl, trivial⟩
        · replace h := condT h
          conv => whnf
          refine splT ?_
          conv => whnf
          refine CutK.norm [5, 6, 7, 8, 11, 12, 110] [320, 384, 448, 704, 1114000, 1114001, 1114002] ?_
          conv => whnf
          cases h
          exact Done.of [] [] rfl rfl ⟨⟨rfl, rfl⟩, ⟨rfl, trivial⟩, rfl, trivial⟩
    · replace h := condT h
      cases v162
      · replace h := condF h
        cases v169
        · replace h := condF h
          conv => whnf
          refine splT ?_
          conv => whnf
          refine CutK.norm [5, 6, 7, 8, 11, 12, 110] [320, 384, 448, 704, 1114000, 1114001, 1114002] ?_
          conv => whnf
          cases h
          exact Done.of [] [] rfl rfl ⟨⟨rfl, rfl⟩, ⟨rfl, trivial⟩, rfl, trivial⟩
        · replace h := condT h
          conv => whnf
          refine splF ?_
          conv => whnf
          refine Take.all (rfl) ?_
          conv => whnf
          refine Take.all (rfl) ?_
          conv => whnf
          obtain ⟨y324, e325, h⟩ := bind_ex h
          refine CallOk.of (laws_sameOrdinal_ct e325) ?_
          conv => whnf
          refine spl (fun g326 => ?_) (fun g326 => ?_)
          · replace h := iteT h g326
            conv => whnf
            refine splT ?_
            conv => whnf
            refine CutK.norm [5, 6, 7, 8, 11, 12, 110] [320, 384, 448, 704, 1114000, 1114001, 1114002] ?_
            conv => whnf
            cases h
            exact Done.of [] [] rfl rfl ⟨⟨rfl, rfl⟩, ⟨rfl, trivial⟩, rfl, trivial⟩
          · replace h := iteF h g326
            conv => whnf
            refine CutK.norm [5, 6, 7, 8, 11, 12, 110] [320, 384, 448, 704, 1114000, 1114001, 1114002] ?_
            conv => whnf
            cases h
            exact Done.of [] [] rfl rfl ⟨⟨rfl, rfl⟩, ⟨rfl, trivial⟩, rfl, trivial⟩
      · replace h := condT h
        cases v169
        · replace h := condF h
          conv => whnf
          refine splT ?_
          conv => whnf
          refine CutK.norm [5, 6, 7, 8, 11, 12, 110] [320, 384, 448, 704, 1114000, 1114001, 1114002] ?_
          conv => whnf
          cases h
          exact Done.of [] [] rfl rfl ⟨⟨rfl, rfl⟩, ⟨rfl, trivial⟩, rfl, trivial⟩
        · replace h := condT h
          conv => whnf
          refine splF ?_
          conv => whnf
          refine Take.all (rfl) ?_
          conv => whnf
          refine Take.all (rfl) ?_
          conv => whnf
          obtain ⟨y327, e328, h⟩ := bind_ex h
          refine CallOk.of (laws_sameOrdinal_ct e328) ?_
          conv => whnf
          refine spl (fun g329 => ?_) (fun g329 => ?_)
          · replace h := iteT h g329
            conv => whnf
            refine splF ?_
            conv => whnf
            refine Take.all (rfl) ?_
            conv => whnf
            refine Take.all (rfl) ?_
            conv => whnf
            obtain ⟨y330, e331, h⟩ := bind_ex h
            refine CallOk.of (laws_sameOrdinal_ct e331) ?_
            conv => whnf
            refine spl (fun g332 => ?_) (fun g332 => ?_)
            · replace h := iteT h g332
              conv => whnf
              refine CutK.norm [5, 6, 7, 8, 11, 12, 110] [320, 384, 448, 704, 1114000, 1114001, 1114002] ?_
              conv => whnf
              exact CutK.piece (laws_FnNaturalOrdinals_p11_ct  h) [some 320, some 384, some 448, some 704, some 1114000, some 1114001, some 1114002] [] ⟨⟨rfl, rfl⟩, ⟨rfl, ⟨rfl, ⟨rfl, rfl⟩, trivial⟩, ⟨rfl, rfl, trivial⟩, ⟨rfl, ⟨rfl, rfl⟩, trivial⟩, ⟨rfl, ⟨rfl, rfl⟩, trivial⟩, ⟨rfl, rfl, rows_same⟩, ⟨rfl, rfl, rows_same⟩, ⟨rfl, rfl, rows_same⟩, trivial⟩, ⟨rfl, rfl⟩, ⟨rfl, rfl⟩, ⟨rfl, rfl⟩, rfl, ⟨rfl, rfl⟩, rfl, trivial⟩
            · replace h := iteF h g332
              conv => whnf
              refine CutK.norm [5, 6, 7, 8, 11, 12, 110] [320, 384, 448, 704, 1114000, 1114001, 1114002] ?_
              conv => whnf
              cases h
              exact Done.of [] [] rfl rfl ⟨⟨rfl, rfl⟩, ⟨rfl, trivial⟩, rfl, trivial⟩
          · replace h := iteF h g329
            conv => whnf
            refine CutK.norm [5, 6, 7, 8, 11, 12, 110] [320, 384, 448, 704, 1114000, 1114001, 1114002] ?_
            conv => whnf
            cases h
            exact Done.of [] [] rfl rfl ⟨⟨rfl, rfl⟩, ⟨rfl, trivial⟩, rfl, trivial⟩
def laws_FnNaturalOrdinals_p9 (k : Nat) (o128 : Rw) (o129 : Rw) (o130 : Rw) (o131 : Rw) (o132 : Rw) (v133 : Bool) (v137 : Bool) (v141 : Bool) : Option Bool :=
  (cond v133 (cond v137 (cond v141 ((impl_NaturalProduct k o129 o128).bind fun y354 => (if y354.2 = true then (laws_FnNaturalOrdinals_p10 k o128 o129 o130 o131 o132 y354.1 true true true true) else (laws_FnNaturalOrdinals_p10 k o128 o129 o130 o131 o132 y354.1 false true true true))) ((impl_NaturalProduct k o129 o128).bind fun y351 => (if y351.2 = true then (laws_FnNaturalOrdinals_p10 k o128 o129 o130 o131 o132 y351.1 true false true true) else (laws_FnNaturalOrdinals_p10 k o128 o129 o130 o131 o132 y351.1 false false true true)))) (cond v141 ((impl_NaturalProduct k o129 o128).bind fun y348 => (if y348.2 = true then (laws_FnNaturalOrdinals_p10 k o128 o129 o130 o131 o132 y348.1 true true false true) else (laws_FnNaturalOrdinals_p10 k o128 o129 o130 o131 o132 y348.1 false true false true))) ((impl_NaturalProduct k o129 o128).bind fun y345 => (if y345.2 = true then (laws_FnNaturalOrdinals_p10 k o128 o129 o130 o131 o132 y345.1 true false false true) else (laws_FnNaturalOrdinals_p10 k o128 o129 o130 o131 o132 y345.1 false false false true))))) (cond v137 (cond v141 ((impl_NaturalProduct k o129 o128).bind fun y342 => (if y342.2 = true then (laws_FnNaturalOrdinals_p10 k o128 o129 o130 o131 o132 y342.1 true true true false) else (laws_FnNaturalOrdinals_p10 k o128 o129 o130 o131 o132 y342.1 false true true false))) ((impl_NaturalProduct k o129 o128).bind fun y339 => (if y339.2 = true then (laws_FnNaturalOrdinals_p10 k o128 o129 o130 o131 o132 y339.1 true false true false) else (laws_FnNaturalOrdinals_p10 k o128 o129 o130 o131 o132 y339.1 false false true false)))) (cond v141 ((impl_NaturalProduct k o129 o128).bind fun y336 => (if y336.2 = true then (laws_FnNaturalOrdinals_p10 k o128 o129 o130 o131 o132 y336.1 true true false false) else (laws_FnNaturalOrdinals_p10 k o128 o129 o130 o131 o132 y336.1 false true false false))) ((impl_NaturalProduct k o129 o128).bind fun y333 => (if y333.2 = true then (laws_FnNaturalOrdinals_p10 k o128 o129 o130 o131 o132 y333.1 true false false false) else (laws_FnNaturalOrdinals_p10 k o128 o129 o130 o131 o132 y333.1 false false false false))))))
set_option maxHeartbeats 4000000 in
set_option maxRecDepth 100000 in
theorem laws_FnNaturalOrdinals_p9_ct {k : Nat} {o128 : Rw} {o129 : Rw} {o130 : Rw} {o131 : Rw} {o132 : Rw} {v133 : Bool} {v137 : Bool} {v141 : Bool} {r : Bool} (h : laws_FnNaturalOrdinals_p9 k o128 o129 o130 o131 o132 v133 v137 v141 = some r) : X prog 0 (tlF f3 9) (mk 155 [(5, .ptr 320 0), (6, .ptr 384 0), (7, .ptr 448 0), (8, .d (D.bool v141)), (11, .ptr 704 0), (12, .d (D.bool v137)), (15, .ptr 960 0), (16, .d (D.bool v133))] [(320, .box 26 [.os 1109000 o128.length]), (384, .box 26 [.d (D.sl o129)]), (448, .box 26 [.os 1109001 o130.length]), (704, .box 26 [.os 1109002 o131.length]), (960, .box 26 [.os 1109003 o132.length]), (1109000, .arr 98 false o128), (1109001, .arr 98 true o130), (1109002, .arr 98 true o131), (1109003, .arr 98 true o132)]) (finK prog f3 0 (.d (D.bool r)) (⟨[], []⟩)) := by
  rw [laws_FnNaturalOrdinals_p9] at h
  cases v133
  · replace h := condF h
    cases v137
    · replace h := condF h
      cases v141
      · replace h := condF h
        conv => whnf
        refine Take.all (rfl) ?_
        conv => whnf
        obtain ⟨y333, e334, h⟩ := bind_ex h
        refine CallOk.of (impl_NaturalProduct_ct e334) ?_
        conv => whnf
        refine spl (fun g335 => ?_) (fun g335 => ?_)
        · replace h := iteT h g335
          conv => whnf
          exact CutK.piece (laws_FnNaturalOrdinals_p10_ct  h) [some 320, some 384, some 448, some 704, some 960, some 1088, some 1109000, some 1109001, some 1109002, some 1109003, some 5632] [] ⟨⟨rfl, rfl⟩, ⟨rfl, ⟨rfl, ⟨rfl, rfl⟩, trivial⟩, ⟨rfl, rfl, trivial⟩, ⟨rfl, ⟨rfl, rfl⟩, trivial⟩, ⟨rfl, ⟨rfl, rfl⟩, trivial⟩, ⟨rfl, ⟨rfl, rfl⟩, trivial⟩, ⟨rfl, ⟨rfl, rfl⟩, trivial⟩, ⟨rfl, rfl, rows_same⟩, ⟨rfl, rfl, rows_same⟩, ⟨rfl, rfl, rows_same⟩, ⟨rfl, rfl, rows_same⟩, ⟨rfl, rfl, rows_same⟩, trivial⟩, ⟨rfl, rfl⟩, ⟨rfl, rfl⟩, ⟨rfl, rfl⟩, rfl, ⟨rfl, rfl⟩, rfl, ⟨rfl, rfl⟩, rfl, ⟨rfl, rfl⟩, rfl, trivial⟩
        · replace h := iteF h g335
          conv => whnf
          exact CutK.piece (laws_FnNaturalOrdinals_p10_ct  h) [some 320, some 384, some 448, some 704, some 960, some 1088, some 1109000, some 1109001, some 1109002, some 1109003, some 5632] [] ⟨⟨rfl, rfl⟩, ⟨rfl, ⟨rfl, ⟨rfl, rfl⟩, trivial⟩, ⟨rfl, rfl, trivial⟩, ⟨rfl, ⟨rfl, rfl⟩, trivial⟩, ⟨rfl, ⟨rfl, rfl⟩, trivial⟩, ⟨rfl, ⟨rfl, rfl⟩, trivial⟩, ⟨rfl, ⟨rfl, rfl⟩, trivial⟩, ⟨rfl, rfl, rows_same⟩, ⟨rfl, rfl, rows_same⟩, ⟨rfl, rfl, rows_same⟩, ⟨rfl, rfl, rows_same⟩, ⟨rfl, rfl, rows_same⟩, trivial⟩, ⟨rfl, rfl⟩, ⟨rfl, rfl⟩, ⟨rfl, rfl⟩, rfl, ⟨rfl, rfl⟩, rfl, ⟨rfl, rfl⟩, rfl, ⟨rfl, rfl⟩, rfl, trivial⟩
      · replace h := condT h
        conv => whnf
        refine Take.all (rfl) ?_
        conv => whnf
        obtain ⟨y336, e337, h⟩ := bind_ex h
        refine CallOk.of (impl_NaturalProduct_ct e337) ?_
        conv => whnf
        refine spl (fun g338 => ?_) (fun g338 => ?_)
        · replace h := iteT h g338
          conv => whnf
          exact CutK.piece (laws_FnNaturalOrdinals_p10_ct  h) [some 320, some 384, some 448, some 704, some 960, some 1088, some 1109000, some 1109001, some 1109002, some 1109003, some 5632] [] ⟨⟨rfl, rfl⟩, ⟨rfl, ⟨rfl, ⟨rfl, rfl⟩, trivial⟩, ⟨rfl, rfl, trivial⟩, ⟨rfl, ⟨rfl, rfl⟩, trivial⟩, ⟨rfl, ⟨rfl, rfl⟩, trivial⟩, ⟨rfl, ⟨rfl, rfl⟩, trivial⟩, ⟨rfl, ⟨rfl, rfl⟩, trivial⟩, ⟨rfl, rfl, rows_same⟩, ⟨rfl, rfl, rows_same⟩, ⟨rfl, rfl, rows_same⟩, ⟨rfl, rfl, rows_same⟩, ⟨rfl, rfl, rows_same⟩, trivial⟩, ⟨rfl, rfl⟩, ⟨rfl, rfl⟩, ⟨rfl, rfl⟩, rfl, ⟨rfl, rfl⟩, rfl, ⟨rfl, rfl⟩, rfl, ⟨rfl, rfl⟩, rfl, trivial⟩
        · replace h := iteF h g338
          conv => whnf
          exact CutK.piece (laws_FnNaturalOrdinals_p10_ct  h) [some 320, some 384, some 448, some 704, some 960, some 1088, some 1109000, some 1109001, some 1109002, some 1109003, some 5632] [] ⟨⟨rfl, rfl⟩, ⟨rfl, ⟨rfl, ⟨rfl, rfl⟩, trivial⟩, ⟨rfl, rfl, trivial⟩, ⟨rfl, ⟨rfl, rfl⟩, trivial⟩, ⟨rfl, ⟨rfl, rfl⟩, trivial⟩, ⟨rfl, ⟨rfl, rfl⟩, trivial⟩, ⟨rfl, ⟨rfl, rfl⟩, trivial⟩, ⟨rfl, rfl, rows_same⟩, ⟨rfl, rfl, rows_same⟩, ⟨rfl, rfl, rows_same⟩, ⟨rfl, rfl, rows_same⟩, ⟨rfl, rfl, rows_same⟩, trivial⟩, ⟨rfl, rfl⟩, ⟨rfl, rfl⟩, ⟨rfl, rfl⟩, rfl, ⟨rfl, rfl⟩, rfl, ⟨rfl, rfl⟩, rfl, ⟨rfl, rfl⟩, rfl, trivial⟩
    · replace h := condT h
      cases v141
      · replace h := condF h
        conv => whnf
        refine Take.all (rfl) ?_
        conv => whnf
        obtain ⟨y339, e340, h⟩ := bind_ex h
        refine CallOk.of (impl_NaturalProduct_ct e340) ?_
        conv => whnf
        refine spl (fun g341 => ?_) (fun g341 => ?_)
        · replace h := iteT h g341
          conv => whnf
          exact CutK.piece (laws_FnNaturalOrdinals_p10_ct  h) [some 320, some 384, some 448, some 704, some 960, some 1088, some 1109000, some 1109001, some 1109002, some 1109003, some 5632] [] ⟨⟨rfl, rfl⟩, ⟨rfl, ⟨rfl, ⟨rfl, rfl⟩, trivial⟩, ⟨rfl, rfl, trivial⟩, ⟨rfl, ⟨rfl, rfl⟩, trivial⟩, ⟨rfl, ⟨rfl, rfl⟩, trivial⟩, ⟨rfl, ⟨rfl, rfl⟩, trivial⟩, ⟨rfl, ⟨rfl, rfl⟩, trivial⟩, ⟨rfl, rfl, rows_same⟩, ⟨rfl, rfl, rows_same⟩, ⟨rfl, rfl, rows_same⟩, ⟨rfl, rfl, rows_same⟩, ⟨rfl, rfl, rows_same⟩, trivial⟩, ⟨rfl, rfl⟩, ⟨rfl, rfl⟩, ⟨rfl, rfl⟩, rfl, ⟨rfl, rfl⟩, rfl, ⟨rfl, rfl⟩, rfl, ⟨rfl, rfl⟩, rfl, trivial⟩
        · replace h := iteF h g341
          conv => whnf
          exact CutK.piece (laws_FnNaturalOrdinals_p10_ct  h) [some 320, some 384, some 448, some 704, some 960, some 1088, some 1109000, some 1109001, some 1109002, some 1109003, some 5632] [] ⟨⟨rfl, rfl⟩, ⟨rfl, ⟨rfl, ⟨rfl, rfl⟩, trivial⟩, ⟨rfl, rfl, trivial⟩, ⟨rfl, ⟨rfl, rfl⟩, trivial⟩, ⟨rfl, ⟨rfl, rfl⟩, trivial⟩, ⟨rfl, ⟨rfl, rfl⟩, trivial⟩, ⟨rfl, ⟨rfl, rfl⟩, trivial⟩, ⟨rfl, rfl, rows_same⟩, ⟨rfl, rfl, rows_same⟩, ⟨rfl, rfl, rows_same⟩, ⟨rfl, rfl, rows_same⟩, ⟨rfl, rfl, rows_same⟩, trivial⟩, ⟨rfl, rfl⟩, ⟨rfl, rfl⟩, ⟨rfl, rfl⟩, rfl, ⟨rfl, rfl⟩, rfl, ⟨rfl, rfl⟩, rfl, ⟨rfl, rfl⟩, rfl, trivial⟩
      · replace h := condT h
        conv => whnf
        refine Take.all (rfl) ?_
        conv => whnf
        obtain ⟨y342, e343, h⟩ := bind_ex h
        refine CallOk.of (impl_NaturalProduct_ct e343) ?_
        conv => whnf
        refine spl (fun g344 => ?_) (fun g344 => ?_)
        · replace h := iteT h g344
          conv => whnf
          exact CutK.piece (laws_FnNaturalOrdinals_p10_ct  h) [some 320, some 384, some 448, some 704, some 960, some 1088, some 1109000, some 1109001, some 1109002, some 1109003, some 5632] [] ⟨⟨rfl, rfl⟩, ⟨rfl, ⟨rfl, ⟨rfl, rfl⟩, trivial⟩, ⟨rfl, rfl, trivial⟩, ⟨rfl, ⟨rfl, rfl⟩, trivial⟩, ⟨rfl, ⟨rfl, rfl⟩, trivial⟩, ⟨rfl, ⟨rfl, rfl⟩, trivial⟩, ⟨rfl, ⟨rfl, rfl⟩, trivial⟩, ⟨rfl, rfl, rows_same⟩, ⟨rfl, rfl, rows_same⟩, ⟨rfl, rfl, rows_same⟩, ⟨rfl, rfl, rows_same⟩, ⟨rfl, rfl, rows_same⟩, trivial⟩, ⟨rfl, rfl⟩, ⟨rfl, rfl⟩, ⟨rfl, rfl⟩, rfl, ⟨rfl, rfl⟩, rfl, ⟨rfl, rfl⟩, rfl, ⟨rfl, rfl⟩, rfl, trivial⟩
        · replace h := iteF h g344
          conv => whnf
          exact CutK.piece (laws_FnNaturalOrdinals_p10_ct  h) [some 320, some 384, some 448, some 704, some 960, some 1088, some 1109000, some 1109001, some 1109002, some 1109003, some 5632] [] ⟨⟨rfl, rfl⟩, ⟨rfl, ⟨rfl, ⟨rfl, rfl⟩, trivial⟩, ⟨rfl, rfl, trivial⟩, ⟨rfl, ⟨rfl, rfl⟩, trivial⟩, ⟨rfl, ⟨rfl, rfl⟩, trivial⟩, ⟨rfl, ⟨rfl, rfl⟩, trivial⟩, ⟨rfl, ⟨rfl, rfl⟩, trivial⟩, ⟨rfl, rfl, rows_same⟩, ⟨rfl, rfl, rows_same⟩, ⟨rfl, rfl, rows_same⟩, ⟨rfl, rfl, rows_same⟩, ⟨rfl, rfl, rows_same⟩, trivial⟩, ⟨rfl, rfl⟩, ⟨rfl, rfl⟩, ⟨rfl, rfl⟩, rfl, ⟨rfl, rfl⟩, rfl, ⟨rfl, rfl⟩, rfl, ⟨rfl, rfl⟩, rfl, trivial⟩
  · replace h := condT h
    cases v137
    · replace h := condF h
      cases v141
      · replace h := condF h
        conv => whnf
        refine Take.all (rfl) ?_
        conv => whnf
        obtain ⟨y345, e346, h⟩ := bind_ex h
        refine CallOk.of (impl_NaturalProduct_ct e346) ?_
        conv => whnf
        refine spl (fun g347 => ?_) (fun g347 => ?_)
        · replace h := iteT h g347
          conv => whnf
          exact CutK.piece (laws_FnNaturalOrdinals_p10_ct  h) [some 320, some 384, some 448, some 704, some 960, some 1088, some 1109000, some 1109001, some 1109002, some 1109003, some 5632] [] ⟨⟨rfl, rfl⟩, ⟨rfl, ⟨rfl, ⟨rfl, rfl⟩, trivial⟩, ⟨rfl, rfl, trivial⟩, ⟨rfl, ⟨rfl, rfl⟩, trivial⟩, ⟨rfl, ⟨rfl, rfl⟩, trivial⟩, ⟨rfl, ⟨rfl, rfl⟩, trivial⟩, ⟨rfl, ⟨rfl, rfl⟩, trivial⟩, ⟨rfl, rfl, rows_same⟩, ⟨rfl, rfl, rows_same⟩, ⟨rfl, rfl, rows_same⟩, ⟨rfl, rfl, rows_same⟩, ⟨rfl, rfl, rows_same⟩, trivial⟩, ⟨rfl, rfl⟩, ⟨rfl, rfl⟩, ⟨rfl, rfl⟩, rfl, ⟨rfl, rfl⟩, rfl, ⟨rfl, rfl⟩, rfl, ⟨rfl, rfl⟩, rfl, trivial⟩
        · replace h := iteF h g347
          conv => whnf
          exact CutK.piece (laws_FnNaturalOrdinals_p10_ct  h) [some 320, some 384, some 448, some 704, some 960, some 1088, some 1109000, some 1109001, some 1109002, some 1109003, some 5632] [] ⟨⟨rfl, rfl⟩, ⟨rfl, ⟨rfl, ⟨rfl, rfl⟩, trivial⟩, ⟨rfl, rfl, trivial⟩, ⟨rfl, ⟨rfl, rfl⟩, trivial⟩, ⟨rfl, ⟨rfl, rfl⟩, trivial⟩, ⟨rfl, ⟨rfl, rfl⟩, trivial⟩, ⟨rfl, ⟨rfl, rfl⟩, trivial⟩, ⟨rfl, rfl, rows_same⟩, ⟨rfl, rfl, rows_same⟩, ⟨rfl, rfl, rows_same⟩, ⟨rfl, rfl, rows_same⟩, ⟨rfl, rfl, rows_same⟩, trivial⟩, ⟨rfl, rfl⟩, ⟨rfl, rfl⟩, ⟨rfl, rfl⟩, rfl, ⟨rfl, rfl⟩, rfl, ⟨rfl, rfl⟩, rfl, ⟨rfl, rfl⟩, rfl, trivial⟩
      · replace h := condT h
        conv => whnf
        refine Take.all (rfl) ?_
        conv => whnf
        obtain ⟨y348, e349, h⟩ := bind_ex h
        refine CallOk.of (impl_NaturalProduct_ct e349) ?_
        conv => whnf
        refine spl (fun g350 => ?_) (fun g350 => ?_)
        · replace h := iteT h g350
          conv => whnf
          exact CutK.piece (laws_FnNaturalOrdinals_p10_ct  h) [some 320, some 384, some 448, some 704, some 960, some 1088, some 1109000, some 1109001, some 1109002, some 1109003, some 5632] [] ⟨⟨rfl, rfl⟩, ⟨rfl, ⟨rfl, ⟨rfl, rfl⟩, trivial⟩, ⟨rfl, rfl, trivial⟩, ⟨rfl, ⟨rfl, rfl⟩, trivial⟩, ⟨rfl, ⟨rfl, rfl⟩, trivial⟩, ⟨rfl, ⟨rfl, rfl⟩, trivial⟩, ⟨rfl, ⟨rfl, rfl⟩, trivial⟩, ⟨rfl, rfl, rows_same⟩, ⟨rfl, rfl, rows_same⟩, ⟨rfl, rfl, rows_same⟩, ⟨rfl, rfl, rows_same⟩, ⟨rfl, rfl, rows_same⟩, trivial⟩, ⟨rfl, rfl⟩, ⟨rfl, rfl⟩, ⟨rfl, rfl⟩, rfl, ⟨rfl, rfl⟩, rfl, ⟨rfl, rfl⟩, rfl, ⟨rfl, rfl⟩, rfl, trivial⟩
        · replace h := iteF h g350
          conv => whnf
          exact CutK.piece (laws_FnNaturalOrdinals_p10_ct  h) [some 320, some 384, some 448, some 704, some 960, some 1088, some 1109000, some 1109001, some 1109002, some 1109003, some 5632] [] ⟨⟨rfl, rfl⟩, ⟨rfl, ⟨rfl, ⟨rfl, rfl⟩, trivial⟩, ⟨rfl, rfl, trivial⟩, ⟨rfl, ⟨rfl, rfl⟩, trivial⟩, ⟨rfl, ⟨rfl, rfl⟩, trivial⟩, ⟨rfl, ⟨rfl, rfl⟩, trivial⟩, ⟨rfl, ⟨rfl, rfl⟩, trivial⟩, ⟨rfl, rfl, rows_same⟩, ⟨rfl, rfl, rows_same⟩, ⟨rfl, rfl, rows_same⟩, ⟨rfl, rfl, rows_same⟩, ⟨rfl, rfl, rows_same⟩, trivial⟩, ⟨rfl, rfl⟩, ⟨rfl, rfl⟩, ⟨rfl, rfl⟩, rfl, ⟨rfl, rfl⟩, rfl, ⟨rfl, rfl⟩, rfl, ⟨rfl, rfl⟩, rfl, trivial⟩
    · replace h := condT h
      cases v141
      · replace h := condF h
        conv => whnf
        refine Take.all (rfl) ?_
        conv => whnf
        obtain ⟨y351, e352, h⟩ := bind_ex h
        refine CallOk.of (impl_NaturalProduct_ct e352) ?_
        conv => whnf
        refine spl (fun g353 => ?_) (fun g353 => ?_)
        · replace h := iteT h g353
          conv => whnf
          exact CutK.piece (laws_FnNaturalOrdinals_p10_ct  h) [some 320, some 384, some 448, some 704, some 960, some 1088, some 1109000, some 1109001, some 1109002, some 1109003, some 5632] [] ⟨⟨rfl, rfl⟩, ⟨rfl, ⟨rfl, ⟨rfl, rfl⟩, trivial⟩, ⟨rfl, rfl, trivial⟩, ⟨rfl, ⟨rfl, rfl⟩, trivial⟩, ⟨rfl, ⟨rfl, rfl⟩, trivial⟩, ⟨rfl, ⟨rfl, rfl⟩, trivial⟩, ⟨rfl, ⟨rfl, rfl⟩, trivial⟩, ⟨rfl, rfl, rows_same⟩, ⟨rfl, rfl, rows_same⟩, ⟨rfl, rfl, rows_same⟩, ⟨rfl, rfl, rows_same⟩, ⟨rfl, rfl, rows_same⟩, trivial⟩, ⟨rfl, rfl⟩, ⟨rfl, rfl⟩, ⟨rfl, rfl⟩, rfl, ⟨rfl, rfl⟩, rfl, ⟨rfl, rfl⟩, rfl, ⟨rfl, rfl⟩, rfl, trivial⟩
        · replace h := iteF h g353
          conv => whnf
          exact CutK.piece (laws_FnNaturalOrdinals_p10_ct  h) [some 320, some 384, some 448, some 704, some 960, some 1088, some 1109000, some 1109001, some 1109002, some 1109003, some 5632] [] ⟨⟨rfl, rfl⟩, ⟨rfl, ⟨rfl, ⟨rfl, rfl⟩, trivial⟩, ⟨rfl, rfl, trivial⟩, ⟨rfl, ⟨rfl, rfl⟩, trivial⟩, ⟨rfl, ⟨rfl, rfl⟩, trivial⟩, ⟨rfl, ⟨rfl, rfl⟩, trivial⟩, ⟨rfl, ⟨rfl, rfl⟩, trivial⟩, ⟨rfl, rfl, rows_same⟩, ⟨rfl, rfl, rows_same⟩, ⟨rfl, rfl, rows_same⟩, ⟨rfl, rfl, rows_same⟩, ⟨rfl, rfl, rows_same⟩, trivial⟩, ⟨rfl, rfl⟩, ⟨rfl, rfl⟩, ⟨rfl, rfl⟩, rfl, ⟨rfl, rfl⟩, rfl, ⟨rfl, rfl⟩, rfl, ⟨rfl, rfl⟩, rfl, trivial⟩
      · replace h := condT h
        conv => whnf
        refine Take.all (rfl) ?_
        conv => whnf
        obtain ⟨y354, e355, h⟩ := bind_ex h
        refine CallOk.of (impl_NaturalProduct_ct e355) ?_
        conv => whnf
        refine spl (fun g356 => ?_) (fun g356 => ?_)
        · replace h := iteT h g356
          conv => whnf
          exact CutK.piece (laws_FnNaturalOrdinals_p10_ct  h) [some 320, some 384, some 448, some 704, some 960, some 1088, some 1109000, some 1109001, some 1109002, some 1109003, some 5632] [] ⟨⟨rfl, rfl⟩, ⟨rfl, ⟨rfl, ⟨rfl, rfl⟩, trivial⟩, ⟨rfl, rfl, trivial⟩, ⟨rfl, ⟨rfl, rfl⟩, trivial⟩, ⟨rfl, ⟨rfl, rfl⟩, trivial⟩, ⟨rfl, ⟨rfl, rfl⟩, trivial⟩, ⟨rfl, ⟨rfl, rfl⟩, trivial⟩, ⟨rfl, rfl, rows_same⟩, ⟨rfl, rfl, rows_same⟩, ⟨rfl, rfl, rows_same⟩, ⟨rfl, rfl, rows_same⟩, ⟨rfl, rfl, rows_same⟩, trivial⟩, ⟨rfl, rfl⟩, ⟨rfl, rfl⟩, ⟨rfl, rfl⟩, rfl, ⟨rfl, rfl⟩, rfl, ⟨rfl, rfl⟩, rfl, ⟨rfl, rfl⟩, rfl, trivial⟩
        · replace h := iteF h g356
          conv => whnf
          exact CutK.piece (laws_FnNaturalOrdinals_p10_ct  h) [some 320, some 384, some 448, some 704, some 960, some 1088, some 1109000, some 1109001, some 1109002, some 1109003, some 5632] [] ⟨⟨rfl, rfl⟩, ⟨rfl, ⟨rfl, ⟨rfl, rfl⟩, trivial⟩, ⟨rfl, rfl, trivial⟩, ⟨rfl, ⟨rfl, rfl⟩, trivial⟩, ⟨rfl, ⟨rfl, rfl⟩, trivial⟩, ⟨rfl, ⟨rfl, rfl⟩, trivial⟩, ⟨rfl, ⟨rfl, rfl⟩, trivial⟩, ⟨rfl, rfl, rows_same⟩, ⟨rfl, rfl, rows_same⟩, ⟨rfl, rfl, rows_same⟩, ⟨rfl, rfl, rows_same⟩, ⟨rfl, rfl, rows_same⟩, trivial⟩, ⟨rfl, rfl⟩, ⟨rfl, rfl⟩, ⟨rfl, rfl⟩, rfl, ⟨rfl, rfl⟩, rfl, ⟨rfl, rfl⟩, rfl, ⟨rfl, rfl⟩, rfl, trivial⟩
def laws_FnNaturalOrdinals_p8 (k : Nat) (o89 : Rw) (o90 : Rw) (o91 : Rw) (o92 : Rw) (v102 : Bool) (v115 : Bool) : Option Bool :=
  (cond v102 (cond v115 ((impl_NaturalSum k o90 o89).bind fun y366 => (if y366.2 = true then (laws_FnNaturalOrdinals_p9 k o89 o90 o91 o92 y366.1 true true true) else (laws_FnNaturalOrdinals_p9 k o89 o90 o91 o92 y366.1 false true true))) ((impl_NaturalSum k o90 o89).bind fun y363 => (if y363.2 = true then (laws_FnNaturalOrdinals_p9 k o89 o90 o91 o92 y363.1 true false true) else (laws_FnNaturalOrdinals_p9 k o89 o90 o91 o92 y363.1 false false true)))) (cond v115 ((impl_NaturalSum k o90 o89).bind fun y360 => (if y360.2 = true then (laws_FnNaturalOrdinals_p9 k o89 o90 o91 o92 y360.1 true true false) else (laws_FnNaturalOrdinals_p9 k o89 o90 o91 o92 y360.1 false true false))) ((impl_NaturalSum k o90 o89).bind fun y357 => (if y357.2 = true then (laws_FnNaturalOrdinals_p9 k o89 o90 o91 o92 y357.1 true false false) else (laws_FnNaturalOrdinals_p9 k o89 o90 o91 o92 y357.1 false false false)))))
set_option maxHeartbeats 4000000 in
set_option maxRecDepth 100000 in
theorem laws_FnNaturalOrdinals_p8_ct {k : Nat} {o89 : Rw} {o90 : Rw} {o91 : Rw} {o92 : Rw} {v102 : Bool} {v115 : Bool} {r : Bool} (h : laws_FnNaturalOrdinals_p8 k o89 o90 o91 o92 v102 v115 = some r) : X prog 0 (tlF f3 8) (mk 155 [(5, .ptr 320 0), (6, .ptr 384 0), (7, .ptr 448 0), (8, .d (D.bool v102)), (11, .ptr 704 0), (12, .d (D.bool v115))] [(320, .box 26 [.os 1104000 o89.length]), (384, .box 26 [.d (D.sl o90)]), (448, .box 26 [.os 1104001 o91.length]), (704, .box 26 [.os 1104002 o92.length]), (1104000, .arr 98 false o89), (1104001, .arr 98 true o91), (1104002, .arr 98 true o92)]) (finK prog f3 0 (.d (D.bool r)) (⟨[], []⟩)) := by
  rw [laws_FnNaturalOrdinals_p8] at h
  cases v102
  · replace h := condF h
    cases v115
    · replace h := condF h
      conv => whnf
      refine Take.all (rfl) ?_
      conv => whnf
      obtain ⟨y357, e358, h⟩ := bind_ex h
      refine CallOk.of (impl_NaturalSum_ct e358) ?_
      conv => whnf
      refine spl (fun g359 => ?_) (fun g359 => ?_)
      · replace h := iteT h g359
        conv => whnf
        exact CutK.piece (laws_FnNaturalOrdinals_p9_ct  h) [some 320, some 384, some 448, some 704, some 960, some 1104000, some 1104001, some 1104002, some 5248] [] ⟨⟨rfl, rfl⟩, ⟨rfl, ⟨rfl, ⟨rfl, rfl⟩, trivial⟩, ⟨rfl, rfl, trivial⟩, ⟨rfl, ⟨rfl, rfl⟩, trivial⟩, ⟨rfl, ⟨rfl, rfl⟩, trivial⟩, ⟨rfl, ⟨rfl, rfl⟩, trivial⟩, ⟨rfl, rfl, rows_same⟩, ⟨rfl, rfl, rows_same⟩, ⟨rfl, rfl, rows_same⟩, ⟨rfl, rfl, rows_same⟩, trivial⟩, ⟨rfl, rfl⟩, ⟨rfl, rfl⟩, ⟨rfl, rfl⟩, rfl, ⟨rfl, rfl⟩, rfl, ⟨rfl, rfl⟩, rfl, trivial⟩
      · replace h := iteF h g359
        conv => whnf
        exact CutK.piece (laws_FnNaturalOrdinals_p9_ct  h) [some 320, some 384, some 448, some 704, some 960, some 1104000, some 1104001, some 1104002, some 5248] [] ⟨⟨rfl, rfl⟩, ⟨rfl, ⟨rfl, ⟨rfl, rfl⟩, trivial⟩, ⟨rfl, rfl, trivial⟩, ⟨rfl, ⟨rfl, rfl⟩, trivial⟩, ⟨rfl, ⟨rfl, rfl⟩, trivial⟩, ⟨rfl, ⟨rfl, rfl⟩, trivial⟩, ⟨rfl, rfl, rows_same⟩, ⟨rfl, rfl, rows_same⟩, ⟨rfl, rfl, rows_same⟩, ⟨rfl, rfl, rows_same⟩, trivial⟩, ⟨rfl, rfl⟩, ⟨rfl, rfl⟩, ⟨rfl, rfl⟩, rfl, ⟨rfl, rfl⟩, rfl, ⟨rfl, rfl⟩, rfl, trivial⟩
    · replace h := condT h
      conv => whnf
      refine Take.all (rfl) ?_
      conv => whnf
      obtain ⟨y360, e361, h⟩ := bind_ex h
      refine CallOk.of (impl_NaturalSum_ct e361) ?_
      conv => whnf
      refine spl (fun g362 => ?_) (fun g362 => ?_)
      · replace h := iteT h g362
        conv => whnf
        exact CutK.piece (laws_FnNaturalOrdinals_p9_ct  h) [some 320, some 384, some 448, some 704, some 960, some 1104000, some 1104001, some 1104002, some 5248] [] ⟨⟨rfl, rfl⟩, ⟨rfl, ⟨rfl, ⟨rfl, rfl⟩, trivial⟩, ⟨rfl, rfl, trivial⟩, ⟨rfl, ⟨rfl, rfl⟩, trivial⟩, ⟨rfl, ⟨rfl, rfl⟩, trivial⟩, ⟨rfl, ⟨rfl, rfl⟩, trivial⟩, ⟨rfl, rfl, rows_same⟩, ⟨rfl, rfl, rows_same⟩, ⟨rfl, rfl, rows_same⟩, ⟨rfl, rfl, rows_same⟩, trivial⟩, ⟨rfl, rfl⟩, ⟨rfl, rfl⟩, ⟨rfl, rfl⟩, rfl, ⟨rfl, rfl⟩, rfl, ⟨rfl, rfl⟩, rfl, trivial⟩
      · replace h := iteF h g362
        conv => whnf
        exact CutK.piece (laws_FnNaturalOrdinals_p9_ct  h) [some 320, some 384, some 448, some 704, some 960, some 1104000, some 1104001, some 1104002, some 5248] [] ⟨⟨rfl, rfl⟩, ⟨rfl, ⟨rfl, ⟨rfl, rfl⟩, trivial⟩, ⟨rfl, rfl, trivial⟩, ⟨rfl, ⟨rfl, rfl⟩, trivial⟩, ⟨rfl, ⟨rfl, rfl⟩, trivial⟩, ⟨rfl, ⟨rfl, rfl⟩, trivial⟩, ⟨rfl, rfl, rows_same⟩, ⟨rfl, rfl, rows_same⟩, ⟨rfl, rfl, rows_same⟩, ⟨rfl, rfl, rows_same⟩, trivial⟩, ⟨rfl, rfl⟩, ⟨rfl, rfl⟩, ⟨rfl, rfl⟩, rfl, ⟨rfl, rfl⟩, rfl, ⟨rfl, rfl⟩, rfl, trivial⟩
  · replace h := condT h
    cases v115
    · replace h := condF h
      conv => whnf
      refine Take.all (rfl) ?_
      conv => whnf
      obtain ⟨y363, e364, h⟩ := bind_ex h
      refine CallOk.of (impl_NaturalSum_ct e364) ?_
      conv => whnf
      refine spl (fun g365 => ?_) (fun g365 => ?_)
      · replace h := iteT h g365
        conv => whnf
        exact CutK.piece (laws_FnNaturalOrdinals_p9_ct  h) [some 320, some 384, some 448, some 704, some 960, some 1104000, some 1104001, some 1104002, some 5248] [] ⟨⟨rfl, rfl⟩, ⟨rfl, ⟨rfl, ⟨rfl, rfl⟩, trivial⟩, ⟨rfl, rfl, trivial⟩, ⟨rfl, ⟨rfl, rfl⟩, trivial⟩, ⟨rfl, ⟨rfl, rfl⟩, trivial⟩, ⟨rfl, ⟨rfl, rfl⟩, trivial⟩, ⟨rfl, rfl, rows_same⟩, ⟨rfl, rfl, rows_same⟩, ⟨rfl, rfl, rows_same⟩, ⟨rfl, rfl, rows_same⟩, trivial⟩, ⟨rfl, rfl⟩, ⟨rfl, rfl⟩, ⟨rfl, rfl⟩, rfl, ⟨rfl, rfl⟩, rfl, ⟨rfl, rfl⟩, rfl, trivial⟩
      · replace h := iteF h g365
        conv => whnf
        exact CutK.piece (laws_FnNaturalOrdinals_p9_ct  h) [some 320, some 384, some 448, some 704, some 960, some 1104000, some 1104001, some 1104002, some 5248] [] ⟨⟨rfl, rfl⟩, ⟨rfl, ⟨rfl, ⟨rfl, rfl⟩, trivial⟩, ⟨rfl, rfl, trivial⟩, ⟨rfl, ⟨rfl, rfl⟩, trivial⟩, ⟨rfl, ⟨rfl, rfl⟩, trivial⟩, ⟨rfl, ⟨rfl, rfl⟩, trivial⟩, ⟨rfl, rfl, rows_same⟩, ⟨rfl, rfl, rows_same⟩, ⟨rfl, rfl, rows_same⟩, ⟨rfl, rfl, rows_same⟩, trivial⟩, ⟨rfl, rfl⟩, ⟨rfl, rfl⟩, ⟨rfl, rfl⟩, rfl, ⟨rfl, rfl⟩, rfl, ⟨rfl, rfl⟩, rfl, trivial⟩
    · replace h := condT h
      conv => whnf
      refine Take.all (rfl) ?_
      conv => whnf
      obtain ⟨y366, e367, h⟩ := bind_ex h
      refine CallOk.of (impl_NaturalSum_ct e367) ?_
      conv => whnf
      refine spl (fun g368 => ?_) (fun g368 => ?_)
      · replace h := iteT h g368
        conv => whnf
        exact CutK.piece (laws_FnNaturalOrdinals_p9_ct  h) [some 320, some 384, some 448, some 704, some 960, some 1104000, some 1104001, some 1104002, some 5248] [] ⟨⟨rfl, rfl⟩, ⟨rfl, ⟨rfl, ⟨rfl, rfl⟩, trivial⟩, ⟨rfl, rfl, trivial⟩, ⟨rfl, ⟨rfl, rfl⟩, trivial⟩, ⟨rfl, ⟨rfl, rfl⟩, trivial⟩, ⟨rfl, ⟨rfl, rfl⟩, trivial⟩, ⟨rfl, rfl, rows_same⟩, ⟨rfl, rfl, rows_same⟩, ⟨rfl, rfl, rows_same⟩, ⟨rfl, rfl, rows_same⟩, trivial⟩, ⟨rfl, rfl⟩, ⟨rfl, rfl⟩, ⟨rfl, rfl⟩, rfl, ⟨rfl, rfl⟩, rfl, ⟨rfl, rfl⟩, rfl, trivial⟩
      · replace h := iteF h g368
        conv => whnf
        exact CutK.piece (laws_FnNaturalOrdinals_p9_ct  h) [some 320, some 384, some 448, some 704, some 960, some 1104000, some 1104001, some 1104002, some 5248] [] ⟨⟨rfl, rfl⟩, ⟨rfl, ⟨rfl, ⟨rfl, rfl⟩, trivial⟩, ⟨rfl, rfl, trivial⟩, ⟨rfl, ⟨rfl, rfl⟩, trivial⟩, ⟨rfl, ⟨rfl, rfl⟩, trivial⟩, ⟨rfl, ⟨rfl, rfl⟩, trivial⟩, ⟨rfl, rfl, rows_same⟩, ⟨rfl, rfl, rows_same⟩, ⟨rfl, rfl, rows_same⟩, ⟨rfl, rfl, rows_same⟩, trivial⟩, ⟨rfl, rfl⟩, ⟨rfl, rfl⟩, ⟨rfl, rfl⟩, rfl, ⟨rfl, rfl⟩, rfl, ⟨rfl, rfl⟩, rfl, trivial⟩
def laws_FnNaturalOrdinals_p7 (k : Nat) (o52 : Rw) (o53 : Rw) (o54 : Rw) (o55 : Rw) (o56 : Rw) (o57 : Rw) (v58 : Bool) (v62 : Bool) (v66 : Bool) (v73 : Bool) : Option Bool :=
  (cond v58 (cond v62 (cond v66 (cond v73 ((laws_sameOrdinal k o54 o55).bind fun y399 => (if y399 = true then ((laws_sameOrdinal k o56 o57).bind fun y402 => (if y402 = true then (laws_FnNaturalOrdinals_p8 k o52 o53 o54 o56 true true) else some false)) else some false)) ((laws_sameOrdinal k o54 o55).bind fun y396 => (if y396 = true then some false else some false))) (cond v73 (some false) (some false))) (cond v66 (cond v73 (some false) (some false)) (cond v73 ((laws_sameOrdinal k o54 o55).bind fun y390 => (if y390 = true then ((laws_sameOrdinal k o56 o57).bind fun y393 => (if y393 = true then (laws_FnNaturalOrdinals_p8 k o52 o53 o54 o56 false true) else some false)) else some false)) ((laws_sameOrdinal k o54 o55).bind fun y387 => (if y387 = true then some false else some false))))) (cond v62 (cond v66 (cond v73 ((laws_sameOrdinal k o54 o55).bind fun y384 => (if y384 = true then some false else some false)) ((laws_sameOrdinal k o54 o55).bind fun y378 => (if y378 = true then ((laws_sameOrdinal k o56 o57).bind fun y381 => (if y381 = true then (laws_FnNaturalOrdinals_p8 k o52 o53 o54 o56 true false) else some false)) else some false))) (cond v73 (some false) (some false))) (cond v66 (cond v73 (some false) (some false)) (cond v73 ((laws_sameOrdinal k o54 o55).bind fun y375 => (if y375 = true then some false else some false)) ((laws_sameOrdinal k o54 o55).bind fun y369 => (if y369 = true then ((laws_sameOrdinal k o56 o57).bind fun y372 => (if y372 = true then (laws_FnNaturalOrdinals_p8 k o52 o53 o54 o56 false false) else some false)) else some false))))))
set_option maxHeartbeats 4000000 in
set_option maxRecDepth 100000 in
theorem laws_FnNaturalOrdinals_p7_ct {k : Nat} {o52 : Rw} {o53 : Rw} {o54 : Rw} {o55 : Rw} {o56 : Rw} {o57 : Rw} {v58 : Bool} {v62 : Bool} {v66 : Bool} {v73 : Bool} {r : Bool} (h : laws_FnNaturalOrdinals_p7 k o52 o53 o54 o55 o56 o57 v58 v62 v66 v73 = some r) : X prog 0 (tlF f3 7) (mk 155 [(5, .ptr 320 0), (6, .ptr 384 0), (7, .ptr 448 0), (8, .d (D.bool v66)), (9, .ptr 576 0), (10, .d (D.bool v62)), (11, .ptr 704 0), (12, .d (D.bool v73)), (13, .ptr 832 0), (14, .d (D.bool v58))] [(320, .box 26 [.os 1099000 o52.length]), (384, .box 26 [.d (D.sl o53)]), (448, .box 26 [.os 1099001 o54.length]), (576, .box 26 [.os 1099002 o55.length]), (704, .box 26 [.os 1099003 o56.length]), (832, .box 26 [.os 1099004 o57.length]), (1099000, .arr 98 false o52), (1099001, .arr 98 true o54), (1099002, .arr 98 true o55), (1099003, .arr 98 true o56), (1099004, .arr 98 true o57)]) (finK prog f3 0 (.d (D.bool r)) (⟨[], []⟩)) := by
  rw [laws_FnNaturalOrdinals_p7] at h
  cases v58
  · replace h := condF h
    cases v62
    · replace h := condF h
      cases v66
      · replace h := condF h
        cases v73
        · replace h := condF h
          conv => whnf
          refine splF ?_
          conv => whnf
          refine Take.all (rfl) ?_
          conv => whnf
          refine Take.all (rfl) ?_
          conv => whnf
          obtain ⟨y369, e370, h⟩ := bind_ex h
          refine CallOk.of (laws_sameOrdinal_ct e370) ?_
          conv => whnf
          refine spl (fun g371 => ?_) (fun g371 => ?_)
          · replace h := iteT h g371
            conv => whnf
            refine splF ?_
            conv => whnf
            refine Take.all (rfl) ?_
            conv => whnf
            refine Take.all (rfl) ?_
            conv => whnf
            obtain ⟨y372, e373, h⟩ := bind_ex h
            refine CallOk.of (laws_sameOrdinal_ct e373) ?_
            conv => whnf
            refine spl (fun g374 => ?_) (fun g374 => ?_)
            · replace h := iteT h g374
              conv => whnf
              refine CutK.norm [5, 6, 7, 8, 11, 12, 78] [320, 384, 448, 704, 1099000, 1099001, 1099003] ?_
              conv => whnf
              exact CutK.piece (laws_FnNaturalOrdinals_p8_ct  h) [some 320, some 384, some 448, some 704, some 1099000, some 1099001, some 1099003] [] ⟨⟨rfl, rfl⟩, ⟨rfl, ⟨rfl, ⟨rfl, rfl⟩, trivial⟩, ⟨rfl, rfl, trivial⟩, ⟨rfl, ⟨rfl, rfl⟩, trivial⟩, ⟨rfl, ⟨rfl, rfl⟩, trivial⟩, ⟨rfl, rfl, rows_same⟩, ⟨rfl, rfl, rows_same⟩, ⟨rfl, rfl, rows_same⟩, trivial⟩, ⟨rfl, rfl⟩, ⟨rfl, rfl⟩, ⟨rfl, rfl⟩, rfl, ⟨rfl, rfl⟩, rfl, trivial⟩
            · replace h := iteF h g374
              conv => whnf
              refine CutK.norm [5, 6, 7, 8, 11, 12, 78] [320, 384, 448, 704, 1099000, 1099001, 1099003] ?_
              conv => whnf
              cases h
              exact Done.of [] [] rfl rfl ⟨⟨rfl, rfl⟩, ⟨rfl, trivial⟩, rfl, trivial⟩
          · replace h := iteF h g371
            conv => whnf
            refine CutK.norm [5, 6, 7, 8, 11, 12, 78] [320, 384, 448, 704, 1099000, 1099001, 1099003] ?_
            conv => whnf
            cases h
            exact Done.of [] [] rfl rfl ⟨⟨rfl, rfl⟩, ⟨rfl, trivial⟩, rfl, trivial⟩
        · replace h := condT h
          conv => whnf
          refine splF ?_
          conv => whnf
          refine Take.all (rfl) ?_
          conv => whnf
          refine Take.all (rfl) ?_
          conv => whnf
          obtain ⟨y375, e376, h⟩ := bind_ex h
          refine CallOk.of (laws_sameOrdinal_ct e376) ?_
          conv => whnf
          refine spl (fun g377 => ?_) (fun g377 => ?_)
          · replace h := iteT h g377
            conv => whnf
            refine splT ?_
            conv => whnf
            refine CutK.norm [5, 6, 7, 8, 11, 12, 78] [320, 384, 448, 704, 1099000, 1099001, 1099003] ?_
            conv => whnf
            cases h
            exact Done.of [] [] rfl rfl ⟨⟨rfl, rfl⟩, ⟨rfl, trivial⟩, rfl, trivial⟩
          · replace h := iteF h g377
            conv => whnf
            refine CutK.norm [5, 6, 7, 8, 11, 12, 78] [320, 384, 448, 704, 1099000, 1099001, 1099003] ?_
            conv => whnf
            cases h
            exact Done.of [] [] rfl rfl ⟨⟨rfl, rfl⟩, ⟨rfl, trivial⟩, rfl, trivial⟩
      · replace h := condT h
        cases v73
        · replace h := condF h
          conv => whnf
          refine splT ?_
          conv => whnf
          refine CutK.norm [5, 6, 7, 8, 11, 12, 78] [320, 384, 448, 704, 1099000, 1099001, 1099003] ?_
          conv => whnf
          cases h
          exact Done.of [] [] rfl rfl ⟨⟨rfl, rfl⟩, ⟨rfl, trivial⟩, rfl, trivial⟩
        · replace h := condT h
          conv => whnf
          refine splT ?_
          conv => whnf
          refine CutK.norm [5, 6, 7, 8, 11, 12, 78] [320, 384, 448, 704, 1099000, 1099001, 1099003] ?_
          conv => whnf
          cases h
          exact Done.of [] [] rfl rfl ⟨⟨rfl, rfl⟩, ⟨rfl, trivial⟩, rfl, trivial⟩
    · replace h := condT h
      cases v66
      · replace h := condF h
        cases v73
        · replace h := condF h
          conv => whnf
          refine splT ?_
          conv => whnf
          refine CutK.norm [5, 6, 7, 8, 11, 12, 78] [320, 384, 448, 704, 1099000, 1099001, 1099003] ?_
          conv => whnf
          cases h
          exact Done.of [] [] rfl rfl ⟨⟨rfl, rfl⟩, ⟨rfl, trivial⟩, rfl, trivial⟩
        · replace h := condT h
          conv => whnf
          refine splT ?_
          conv => whnf
          refine CutK.norm [5, 6, 7, 8, 11, 12, 78] [320, 384, 448, 704, 1099000, 1099001, 1099003] ?_
          conv => whnf
          cases h
          exact Done.of [] [] rfl rfl ⟨⟨rfl, rfl⟩, ⟨rfl, trivial⟩, rfl, trivial⟩
      · replace h := condT h
        cases v73
        · replace h := condF h
          conv => whnf
          refine splF ?_
          conv => whnf
          refine Take.all (rfl) ?_
          conv => whnf
          refine Take.all (rfl) ?_
          conv => whnf
          obtain ⟨y378, e379, h⟩ := bind_ex h
          refine CallOk.of (laws_sameOrdinal_ct e379) ?_
          conv => whnf
          refine spl (fun g380 => ?_) (fun g380 => ?_)
          · replace h := iteT h g380
            conv => whnf
            refine splF ?_
            conv => whnf
            refine Take.all (rfl) ?_
            conv => whnf
            refine Take.all (rfl) ?_
            conv => whnf
            obtain ⟨y381, e382, h⟩ := bind_ex h
            refine CallOk.of (laws_sameOrdinal_ct e382) ?_
            conv => whnf
            refine spl (fun g383 => ?_) (fun g383 => ?_)
            · replace h := iteT h g383
              conv => whnf
              refine CutK.norm [5, 6, 7, 8, 11, 12, 78] [320, 384, 448, 704, 1099000, 1099001, 1099003] ?_
              conv => whnf
              exact CutK.piece (laws_FnNaturalOrdinals_p8_ct  h) [some 320, some 384, some 448, some 704, some 1099000, some 1099001, some 1099003] [] ⟨⟨rfl, rfl⟩, ⟨rfl, ⟨rfl, ⟨rfl, rfl⟩, trivial⟩, ⟨rfl, rfl, trivial⟩, ⟨rfl, ⟨rfl, rfl⟩, trivial⟩, ⟨rfl, ⟨rfl, rfl⟩, trivial⟩, ⟨rfl, rfl, rows_same⟩, ⟨rfl, rfl, rows_same⟩, ⟨rfl, rfl, rows_same⟩, trivial⟩, ⟨rfl, rfl⟩, ⟨rfl, rfl⟩, ⟨rfl, rfl⟩, rfl, ⟨rfl, rfl⟩, rfl, trivial⟩
            · replace h := iteF h g383
              conv => whnf
              refine CutK.norm [5, 6, 7, 8, 11, 12, 78] [320, 384, 448, 704, 1099000, 1099001, 1099003] ?_
              conv => whnf
              cases h
              exact Done.of [] [] rfl rfl ⟨⟨rfl, rfl⟩, ⟨rfl, trivial⟩, rfl, trivial⟩
          · replace h := iteF h g380
            conv => whnf
            refine CutK.norm [5, 6, 7, 8, 11, 12, 78] [320, 384, 448, 704, 1099000, 1099001, 1099003] ?_
            conv => whnf
            cases h
            exact Done.of [] [] rfl rfl ⟨⟨rfl, rfl⟩, ⟨rfl, trivial⟩, rfl, trivial⟩
        · replace h := condT h
          conv => whnf
          refine splF ?_
          conv => whnf
          refine Take.all (rfl) ?_
          conv => whnf
          refine Take.all (rfl) ?_
          conv => whnf
          obtain ⟨y384, e385, h⟩ := bind_ex h
          refine CallOk.of (laws_sameOrdinal_ct e385) ?_
          conv => whnf
          refine spl (fun g386 => ?_) (fun g386 => ?_)
          · replace h := iteT h g386
            conv => whnf
            refine splT ?_
            conv => whnf
            refine CutK.norm [5, 6, 7, 8, 11, 12, 78] [320, 384, 448, 704, 1099000, 1099001, 1099003] ?_
            conv => whnf
            cases h
            exact Done.of [] [] rfl rfl ⟨⟨rfl, rfl⟩, ⟨rfl, trivial⟩, rfl, trivial⟩
          · replace h := iteF h g386
            conv => whnf
            refine CutK.norm [5, 6, 7, 8, 11, 12, 78] [320, 384, 448, 704, 1099000, 1099001, 1099003] ?_
            conv => whnf
            cases h
            exact Done.of [] [] rfl rfl ⟨⟨rfl, rfl⟩, ⟨rfl, trivial⟩, rfl, trivial⟩
  · replace h := condT h
    cases v62
    · replace h := condF h
      cases v66
      · replace h := condF h
        cases v73
        · replace h := condF h
          conv => whnf
          refine splF ?_
          conv => whnf
          refine Take.all (rfl) ?_
          conv => whnf
          refine Take.all (rfl) ?_
          conv => whnf
          obtain ⟨y387, e388, h⟩ := bind_ex h
          refine CallOk.of (laws_sameOrdinal_ct e388) ?_
          conv => whnf
          refine spl (fun g389 => ?_) (fun g389 => ?_)
          · replace h := iteT h g389
            conv => whnf
            refine splT ?_
            conv => whnf
            refine CutK.norm [5, 6, 7, 8, 11, 12, 78] [320, 384, 448, 704, 1099000, 1099001, 1099003] ?_
            conv => whnf
            cases h
            exact Done.of [] [] rfl rfl ⟨⟨rfl, rfl⟩, ⟨rfl, trivial⟩, rfl, trivial⟩
          · replace h := iteF h g389
            conv => whnf
            refine CutK.norm [5, 6, 7, 8, 11, 12, 78] [320, 384, 448, 704, 1099000, 1099001, 1099003] ?_
            conv => whnf
            cases h
            exact Done.of [] [] rfl rfl ⟨⟨rfl, rfl⟩, ⟨rfl, trivial⟩, rfl, trivial⟩
        · replace h := condT h
          conv => whnf
          refine splF ?_
          conv => whnf
          refine Take.all (rfl) ?_
          conv => whnf
          refine Take.all (rfl) ?_
          conv => whnf
          obtain ⟨y390, e391, h⟩ := bind_ex h
          refine CallOk.of (laws_sameOrdinal_ct e391) ?_
          conv => whnf
          refine spl (fun g392 => ?_) (fun g392 => ?_)
          · replace h := iteT h g392
            conv => whnf
            refine splF ?_
            conv => whnf
            refine Take.all (rfl) ?_
            conv => whnf
            refine Take.all (rfl) ?_
            conv => whnf
            obtain ⟨y393, e394, h⟩ := bind_ex h
            refine CallOk.of (laws_sameOrdinal_ct e394) ?_
            conv => whnf
            refine spl (fun g395 => ?_) (fun g395 => ?_)
            · replace h := iteT h g395
              conv => whnf
              refine CutK.norm [5, 6, 7, 8, 11, 12, 78] [320, 384, 448, 704, 1099000, 1099001, 1099003] ?_
              conv => whnf
              exact CutK.piece (laws_FnNaturalOrdinals_p8_ct  h) [some 320, some 384, some 448, some 704, some 1099000, some 1099001, some 1099003] [] ⟨⟨rfl, rfl⟩, ⟨rfl, ⟨rfl, ⟨rfl, rfl⟩, trivial⟩, ⟨rfl, rfl, trivial⟩, ⟨rfl, ⟨rfl, rfl⟩, trivial⟩, ⟨rfl, ⟨rfl, rfl⟩, trivial⟩, ⟨rfl, rfl, rows_same⟩, ⟨rfl, rfl, rows_same⟩, ⟨rfl, rfl, rows_same⟩, trivial⟩, ⟨rfl, rfl⟩, ⟨rfl, rfl⟩, ⟨rfl, rfl⟩, rfl, ⟨rfl, rfl⟩, rfl, trivial⟩
            · replace h := iteF h g395
              conv => whnf
              refine CutK.norm [5, 6, 7, 8, 11, 12, 78] [320, 384, 448, 704, 1099000, 1099001, 1099003] ?_
              conv => whnf
              cases h
              exact Done.of [] [] rfl rfl ⟨⟨rfl, rfl⟩, ⟨rfl, trivial⟩, rfl, trivial⟩
          · replace h := iteF h g392
            conv => whnf
            refine CutK.norm [5, 6, 7, 8, 11, 12, 78] [320, 384, 448, 704, 1099000, 1099001, 1099003] ?_
            conv => whnf
            cases h
            exact Done.of [] [] rfl rfl ⟨⟨rfl, rfl⟩, ⟨rfl, trivial⟩, rfl, trivial⟩
      · replace h := condT h
        cases v73
        · replace h := condF h
          conv => whnf
          refine splT ?_
          conv => whnf
          refine CutK.norm [5, 6, 7, 8, 11, 12, 78] [320, 384, 448, 704, 1099000, 1099001, 1099003] ?_
          conv => whnf
          cases h
          exact Done.of [] [] rfl rfl ⟨⟨rfl, rfl⟩, ⟨rfl, trivial⟩, rfl, trivial⟩
        · replace h := condT h
          conv => whnf
          refine splT ?_
          conv => whnf
          refine CutK.norm [5, 6, 7, 8, 11, 12, 78] [320, 384, 448, 704, 1099000, 1099001, 1099003] ?_
          conv => whnf
          cases h
          exact Done.of [] [] rfl rfl ⟨⟨rfl, rfl⟩, ⟨rfl, trivial⟩, rfl, trivial⟩
    · replace h := condT h
      cases v66
      · replace h := condF h
        cases v73
        · replace h := condF h
          conv => whnf
          refine splT ?_
          conv => whnf
          refine CutK.norm [5, 6, 7, 8, 11, 12, 78] [320, 384, 448, 704, 1099000, 1099001, 1099003] ?_
          conv => whnf
          cases h
          exact Done.of [] [] rfl rfl ⟨⟨rfl, rfl⟩, ⟨rfl, trivial⟩, rfl, trivial⟩
        · replace h := condT h
          conv => whnf
          refine splT ?_
          conv => whnf
          refine CutK.norm [5, 6, 7, 8, 11, 12, 78] [320, 384, 448, 704, 1099000, 1099001, 1099003] ?_
          conv => whnf
          cases h
          exact Done.of [] [] rfl rfl ⟨⟨rfl, rfl⟩, ⟨rfl, trivial⟩, rfl, trivial⟩
      · replace h := condT h
        cases v73
        · replace h := condF h
          conv => whnf
          refine splF ?_
          conv => whnf
          refine Take.all (rfl) ?_
          conv => whnf
          refine Take.all (rfl) ?_
          conv => whnf
          obtain ⟨y396, e397, h⟩ := bind_ex h
          refine CallOk.of (laws_sameOrdinal_ct e397) ?_
          conv => whnf
          refine spl (fun g398 => ?_) (fun g398 => ?_)
          · replace h := iteT h g398
            conv => whnf
            refine splT ?_
            conv => whnf
            refine CutK.norm [5, 6, 7, 8, 11, 12, 78] [320, 384, 448, 704, 1099000, 1099001, 1099003] ?_
            conv => whnf
            cases h
            exact Done.of [] [] rfl rfl ⟨⟨rfl, rfl⟩, ⟨rfl, trivial⟩, rfl, trivial⟩
          · replace h := iteF h g398
            conv => whnf
            refine CutK.norm [5, 6, 7, 8, 11, 12, 78] [320, 384, 448, 704, 1099000, 1099001, 1099003] ?_
            conv => whnf
            cases h
            exact Done.of [] [] rfl rfl ⟨⟨rfl, rfl⟩, ⟨rfl, trivial⟩, rfl, trivial⟩
        · replace h := condT h
          conv => whnf
          refine splF ?_
          conv => whnf
          refine Take.all (rfl) ?_
          conv => whnf
          refine Take.all (rfl) ?_
          conv => whnf
          obtain ⟨y399, e400, h⟩ := bind_ex h
          refine CallOk.of (laws_sameOrdinal_ct e400) ?_
          conv => whnf
          refine spl (fun g401 => ?_) (fun g401 => ?_)
          · replace h := iteT h g401
            conv => whnf
            refine splF ?_
            conv => whnf
            refine Take.all (rfl) ?_
            conv => whnf
            refine Take.all (rfl) ?_
            conv => whnf
            obtain ⟨y402, e403, h⟩ := bind_ex h
            refine CallOk.of (laws_sameOrdinal_ct e403) ?_
            conv => whnf
            refine spl (fun g404 => ?_) (fun g404 => ?_)
            · replace h := iteT h g404
              conv => whnf
              refine CutK.norm [5, 6, 7, 8, 11, 12, 78] [320, 384, 448, 704, 1099000, 1099001, 1099003] ?_
              conv => whnf
              exact CutK.piece (laws_FnNaturalOrdinals_p8_ct  h) [some 320, some 384, some 448, some 704, some 1099000, some 1099001, some 1099003] [] ⟨⟨rfl, rfl⟩, ⟨rfl, ⟨rfl, ⟨rfl, rfl⟩, trivial⟩, ⟨rfl, rfl, trivial⟩, ⟨rfl, ⟨rfl, rfl⟩, trivial⟩, ⟨rfl, ⟨rfl, rfl⟩, trivial⟩, ⟨rfl, rfl, rows_same⟩, ⟨rfl, rfl, rows_same⟩, ⟨rfl, rfl, rows_same⟩, trivial⟩, ⟨rfl, rfl⟩, ⟨rfl, rfl⟩, ⟨rfl, rfl⟩, rfl, ⟨rfl, rfl⟩, rfl, trivial⟩
            · replace h := iteF h g404
              conv => whnf
              refine CutK.norm [5, 6, 7, 8, 11, 12, 78] [320, 384, 448, 704, 1099000, 1099001, 1099003] ?_
              conv => whnf
              cases h
              exact Done.of [] [] rfl rfl ⟨⟨rfl, rfl⟩, ⟨rfl, trivial⟩, rfl, trivial⟩
          · replace h := iteF h g401
            conv => whnf
            refine CutK.norm [5, 6, 7, 8, 11, 12, 78] [320, 384, 448, 704, 1099000, 1099001, 1099003] ?_
            conv => whnf
            cases h
            exact Done.of [] [] rfl rfl ⟨⟨rfl, rfl⟩, ⟨rfl, trivial⟩, rfl, trivial⟩
def laws_FnNaturalOrdinals_p6 (k : Nat) (o32 : Rw) (o33 : Rw) (o34 : Rw) (o35 : Rw) (o36 : Rw) (v37 : Bool) (v41 : Bool) (v45 : Bool) : Option Bool :=
  (cond v37 (cond v41 (cond v45 ((spec_NaturalProduct k o32 o33).bind fun y426 => (if y426.2 = true then (laws_FnNaturalOrdinals_p7 k o32 o33 o34 o35 o36 y426.1 true true true true) else (laws_FnNaturalOrdinals_p7 k o32 o33 o34 o35 o36 y426.1 false true true true))) ((spec_NaturalProduct k o32 o33).bind fun y423 => (if y423.2 = true then (laws_FnNaturalOrdinals_p7 k o32 o33 o34 o35 o36 y423.1 true false true true) else (laws_FnNaturalOrdinals_p7 k o32 o33 o34 o35 o36 y423.1 false false true true)))) (cond v45 ((spec_NaturalProduct k o32 o33).bind fun y420 => (if y420.2 = true then (laws_FnNaturalOrdinals_p7 k o32 o33 o34 o35 o36 y420.1 true true false true) else (laws_FnNaturalOrdinals_p7 k o32 o33 o34 o35 o36 y420.1 false true false true))) ((spec_NaturalProduct k o32 o33).bind fun y417 => (if y417.2 = true then (laws_FnNaturalOrdinals_p7 k o32 o33 o34 o35 o36 y417.1 true false false true) else (laws_FnNaturalOrdinals_p7 k o32 o33 o34 o35 o36 y417.1 false false false true))))) (cond v41 (cond v45 ((spec_NaturalProduct k o32 o33).bind fun y414 => (if y414.2 = true then (laws_FnNaturalOrdinals_p7 k o32 o33 o34 o35 o36 y414.1 true true true false) else (laws_FnNaturalOrdinals_p7 k o32 o33 o34 o35 o36 y414.1 false true true false))) ((spec_NaturalProduct k o32 o33).bind fun y411 => (if y411.2 = true then (laws_FnNaturalOrdinals_p7 k o32 o33 o34 o35 o36 y411.1 true false true false) else (laws_FnNaturalOrdinals_p7 k o32 o33 o34 o35 o36 y411.1 false false true false)))) (cond v45 ((spec_NaturalProduct k o32 o33).bind fun y408 => (if y408.2 = true then (laws_FnNaturalOrdinals_p7 k o32 o33 o34 o35 o36 y408.1 true true false false) else (laws_FnNaturalOrdinals_p7 k o32 o33 o34 o35 o36 y408.1 false true false false))) ((spec_NaturalProduct k o32 o33).bind fun y405 => (if y405.2 = true then (laws_FnNaturalOrdinals_p7 k o32 o33 o34 o35 o36 y405.1 true false false false) else (laws_FnNaturalOrdinals_p7 k o32 o33 o34 o35 o36 y405.1 false false false false))))))
set_option maxHeartbeats 4000000 in
set_option maxRecDepth 100000 in
theorem laws_FnNaturalOrdinals_p6_ct {k : Nat} {o32 : Rw} {o33 : Rw} {o34 : Rw} {o35 : Rw} {o36 : Rw} {v37 : Bool} {v41 : Bool} {v45 : Bool} {r : Bool} (h : laws_FnNaturalOrdinals_p6 k o32 o33 o34 o35 o36 v37 v41 v45 = some r) : X prog 0 (tlF f3 6) (mk 155 [(5, .ptr 320 0), (6, .ptr 384 0), (7, .ptr 448 0), (8, .d (D.bool v41)), (9, .ptr 576 0), (10, .d (D.bool v45)), (11, .ptr 704 0), (12, .d (D.bool v37))] [(320, .box 26 [.os 1094000 o32.length]), (384, .box 26 [.d (D.sl o33)]), (448, .box 26 [.os 1094001 o34.length]), (576, .box 26 [.os 1094002 o35.length]), (704, .box 26 [.os 1094003 o36.length]), (1094000, .arr 98 false o32), (1094001, .arr 98 true o34), (1094002, .arr 98 true o35), (1094003, .arr 98 true o36)]) (finK prog f3 0 (.d (D.bool r)) (⟨[], []⟩)) := by
  rw [laws_FnNaturalOrdinals_p6] at h
  cases v37
  · replace h := condF h
    cases v41
    · replace h := condF h
      cases v45
      · replace h := condF h
        conv => whnf
        refine Take.all (rfl) ?_
        conv => whnf
        obtain ⟨y405, e406, h⟩ := bind_ex h
        refine CallOk.of (spec_NaturalProduct_ct e406) ?_
        conv => whnf
        refine spl (fun g407 => ?_) (fun g407 => ?_)
        · replace h := iteT h g407
          conv => whnf
          exact CutK.piece (laws_FnNaturalOrdinals_p7_ct  h) [some 320, some 384, some 448, some 576, some 704, some 832, some 1094000, some 1094001, some 1094002, some 1094003, some 3584] [] ⟨⟨rfl, rfl⟩, ⟨rfl, ⟨rfl, ⟨rfl, rfl⟩, trivial⟩, ⟨rfl, rfl, trivial⟩, ⟨rfl, ⟨rfl, rfl⟩, trivial⟩, ⟨rfl, ⟨rfl, rfl⟩, trivial⟩, ⟨rfl, ⟨rfl, rfl⟩, trivial⟩, ⟨rfl, ⟨rfl, rfl⟩, trivial⟩, ⟨rfl, rfl, rows_same⟩, ⟨rfl, rfl, rows_same⟩, ⟨rfl, rfl, rows_same⟩, ⟨rfl, rfl, rows_same⟩, ⟨rfl, rfl, rows_same⟩, trivial⟩, ⟨rfl, rfl⟩, ⟨rfl, rfl⟩, ⟨rfl, rfl⟩, rfl, ⟨rfl, rfl⟩, rfl, ⟨rfl, rfl⟩, rfl, ⟨rfl, rfl⟩, rfl, trivial⟩
        · replace h := iteF h g407
          conv => whnf
          exact CutK.piece (laws_FnNaturalOrdinals_p7_ct  h) [some 320, some 384, some 448, some 576, some 704, some 832, some 1094000, some 1094001, some 1094002, some 1094003, some 3584] [] ⟨⟨rfl, rfl⟩, ⟨rfl, ⟨rfl, ⟨rfl, rfl⟩, trivial⟩, ⟨rfl, rfl, trivial⟩, ⟨rfl, ⟨rfl, rfl⟩, trivial⟩, ⟨rfl, ⟨rfl, rfl⟩, trivial⟩, ⟨rfl, ⟨rfl, rfl⟩, trivial⟩, ⟨rfl, ⟨rfl, rfl⟩, trivial⟩, ⟨rfl, rfl, rows_same⟩, ⟨rfl, rfl, rows_same⟩, ⟨rfl, rfl, rows_same⟩, ⟨rfl, rfl, rows_same⟩, ⟨rfl, rfl, rows_same⟩, trivial⟩, ⟨rfl, rfl⟩, ⟨rfl, rfl⟩, ⟨rfl, rfl⟩, rfl, ⟨rfl, rfl⟩, rfl, ⟨rfl, rfl⟩, rfl, ⟨rfl, rfl⟩, rfl, trivial⟩
      · replace h := condT h
        conv => whnf
        refine Take.all (rfl) ?_
        conv => whnf
        obtain ⟨y408, e409, h⟩ := bind_ex h
        refine CallOk.of (spec_NaturalProduct_ct e409) ?_
        conv => whnf
        refine spl (fun g410 => ?_) (fun g410 => ?_)
        · replace h := iteT h g410
          conv => whnf
          exact CutK.piece (laws_FnNaturalOrdinals_p7_ct  h) [some 320, some 384, some 448, some 576, some 704, some 832, some 1094000, some 1094001, some 1094002, some 1094003, some 3584] [] ⟨⟨rfl, rfl⟩, ⟨rfl, ⟨rfl, ⟨rfl, rfl⟩, trivial⟩, ⟨rfl, rfl, trivial⟩, ⟨rfl, ⟨rfl, rfl⟩, trivial⟩, ⟨rfl, ⟨rfl, rfl⟩, trivial⟩, ⟨rfl, ⟨rfl, rfl⟩, trivial⟩, ⟨rfl, ⟨rfl, rfl⟩, trivial⟩, ⟨rfl, rfl, rows_same⟩, ⟨rfl, rfl, rows_same⟩, ⟨rfl, rfl, rows_same⟩, ⟨rfl, rfl, rows_same⟩, ⟨rfl, rfl, rows_same⟩, trivial⟩, ⟨rfl, rfl⟩, ⟨rfl, rfl⟩, ⟨rfl, rfl⟩, rfl, ⟨rfl, rfl⟩, rfl, ⟨rfl, rfl⟩, rfl, ⟨rfl, rfl⟩, rfl, trivial⟩
        · replace h := iteF h g410
          conv => whnf
          exact CutK.piece (laws_FnNaturalOrdinals_p7_ct  h) [some 320, some 384, some 448, some 576, some 704, some 832, some 1094000, some 1094001, some 1094002, some 1094003, some 3584] [] ⟨⟨rfl, rfl⟩, ⟨rfl, ⟨rfl, ⟨rfl, rfl⟩, trivial⟩, ⟨rfl, rfl, trivial⟩, ⟨rfl, ⟨rfl, rfl⟩, trivial⟩, ⟨rfl, ⟨rfl, rfl⟩, trivial⟩, ⟨rfl, ⟨rfl, rfl⟩, trivial⟩, ⟨rfl, ⟨rfl, rfl⟩, trivial⟩, ⟨rfl, rfl, rows_same⟩, ⟨rfl, rfl, rows_same⟩, ⟨rfl, rfl, rows_same⟩, ⟨rfl, rfl, rows_same⟩, ⟨rfl, rfl, rows_same⟩, trivial⟩, ⟨rfl, rfl⟩, ⟨rfl, rfl⟩, ⟨rfl, rfl⟩, rfl, ⟨rfl, rfl⟩, rfl, ⟨rfl, rfl⟩, rfl, ⟨rfl, rfl⟩, rfl, trivial⟩
    · replace h := condT h
      cases v45
      · replace h := condF h
        conv => whnf
        refine Take.all (rfl) ?_
        conv => whnf
        obtain ⟨y411, e412, h⟩ := bind_ex h
        refine CallOk.of (spec_NaturalProduct_ct e412) ?_
        conv => whnf
        refine spl (fun g413 => ?_) (fun g413 => ?_)
        · replace h := iteT h g413
          conv => whnf
          exact CutK.piece (laws_FnNaturalOrdinals_p7_ct  h) [some 320, some 384, some 448, some 576, some 704, some 832, some 1094000, some 1094001, some 1094002, some 1094003, some 3584] [] ⟨⟨rfl, rfl⟩, ⟨rfl, ⟨rfl, ⟨rfl, rfl⟩, trivial⟩, ⟨rfl, rfl, trivial⟩, ⟨rfl, ⟨rfl, rfl⟩, trivial⟩, ⟨rfl, ⟨rfl, rfl⟩, trivial⟩, ⟨rfl, ⟨rfl, rfl⟩, trivial⟩, ⟨rfl, ⟨rfl, rfl⟩, trivial⟩, ⟨rfl, rfl, rows_same⟩, ⟨rfl, rfl, rows_same⟩, ⟨rfl, rfl, rows_same⟩, ⟨rfl, rfl, rows_same⟩, ⟨rfl, rfl, rows_same⟩, trivial⟩, ⟨rfl, rfl⟩, ⟨rfl, rfl⟩, ⟨rfl, rfl⟩, rfl, ⟨rfl, rfl⟩, rfl, ⟨rfl, rfl⟩, rfl, ⟨rfl, rfl⟩, rfl, trivial⟩
        · replace h := iteF h g413
          conv => whnf
          exact CutK.piece (laws_FnNaturalOrdinals_p7_ct  h) [some 320, some 384, some 448, some 576, some 704, some 832, some 1094000, some 1094001, some 1094002, some 1094003, some 3584] [] ⟨⟨rfl, rfl⟩, ⟨rfl, ⟨rfl, ⟨rfl, rfl⟩, trivial⟩, ⟨rfl, rfl, trivial⟩, ⟨rfl, ⟨rfl, rfl⟩, trivial⟩, ⟨rfl, ⟨rfl, rfl⟩, trivial⟩, ⟨rfl, ⟨rfl, rfl⟩, trivial⟩, ⟨rfl, ⟨rfl, rfl⟩, trivial⟩, ⟨rfl, rfl, rows_same⟩, ⟨rfl, rfl, rows_same⟩, ⟨rfl, rfl, rows_same⟩, ⟨rfl, rfl, rows_same⟩, ⟨rfl, rfl, rows_same⟩, trivial⟩, ⟨rfl, rfl⟩, ⟨rfl, rfl⟩, ⟨rfl, rfl⟩, rfl, ⟨rfl, rfl⟩, rfl, ⟨rfl, rfl⟩, rfl, ⟨rfl, rfl⟩, rfl, trivial⟩
      · replace h := condT h
        conv => whnf
        refine Take.all (rfl) ?_
        conv => whnf
        obtain ⟨y414, e415, h⟩ := bind_ex h
        refine CallOk.of (spec_NaturalProduct_ct e415) ?_
        conv => whnf
        refine spl (fun g416 => ?_) (fun g416 => ?_)
        · replace h := iteT h g416
          conv => whnf
          exact CutK.piece (laws_FnNaturalOrdinals_p7_ct  h) [some 320, some 384, some 448, some 576, some 704, some 832, some 1094000, some 1094001, some 1094002, some 1094003, some 3584] [] ⟨⟨rfl, rfl⟩, ⟨rfl, ⟨rfl, ⟨rfl, rfl⟩, trivial⟩, ⟨rfl, rfl, trivial⟩, ⟨rfl, ⟨rfl, rfl⟩, trivial⟩, ⟨rfl, ⟨rfl, rfl⟩, trivial⟩, ⟨rfl, ⟨rfl, rfl⟩, trivial⟩, ⟨rfl, ⟨rfl, rfl⟩, trivial⟩, ⟨rfl, rfl, rows_same⟩, ⟨rfl, rfl, rows_same⟩, ⟨rfl, rfl, rows_same⟩, ⟨rfl, rfl, rows_same⟩, ⟨rfl, rfl, rows_same⟩, trivial⟩, ⟨rfl, rfl⟩, ⟨rfl, rfl⟩, ⟨rfl, rfl⟩, rfl, ⟨rfl, rfl⟩, rfl, ⟨rfl, rfl⟩, rfl, ⟨rfl, rfl⟩, rfl, trivial⟩
        · replace h := iteF h g416
          conv => whnf
          exact CutK.piece (laws_FnNaturalOrdinals_p7_ct  h) [some 320, some 384, some 448, some 576, some 704, some 832, some 1094000, some 1094001, some 1094002, some 1094003, some 3584] [] ⟨⟨rfl, rfl⟩, ⟨rfl, ⟨rfl, ⟨rfl, rfl⟩, trivial⟩, ⟨rfl, rfl, trivial⟩, ⟨rfl, ⟨rfl, rfl⟩, trivial⟩, ⟨rfl, ⟨rfl, rfl⟩, trivial⟩, ⟨rfl, ⟨rfl, rfl⟩, trivial⟩, ⟨rfl, ⟨rfl, rfl⟩, trivial⟩, ⟨rfl, rfl, rows_same⟩, ⟨rfl, rfl, rows_same⟩, ⟨rfl, rfl, rows_same⟩, ⟨rfl, rfl, rows_same⟩, ⟨rfl, rfl, rows_same⟩, trivial⟩, ⟨rfl, rfl⟩, ⟨rfl, rfl⟩, ⟨rfl, rfl⟩, rfl, ⟨rfl, rfl⟩, rfl, ⟨rfl, rfl⟩, rfl, ⟨rfl, rfl⟩, rfl, trivial⟩
  · replace h := condT h
    cases v41
    · replace h := condF h
      cases v45
      · replace h := condF h
        conv => whnf
        refine Take.all (rfl) ?_
        conv => whnf
        obtain ⟨y417, e418, h⟩ := bind_ex h
        refine CallOk.of (spec_NaturalProduct_ct e418) ?_
        conv => whnf
        refine spl (fun g419 => ?_) (fun g419 => ?_)
        · replace h := iteT h g419
          conv => whnf
          exact CutK.piece (laws_FnNaturalOrdinals_p7_ct  h) [some 320, some 384, some 448, some 576, some 704, some 832, some 1094000, some 1094001, some 1094002, some 1094003, some 3584] [] ⟨⟨rfl, rfl⟩, ⟨rfl, ⟨rfl, ⟨rfl, rfl⟩, trivial⟩, ⟨rfl, rfl, trivial⟩, ⟨rfl, ⟨rfl, rfl⟩, trivial⟩, ⟨rfl, ⟨rfl, rfl⟩, trivial⟩, ⟨rfl, ⟨rfl, rfl⟩, trivial⟩, ⟨rfl, ⟨rfl, rfl⟩, trivial⟩, ⟨rfl, rfl, rows_same⟩, ⟨rfl, rfl, rows_same⟩, ⟨rfl, rfl, rows_same⟩, ⟨rfl, rfl, rows_same⟩, ⟨rfl, rfl, rows_same⟩, trivial⟩, ⟨rfl, rfl⟩, ⟨rfl, rfl⟩, ⟨rfl, rfl⟩, rfl, ⟨rfl, rfl⟩, rfl, ⟨rfl, rfl⟩, rfl, ⟨rfl, rfl⟩, rfl, trivial⟩
        · replace h := iteF h g419
          conv => whnf
          exact CutK.piece (laws_FnNaturalOrdinals_p7_ct  h) [some 320, some 384, some 448, some 576, some 704, some 832, some 1094000, some 1094001, some 1094002, some 1094003, some 3584] [] ⟨⟨rfl, rfl⟩, ⟨rfl, ⟨rfl, ⟨rfl, rfl⟩, trivial⟩, ⟨rfl, rfl, trivial⟩, ⟨rfl, ⟨rfl, rfl⟩, trivial⟩, ⟨rfl, ⟨rfl, rfl⟩, trivial⟩, ⟨rfl, ⟨rfl, rfl⟩, trivial⟩, ⟨rfl, ⟨rfl, rfl⟩, trivial⟩, ⟨rfl, rfl, rows_same⟩, ⟨rfl, rfl, rows_same⟩, ⟨rfl, rfl, rows_same⟩, ⟨rfl, rfl, rows_same⟩, ⟨rfl, rfl, rows_same⟩, trivial⟩, ⟨rfl, rfl⟩, ⟨rfl, rfl⟩, ⟨rfl, rfl⟩, rfl, ⟨rfl, rfl⟩, rfl, ⟨rfl, rfl⟩, rfl, ⟨rfl, rfl⟩, rfl, trivial⟩
      · replace h := condT h
        conv => whnf
        refine Take.all (rfl) ?_
        conv => whnf
        obtain ⟨y420, e421, h⟩ := bind_ex h
        refine CallOk.of (spec_NaturalProduct_ct e421) ?_
        conv => whnf
        refine spl (fun g422 => ?_) (fun g422 => ?_)
        · replace h := iteT h g422
          conv => whnf
          exact CutK.piece (laws_FnNaturalOrdinals_p7_ct  h) [some 320, some 384, some 448, some 576, some 704, some 832, some 1094000, some 1094001, some 1094002, some 1094003, some 3584] [] ⟨⟨rfl, rfl⟩, ⟨rfl, ⟨rfl, ⟨rfl, rfl⟩, trivial⟩, ⟨rfl, rfl, trivial⟩, ⟨rfl, ⟨rfl, rfl⟩, trivial⟩, ⟨rfl, ⟨rfl, rfl⟩, trivial⟩, ⟨rfl, ⟨rfl, rfl⟩, trivial⟩, ⟨rfl, ⟨rfl, rfl⟩, trivial⟩, ⟨rfl, rfl, rows_same⟩, ⟨rfl, rfl, rows_same⟩, ⟨rfl, rfl, rows_same⟩, ⟨rfl, rfl, rows_same⟩, ⟨rfl, rfl, rows_same⟩, trivial⟩, ⟨rfl, rfl⟩, ⟨rfl, rfl⟩, ⟨rfl, rfl⟩, rfl, ⟨rfl, rfl⟩, rfl, ⟨rfl, rfl⟩, rfl, ⟨rfl, rfl⟩, rfl, trivial⟩
        · replace h := iteF h g422
          conv => whnf
          exact CutK.piece (laws_FnNaturalOrdinals_p7_ct  h) [some 320, some 384, some 448, some 576, some 704, some 832, some 1094000, some 1094001, some 1094002, some 1094003, some 3584] [] ⟨⟨rfl, rfl⟩, ⟨rfl, ⟨rfl, ⟨rfl, rfl⟩, trivial⟩, ⟨rfl, rfl, trivial⟩, ⟨rfl, ⟨rfl, rfl⟩, trivial⟩, ⟨rfl, ⟨rfl, rfl⟩, trivial⟩, ⟨rfl, ⟨rfl, rfl⟩, trivial⟩, ⟨rfl, ⟨rfl, rfl⟩, trivial⟩, ⟨rfl, rfl, rows_same⟩, ⟨rfl, rfl, rows_same⟩, ⟨rfl, rfl, rows_same⟩, ⟨rfl, rfl, rows_same⟩, ⟨rfl, rfl, rows_same⟩, trivial⟩, ⟨rfl, rfl⟩, ⟨rfl, rfl⟩, ⟨rfl, rfl⟩, rfl, ⟨rfl, rfl⟩, rfl, ⟨rfl, rfl⟩, rfl, ⟨rfl, rfl⟩, rfl, trivial⟩
    · replace h := condT h
      cases v45
      · replace h := condF h
        conv => whnf
        refine Take.all (rfl) ?_
        conv => whnf
        obtain ⟨y423, e424, h⟩ := bind_ex h
        refine CallOk.of (spec_NaturalProduct_ct e424) ?_
        conv => whnf
        refine spl (fun g425 => ?_) (fun g425 => ?_)
        · replace h := iteT h g425
          conv => whnf
          exact CutK.piece (laws_FnNaturalOrdinals_p7_ct  h) [some 320, some 384, some 448, some 576, some 704, some 832, some 1094000, some 1094001, some 1094002, some 1094003, some 3584] [] ⟨⟨rfl, rfl⟩, ⟨rfl, ⟨rfl, ⟨rfl, rfl⟩, trivial⟩, ⟨rfl, rfl, trivial⟩, ⟨rfl, ⟨rfl, rfl⟩, trivial⟩, ⟨rfl, ⟨rfl, rfl⟩, trivial⟩, ⟨rfl, ⟨rfl, rfl⟩, trivial⟩, ⟨rfl, ⟨rfl, rfl⟩, trivial⟩, ⟨rfl, rfl, rows_same⟩, ⟨rfl, rfl, rows_same⟩, ⟨rfl, rfl, rows_same⟩, ⟨rfl, rfl, rows_same⟩, ⟨rfl, rfl, rows_same⟩, trivial⟩, ⟨rfl, rfl⟩, ⟨rfl, rfl⟩, ⟨rfl, rfl⟩, rfl, ⟨rfl, rfl⟩, rfl, ⟨rfl, rfl⟩, rfl, ⟨rfl, rfl⟩, rfl, trivial⟩
        · replace h := iteF h g425
          conv => whnf
          exact CutK.piece (laws_FnNaturalOrdinals_p7_ct  h) [some 320, some 384, some 448, some 576, some 704, some 832, some 1094000, some 1094001, some 1094002, some 1094003, some 3584] [] ⟨⟨rfl, rfl⟩, ⟨rfl, ⟨rfl, ⟨rfl, rfl⟩, trivial⟩, ⟨rfl, rfl, trivial⟩, ⟨rfl, ⟨rfl, rfl⟩, trivial⟩, ⟨rfl, ⟨rfl, rfl⟩, trivial⟩, ⟨rfl, ⟨rfl, rfl⟩, trivial⟩, ⟨rfl, ⟨rfl, rfl⟩, trivial⟩, ⟨rfl, rfl, rows_same⟩, ⟨rfl, rfl, rows_same⟩, ⟨rfl, rfl, rows_same⟩, ⟨rfl, rfl, rows_same⟩, ⟨rfl, rfl, rows_same⟩, trivial⟩, ⟨rfl, rfl⟩, ⟨rfl, rfl⟩, ⟨rfl, rfl⟩, rfl, ⟨rfl, rfl⟩, rfl, ⟨rfl, rfl⟩, rfl, ⟨rfl, rfl⟩, rfl, trivial⟩
      · replace h := condT h
        conv => whnf
        refine Take.all (rfl) ?_
        conv => whnf
        obtain ⟨y426, e427, h⟩ := bind_ex h
        refine CallOk.of (spec_NaturalProduct_ct e427) ?_
        conv => whnf
        refine spl (fun g428 => ?_) (fun g428 => ?_)
        · replace h := iteT h g428
          conv => whnf
          exact CutK.piece (laws_FnNaturalOrdinals_p7_ct  h) [some 320, some 384, some 448, some 576, some 704, some 832, some 1094000, some 1094001, some 1094002, some 1094003, some 3584] [] ⟨⟨rfl, rfl⟩, ⟨rfl, ⟨rfl, ⟨rfl, rfl⟩, trivial⟩, ⟨rfl, rfl, trivial⟩, ⟨rfl, ⟨rfl, rfl⟩, trivial⟩, ⟨rfl, ⟨rfl, rfl⟩, trivial⟩, ⟨rfl, ⟨rfl, rfl⟩, trivial⟩, ⟨rfl, ⟨rfl, rfl⟩, trivial⟩, ⟨rfl, rfl, rows_same⟩, ⟨rfl, rfl, rows_same⟩, ⟨rfl, rfl, rows_same⟩, ⟨rfl, rfl, rows_same⟩, ⟨rfl, rfl, rows_same⟩, trivial⟩, ⟨rfl, rfl⟩, ⟨rfl, rfl⟩, ⟨rfl, rfl⟩, rfl, ⟨rfl, rfl⟩, rfl, ⟨rfl, rfl⟩, rfl, ⟨rfl, rfl⟩, rfl, trivial⟩
        · replace h := iteF h g428
          conv => whnf
          exact CutK.piece (laws_FnNaturalOrdinals_p7_ct  h) [some 320, some 384, some 448, some 576, some 704, some 832, some 1094000, some 1094001, some 1094002, some 1094003, some 3584] [] ⟨⟨rfl, rfl⟩, ⟨rfl, ⟨rfl, ⟨rfl, rfl⟩, trivial⟩, ⟨rfl, rfl, trivial⟩, ⟨rfl, ⟨rfl, rfl⟩, trivial⟩, ⟨rfl, ⟨rfl, rfl⟩, trivial⟩, ⟨rfl, ⟨rfl, rfl⟩, trivial⟩, ⟨rfl, ⟨rfl, rfl⟩, trivial⟩, ⟨rfl, rfl, rows_same⟩, ⟨rfl, rfl, rows_same⟩, ⟨rfl, rfl, rows_same⟩, ⟨rfl, rfl, rows_same⟩, ⟨rfl, rfl, rows_same⟩, trivial⟩, ⟨rfl, rfl⟩, ⟨rfl, rfl⟩, ⟨rfl, rfl⟩, rfl, ⟨rfl, rfl⟩, rfl, ⟨rfl, rfl⟩, rfl, ⟨rfl, rfl⟩, rfl, trivial⟩
def laws_FnNaturalOrdinals_p5 (k : Nat) (o20 : Rw) (o21 : Rw) (o22 : Rw) (o23 : Rw) (v24 : Bool) (v28 : Bool) : Option Bool :=
  (cond v24 (cond v28 ((impl_NaturalProduct k o20 o21).bind fun y438 => (if y438.2 = true then (laws_FnNaturalOrdinals_p6 k o20 o21 o22 o23 y438.1 true true true) else (laws_FnNaturalOrdinals_p6 k o20 o21 o22 o23 y438.1 false true true))) ((impl_NaturalProduct k o20 o21).bind fun y435 => (if y435.2 = true then (laws_FnNaturalOrdinals_p6 k o20 o21 o22 o23 y435.1 true false true) else (laws_FnNaturalOrdinals_p6 k o20 o21 o22 o23 y435.1 false false true)))) (cond v28 ((impl_NaturalProduct k o20 o21).bind fun y432 => (if y432.2 = true then (laws_FnNaturalOrdinals_p6 k o20 o21 o22 o23 y432.1 true true false) else (laws_FnNaturalOrdinals_p6 k o20 o21 o22 o23 y432.1 false true false))) ((impl_NaturalProduct k o20 o21).bind fun y429 => (if y429.2 = true then (laws_FnNaturalOrdinals_p6 k o20 o21 o22 o23 y429.1 true false false) else (laws_FnNaturalOrdinals_p6 k o20 o21 o22 o23 y429.1 false false false)))))
set_option maxHeartbeats 4000000 in
set_option maxRecDepth 100000 in
theorem laws_FnNaturalOrdinals_p5_ct {k : Nat} {o20 : Rw} {o21 : Rw} {o22 : Rw} {o23 : Rw} {v24 : Bool} {v28 : Bool} {r : Bool} (h : laws_FnNaturalOrdinals_p5 k o20 o21 o22 o23 v24 v28 = some r) : X prog 0 (tlF f3 5) (mk 155 [(5, .ptr 320 0), (6, .ptr 384 0), (7, .ptr 448 0), (8, .d (D.bool v28)), (9, .ptr 576 0), (10, .d (D.bool v24))] [(320, .box 26 [.os 1089000 o20.length]), (384, .box 26 [.d (D.sl o21)]), (448, .box 26 [.os 1089001 o22.length]), (576, .box 26 [.os 1089002 o23.length]), (1089000, .arr 98 false o20), (1089001, .arr 98 true o22), (1089002, .arr 98 true o23)]) (finK prog f3 0 (.d (D.bool r)) (⟨[], []⟩)) := by
  rw [laws_FnNaturalOrdinals_p5] at h
  cases v24
  · replace h := condF h
    cases v28
    · replace h := condF h
      conv => whnf
      refine Take.all (rfl) ?_
      conv => whnf
      obtain ⟨y429, e430, h⟩ := bind_ex h
      refine CallOk.of (impl_NaturalProduct_ct e430) ?_
      conv => whnf
      refine spl (fun g431 => ?_) (fun g431 => ?_)
      · replace h := iteT h g431
        conv => whnf
        exact CutK.piece (laws_FnNaturalOrdinals_p6_ct  h) [some 320, some 384, some 448, some 576, some 704, some 1089000, some 1089001, some 1089002, some 3200] [] ⟨⟨rfl, rfl⟩, ⟨rfl, ⟨rfl, ⟨rfl, rfl⟩, trivial⟩, ⟨rfl, rfl, trivial⟩, ⟨rfl, ⟨rfl, rfl⟩, trivial⟩, ⟨rfl, ⟨rfl, rfl⟩, trivial⟩, ⟨rfl, ⟨rfl, rfl⟩, trivial⟩, ⟨rfl, rfl, rows_same⟩, ⟨rfl, rfl, rows_same⟩, ⟨rfl, rfl, rows_same⟩, ⟨rfl, rfl, rows_same⟩, trivial⟩, ⟨rfl, rfl⟩, ⟨rfl, rfl⟩, ⟨rfl, rfl⟩, rfl, ⟨rfl, rfl⟩, rfl, ⟨rfl, rfl⟩, rfl, trivial⟩
      · replace h := iteF h g431
        conv => whnf
        exact CutK.piece (laws_FnNaturalOrdinals_p6_ct  h) [some 320, some 384, some 448, some 576, some 704, some 1089000, some 1089001, some 1089002, some 3200] [] ⟨⟨rfl, rfl⟩, ⟨rfl, ⟨rfl, ⟨rfl, rfl⟩, trivial⟩, ⟨rfl, rfl, trivial⟩, ⟨rfl, ⟨rfl, rfl⟩, trivial⟩, ⟨rfl, ⟨rfl, rfl⟩, trivial⟩, ⟨rfl, ⟨rfl, rfl⟩, trivial⟩, ⟨rfl, rfl, rows_same⟩, ⟨rfl, rfl, rows_same⟩, ⟨rfl, rfl, rows_same⟩, ⟨rfl, rfl, rows_same⟩, trivial⟩, ⟨rfl, rfl⟩, ⟨rfl, rfl⟩, ⟨rfl, rfl⟩, rfl, ⟨rfl, rfl⟩, rfl, ⟨rfl, rfl⟩, rfl, trivial⟩
    · replace h := condT h
      conv => whnf
      refine Take.all (rfl) ?_
      conv => whnf
      obtain ⟨y432, e433, h⟩ := bind_ex h
      refine CallOk.of (impl_NaturalProduct_ct e433) ?_
      conv => whnf
      refine spl (fun g434 => ?_) (fun g434 => ?_)
      · replace h := iteT h g434
        conv => whnf
        exact CutK.piece (laws_FnNaturalOrdinals_p6_ct  h) [some 320, some 384, some 448, some 576, some 704, some 1089000, some 1089001, some 1089002, some 3200] [] ⟨⟨rfl, rfl⟩, ⟨rfl, ⟨rfl, ⟨rfl, rfl⟩, trivial⟩, ⟨rfl, rfl, trivial⟩, ⟨rfl, ⟨rfl, rfl⟩, trivial⟩, ⟨rfl, ⟨rfl, rfl⟩, trivial⟩, ⟨rfl, ⟨rfl, rfl⟩, trivial⟩, ⟨rfl, rfl, rows_same⟩, ⟨rfl, rfl, rows_same⟩, ⟨rfl, rfl, rows_same⟩, ⟨rfl, rfl, rows_same⟩, trivial⟩, ⟨rfl, rfl⟩, ⟨rfl, rfl⟩, ⟨rfl, rfl⟩, rfl, ⟨rfl, rfl⟩, rfl, ⟨rfl, rfl⟩, rfl, trivial⟩
      · replace h := iteF h g434
        conv => whnf
        exact CutK.piece (laws_FnNaturalOrdinals_p6_ct  h) [some 320, some 384, some 448, some 576, some 704, some 1089000, some 1089001, some 1089002, some 3200] [] ⟨⟨rfl, rfl⟩, ⟨rfl, ⟨rfl, ⟨rfl, rfl⟩, trivial⟩, ⟨rfl, rfl, trivial⟩, ⟨rfl, ⟨rfl, rfl⟩, trivial⟩, ⟨rfl, ⟨rfl, rfl⟩, trivial⟩, ⟨rfl, ⟨rfl, rfl⟩, trivial⟩, ⟨rfl, rfl, rows_same⟩, ⟨rfl, rfl, rows_same⟩, ⟨rfl, rfl, rows_same⟩, ⟨rfl, rfl, rows_same⟩, trivial⟩, ⟨rfl, rfl⟩, ⟨rfl, rfl⟩, ⟨rfl, rfl⟩, rfl, ⟨rfl, rfl⟩, rfl, ⟨rfl, rfl⟩, rfl, trivial⟩
  · replace h := condT h
    cases v28
    · replace h := condF h
      conv => whnf
      refine Take.all (rfl) ?_
      conv => whnf
      obtain ⟨y435, e436, h⟩ := bind_ex h
      refine CallOk.of (impl_NaturalProduct_ct e436) ?_
      conv => whnf
      refine spl (fun g437 => ?_) (fun g437 => ?_)
      · replace h := iteT h g437
        conv => whnf
        exact CutK.piece (laws_FnNaturalOrdinals_p6_ct  h) [some 320, some 384, some 448, some 576, some 704, some 1089000, some 1089001, some 1089002, some 3200] [] ⟨⟨rfl, rfl⟩, ⟨rfl, ⟨rfl, ⟨rfl, rfl⟩, trivial⟩, ⟨rfl, rfl, trivial⟩, ⟨rfl, ⟨rfl, rfl⟩, trivial⟩, ⟨rfl, ⟨rfl, rfl⟩, trivial⟩, ⟨rfl, ⟨rfl, rfl⟩, trivial⟩, ⟨rfl, rfl, rows_same⟩, ⟨rfl, rfl, rows_same⟩, ⟨rfl, rfl, rows_same⟩, ⟨rfl, rfl, rows_same⟩, trivial⟩, ⟨rfl, rfl⟩, ⟨rfl, rfl⟩, ⟨rfl, rfl⟩, rfl, ⟨rfl, rfl⟩, rfl, ⟨rfl, rfl⟩, rfl, trivial⟩
      · replace h := iteF h g437
        conv => whnf
        exact CutK.piece (laws_FnNaturalOrdinals_p6_ct  h) [some 320, some 384, some 448, some 576, some 704, some 1089000, some 1089001, some 1089002, some 3200] [] ⟨⟨rfl, rfl⟩, ⟨rfl, ⟨rfl, ⟨rfl, rfl⟩, trivial⟩, ⟨rfl, rfl, trivial⟩, ⟨rfl, ⟨rfl, rfl⟩, trivial⟩, ⟨rfl, ⟨rfl, rfl⟩, trivial⟩, ⟨rfl, ⟨rfl, rfl⟩, trivial⟩, ⟨rfl, rfl, rows_same⟩, ⟨rfl, rfl, rows_same⟩, ⟨rfl, rfl, rows_same⟩, ⟨rfl, rfl, rows_same⟩, trivial⟩, ⟨rfl, rfl⟩, ⟨rfl, rfl⟩, ⟨rfl, rfl⟩, rfl, ⟨rfl, rfl⟩, rfl, ⟨rfl, rfl⟩, rfl, trivial⟩
    · replace h := condT h
      conv => whnf
      refine Take.all (rfl) ?_
      conv => whnf
      obtain ⟨y438, e439, h⟩ := bind_ex h
      refine CallOk.of (impl_NaturalProduct_ct e439) ?_
      conv => whnf
      refine spl (fun g440 => ?_) (fun g440 => ?_)
      · replace h := iteT h g440
        conv => whnf
        exact CutK.piece (laws_FnNaturalOrdinals_p6_ct  h) [some 320, some 384, some 448, some 576, some 704, some 1089000, some 1089001, some 1089002, some 3200] [] ⟨⟨rfl, rfl⟩, ⟨rfl, ⟨rfl, ⟨rfl, rfl⟩, trivial⟩, ⟨rfl, rfl, trivial⟩, ⟨rfl, ⟨rfl, rfl⟩, trivial⟩, ⟨rfl, ⟨rfl, rfl⟩, trivial⟩, ⟨rfl, ⟨rfl, rfl⟩, trivial⟩, ⟨rfl, rfl, rows_same⟩, ⟨rfl, rfl, rows_same⟩, ⟨rfl, rfl, rows_same⟩, ⟨rfl, rfl, rows_same⟩, trivial⟩, ⟨rfl, rfl⟩, ⟨rfl, rfl⟩, ⟨rfl, rfl⟩, rfl, ⟨rfl, rfl⟩, rfl, ⟨rfl, rfl⟩, rfl, trivial⟩
      · replace h := iteF h g440
        conv => whnf
        exact CutK.piece (laws_FnNaturalOrdinals_p6_ct  h) [some 320, some 384, some 448, some 576, some 704, some 1089000, some 1089001, some 1089002, some 3200] [] ⟨⟨rfl, rfl⟩, ⟨rfl, ⟨rfl, ⟨rfl, rfl⟩, trivial⟩, ⟨rfl, rfl, trivial⟩, ⟨rfl, ⟨rfl, rfl⟩, trivial⟩, ⟨rfl, ⟨rfl, rfl⟩, trivial⟩, ⟨rfl, ⟨rfl, rfl⟩, trivial⟩, ⟨rfl, rfl, rows_same⟩, ⟨rfl, rfl, rows_same⟩, ⟨rfl, rfl, rows_same⟩, ⟨rfl, rfl, rows_same⟩, trivial⟩, ⟨rfl, rfl⟩, ⟨rfl, rfl⟩, ⟨rfl, rfl⟩, rfl, ⟨rfl, rfl⟩, rfl, ⟨rfl, rfl⟩, rfl, trivial⟩
def laws_FnNaturalOrdinals_p4 (k : Nat) (o13 : Rw) (o14 : Rw) (o15 : Rw) (v16 : Bool) : Option Bool :=
  (cond v16 ((spec_NaturalSum k o13 o14).bind fun y444 => (if y444.2 = true then (laws_FnNaturalOrdinals_p5 k o13 o14 o15 y444.1 true true) else (laws_FnNaturalOrdinals_p5 k o13 o14 o15 y444.1 false true))) ((spec_NaturalSum k o13 o14).bind fun y441 => (if y441.2 = true then (laws_FnNaturalOrdinals_p5 k o13 o14 o15 y441.1 true false) else (laws_FnNaturalOrdinals_p5 k o13 o14 o15 y441.1 false false))))
set_option maxHeartbeats 4000000 in
set_option maxRecDepth 100000 in
theorem laws_FnNaturalOrdinals_p4_ct {k : Nat} {o13 : Rw} {o14 : Rw} {o15 : Rw} {v16 : Bool} {r : Bool} (h : laws_FnNaturalOrdinals_p4 k o13 o14 o15 v16 = some r) : X prog 0 (tlF f3 4) (mk 155 [(5, .ptr 320 0), (6, .ptr 384 0), (7, .ptr 448 0), (8, .d (D.bool v16))] [(320, .box 26 [.os 1084000 o13.length]), (384, .box 26 [.d (D.sl o14)]), (448, .box 26 [.os 1084001 o15.length]), (1084000, .arr 98 false o13), (1084001, .arr 98 true o15)]) (finK prog f3 0 (.d (D.bool r)) (⟨[], []⟩)) := by
  rw [laws_FnNaturalOrdinals_p4] at h
  cases v16
  · replace h := condF h
    conv => whnf
    refine Take.all (rfl) ?_
    conv => whnf
    obtain ⟨y441, e442, h⟩ := bind_ex h
    refine CallOk.of (spec_NaturalSum_ct e442) ?_
    conv => whnf
    refine spl (fun g443 => ?_) (fun g443 => ?_)
    · replace h := iteT h g443
      conv => whnf
      exact CutK.piece (laws_FnNaturalOrdinals_p5_ct  h) [some 320, some 384, some 448, some 576, some 1084000, some 1084001, some 2816] [] ⟨⟨rfl, rfl⟩, ⟨rfl, ⟨rfl, ⟨rfl, rfl⟩, trivial⟩, ⟨rfl, rfl, trivial⟩, ⟨rfl, ⟨rfl, rfl⟩, trivial⟩, ⟨rfl, ⟨rfl, rfl⟩, trivial⟩, ⟨rfl, rfl, rows_same⟩, ⟨rfl, rfl, rows_same⟩, ⟨rfl, rfl, rows_same⟩, trivial⟩, ⟨rfl, rfl⟩, ⟨rfl, rfl⟩, ⟨rfl, rfl⟩, rfl, ⟨rfl, rfl⟩, rfl, trivial⟩
    · replace h := iteF h g443
      conv => whnf
      exact CutK.piece (laws_FnNaturalOrdinals_p5_ct  h) [some 320, some 384, some 448, some 576, some 1084000, some 1084001, some 2816] [] ⟨⟨rfl, rfl⟩, ⟨rfl, ⟨rfl, ⟨rfl, rfl⟩, trivial⟩, ⟨rfl, rfl, trivial⟩, ⟨rfl, ⟨rfl, rfl⟩, trivial⟩, ⟨rfl, ⟨rfl, rfl⟩, trivial⟩, ⟨rfl, rfl, rows_same⟩, ⟨rfl, rfl, rows_same⟩, ⟨rfl, rfl, rows_same⟩, trivial⟩, ⟨rfl, rfl⟩, ⟨rfl, rfl⟩, ⟨rfl, rfl⟩, rfl, ⟨rfl, rfl⟩, rfl, trivial⟩
  · replace h := condT h
    conv => whnf
    refine Take.all (rfl) ?_
    conv => whnf
    obtain ⟨y444, e445, h⟩ := bind_ex h
    refine CallOk.of (spec_NaturalSum_ct e445) ?_
    conv => whnf
    refine spl (fun g446 => ?_) (fun g446 => ?_)
    · replace h := iteT h g446
      conv => whnf
      exact CutK.piece (laws_FnNaturalOrdinals_p5_ct  h) [some 320, some 384, some 448, some 576, some 1084000, some 1084001, some 2816] [] ⟨⟨rfl, rfl⟩, ⟨rfl, ⟨rfl, ⟨rfl, rfl⟩, trivial⟩, ⟨rfl, rfl, trivial⟩, ⟨rfl, ⟨rfl, rfl⟩, trivial⟩, ⟨rfl, ⟨rfl, rfl⟩, trivial⟩, ⟨rfl, rfl, rows_same⟩, ⟨rfl, rfl, rows_same⟩, ⟨rfl, rfl, rows_same⟩, trivial⟩, ⟨rfl, rfl⟩, ⟨rfl, rfl⟩, ⟨rfl, rfl⟩, rfl, ⟨rfl, rfl⟩, rfl, trivial⟩
    · replace h := iteF h g446
      conv => whnf
      exact CutK.piece (laws_FnNaturalOrdinals_p5_ct  h) [some 320, some 384, some 448, some 576, some 1084000, some 1084001, some 2816] [] ⟨⟨rfl, rfl⟩, ⟨rfl, ⟨rfl, ⟨rfl, rfl⟩, trivial⟩, ⟨rfl, rfl, trivial⟩, ⟨rfl, ⟨rfl, rfl⟩, trivial⟩, ⟨rfl, ⟨rfl, rfl⟩, trivial⟩, ⟨rfl, rfl, rows_same⟩, ⟨rfl, rfl, rows_same⟩, ⟨rfl, rfl, rows_same⟩, trivial⟩, ⟨rfl, rfl⟩, ⟨rfl, rfl⟩, ⟨rfl, rfl⟩, rfl, ⟨rfl, rfl⟩, rfl, trivial⟩
def laws_FnNaturalOrdinals_p3 (k : Nat) (o8 : Rw) (o9 : Rw) : Option Bool :=
  ((impl_NaturalSum k o8 o9).bind fun y447 => (if y447.2 = true then (laws_FnNaturalOrdinals_p4 k o8 o9 y447.1 true) else (laws_FnNaturalOrdinals_p4 k o8 o9 y447.1 false)))
set_option maxHeartbeats 4000000 in
set_option maxRecDepth 100000 in
theorem laws_FnNaturalOrdinals_p3_ct {k : Nat} {o8 : Rw} {o9 : Rw} {r : Bool} (h : laws_FnNaturalOrdinals_p3 k o8 o9 = some r) : X prog 0 (tlF f3 3) (mk 155 [(5, .ptr 320 0), (6, .ptr 384 0)] [(320, .box 26 [.os 1079000 o8.length]), (384, .box 26 [.d (D.sl o9)]), (1079000, .arr 98 false o8)]) (finK prog f3 0 (.d (D.bool r)) (⟨[], []⟩)) := by
  rw [laws_FnNaturalOrdinals_p3] at h
  conv => whnf
  refine Take.all (rfl) ?_
  conv => whnf
  obtain ⟨y447, e448, h⟩ := bind_ex h
  refine CallOk.of (impl_NaturalSum_ct e448) ?_
  conv => whnf
  refine spl (fun g449 => ?_) (fun g449 => ?_)
  · replace h := iteT h g449
    conv => whnf
    exact CutK.piece (laws_FnNaturalOrdinals_p4_ct  h) [some 320, some 384, some 448, some 1079000, some 2432] [] ⟨⟨rfl, rfl⟩, ⟨rfl, ⟨rfl, ⟨rfl, rfl⟩, trivial⟩, ⟨rfl, rfl, trivial⟩, ⟨rfl, ⟨rfl, rfl⟩, trivial⟩, ⟨rfl, rfl, rows_same⟩, ⟨rfl, rfl, rows_same⟩, trivial⟩, ⟨rfl, rfl⟩, ⟨rfl, rfl⟩, ⟨rfl, rfl⟩, rfl, trivial⟩
  · replace h := iteF h g449
    conv => whnf
    exact CutK.piece (laws_FnNaturalOrdinals_p4_ct  h) [some 320, some 384, some 448, some 1079000, some 2432] [] ⟨⟨rfl, rfl⟩, ⟨rfl, ⟨rfl, ⟨rfl, rfl⟩, trivial⟩, ⟨rfl, rfl, trivial⟩, ⟨rfl, ⟨rfl, rfl⟩, trivial⟩, ⟨rfl, rfl, rows_same⟩, ⟨rfl, rfl, rows_same⟩, trivial⟩, ⟨rfl, rfl⟩, ⟨rfl, rfl⟩, ⟨rfl, rfl⟩, rfl, trivial⟩
def laws_FnNaturalOrdinals_p2 (k : Nat) (a1 : Rw) : Option Bool :=
  ((spec_DrawAddOrdinals k a1).bind fun y450 => (laws_FnNaturalOrdinals_p3 k y450.1 y450.2))
set_option maxHeartbeats 4000000 in
set_option maxRecDepth 100000 in
theorem laws_FnNaturalOrdinals_p2_ct {k : Nat} {a1 : Rw} {r : Bool} (h : laws_FnNaturalOrdinals_p2 k a1 = some r) : X prog 0 (tlF f3 2) (mk 155 [(0, .d (D.sl a1))] []) (finK prog f3 0 (.d (D.bool r)) (⟨[], []⟩)) := by
  rw [laws_FnNaturalOrdinals_p2] at h
  conv => whnf
  obtain ⟨y450, e451, h⟩ := bind_ex h
  refine CallOk.of (spec_DrawAddOrdinals_ct e451) ?_
  conv => whnf
  exact CutK.piece (laws_FnNaturalOrdinals_p3_ct  h) [some 320, some 384, some 2048] [] ⟨⟨rfl, rfl⟩, ⟨rfl, ⟨rfl, ⟨rfl, rfl⟩, trivial⟩, ⟨rfl, rfl, trivial⟩, ⟨rfl, rfl, rows_same⟩, trivial⟩, ⟨rfl, rfl⟩, ⟨rfl, rfl⟩, trivial⟩
def laws_FnNaturalOrdinals (k : Nat) (a1 : Rw) (a2 : Rw) : Option Bool :=
  ((laws_big a1 a2).bind fun y452 => (if y452 = true then some true else (laws_FnNaturalOrdinals_p2 k a1)))
set_option maxHeartbeats 4000000 in
set_option maxRecDepth 100000 in
theorem laws_FnNaturalOrdinals_ct {k : Nat} {a1 : Rw} {a2 : Rw} {r : Bool} (h : laws_FnNaturalOrdinals k a1 a2 = some r) : Ct prog 3 [.d (D.sl a1), .d (D.sl a2)] (⟨[], []⟩) (.d (D.bool r)) (⟨[], []⟩) := by
  rw [laws_FnNaturalOrdinals] at h
  refine Ct.of (c := _) mixed func3 ⟨rfl, rfl, rfl⟩ ?_ rfl
  conv => whnf
  obtain ⟨y452, e453, h⟩ := bind_ex h
  refine CallOk.of (laws_big_ct e453) ?_
  conv => whnf
  refine spl (fun g454 => ?_) (fun g454 => ?_)
  · replace h := iteT h g454
    conv => whnf
    refine CutK.norm [0, 29] [] ?_
    conv => whnf
    cases h
    exact Done.of [] [] rfl rfl ⟨⟨rfl, rfl⟩, ⟨rfl, trivial⟩, rfl, trivial⟩
  · replace h := iteF h g454
    conv => whnf
    refine CutK.norm [0, 29] [] ?_
    conv => whnf
    exact CutK.piece (laws_FnNaturalOrdinals_p2_ct  h) [] [] ⟨⟨rfl, rfl⟩, ⟨rfl, trivial⟩, rfl, trivial⟩
end
end Go.Proofs.Try
