/- Printed by program (axgen): pure functions, and that the Go functions compute them. -/
import Derived.Test.YtkloidpjgdlpkaaSumsG0
namespace Go.Proofs.Try
open Go Go.AX
noncomputable section
def laws_FnOrdinalSums_p20  : Option Bool :=
  some true
set_option maxHeartbeats 4000000 in
set_option maxRecDepth 100000 in
theorem laws_FnOrdinalSums_p20_ct  {r : Bool} (h : laws_FnOrdinalSums_p20 = some r) : X prog 0 (tlF f3 20) (mk 160 [] []) (finK prog f3 0 (.d (D.bool r)) (⟨[], []⟩)) := by
  rw [laws_FnOrdinalSums_p20] at h
  conv => whnf
  cases h
  exact Done.of [] [] rfl rfl ⟨⟨rfl, rfl⟩, ⟨rfl, trivial⟩, rfl, trivial⟩
def laws_FnOrdinalSums_p19 (k : Nat) (o171 : Rw) (o172 : Rw) (o173 : Rw) (v174 : Bool) (v178 : Bool) : Option Bool :=
  (cond v174 (cond v178 ((impl_AddOrdinals k o171 o173).bind fun y185 => (if y185.2 = true then ((laws_sameOrdinal k o172 y185.1).bind fun y188 => (if y188 = true then (laws_FnOrdinalSums_p20) else some false)) else some false)) (laws_FnOrdinalSums_p20)) (cond v178 (laws_FnOrdinalSums_p20) (laws_FnOrdinalSums_p20)))
set_option maxHeartbeats 4000000 in
set_option maxRecDepth 100000 in
theorem laws_FnOrdinalSums_p19_ct {k : Nat} {o171 : Rw} {o172 : Rw} {o173 : Rw} {v174 : Bool} {v178 : Bool} {r : Bool} (h : laws_FnOrdinalSums_p19 k o171 o172 o173 v174 v178 = some r) : X prog 0 (tlF f3 19) (mk 160 [(5, .ptr 320 0), (23, .ptr 1472 0), (24, .d (D.bool v178)), (25, .ptr 1600 0), (26, .d (D.bool v174))] [(320, .box 26 [.os 1159000 o171.length]), (1472, .box 26 [.os 1159001 o172.length]), (1600, .box 26 [.os 1159002 o173.length]), (1159000, .arr 61 false o171), (1159001, .arr 61 true o172), (1159002, .arr 61 true o173)]) (finK prog f3 0 (.d (D.bool r)) (⟨[], []⟩)) := by
  rw [laws_FnOrdinalSums_p19] at h
  cases v174
  · replace h := condF h
    cases v178
    · replace h := condF h
      conv => whnf
      exact CutK.piece (laws_FnOrdinalSums_p20_ct  h) [] [] ⟨⟨rfl, rfl⟩, ⟨rfl, trivial⟩, trivial⟩
    · replace h := condT h
      conv => whnf
      exact CutK.piece (laws_FnOrdinalSums_p20_ct  h) [] [] ⟨⟨rfl, rfl⟩, ⟨rfl, trivial⟩, trivial⟩
  · replace h := condT h
    cases v178
    · replace h := condF h
      conv => whnf
      exact CutK.piece (laws_FnOrdinalSums_p20_ct  h) [] [] ⟨⟨rfl, rfl⟩, ⟨rfl, trivial⟩, trivial⟩
    · replace h := condT h
      conv => whnf
      refine Take.all (rfl) ?_
      conv => whnf
      refine Take.all (rfl) ?_
      conv => whnf
      obtain ⟨y185, e186, h⟩ := bind_ex h
      refine CallOk.of (impl_AddOrdinals_ct e186) ?_
      conv => whnf
      refine spl (fun g187 => ?_) (fun g187 => ?_)
      · replace h := iteT h g187
        conv => whnf
        refine CutK.norm [23, 27, 28] [1472, 1728, 9536, 1159001] ?_
        conv => whnf
        refine Take.all (rfl) ?_
        conv => whnf
        refine Take.all (rfl) ?_
        conv => whnf
        obtain ⟨y188, e189, h⟩ := bind_ex h
        refine CallOk.of (laws_sameOrdinal_ct e189) ?_
        conv => whnf
        refine spl (fun g190 => ?_) (fun g190 => ?_)
        · replace h := iteT h g190
          conv => whnf
          refine CutK.norm [159] [] ?_
          conv => whnf
          exact CutK.piece (laws_FnOrdinalSums_p20_ct  h) [] [] ⟨⟨rfl, rfl⟩, ⟨rfl, trivial⟩, trivial⟩
        · replace h := iteF h g190
          conv => whnf
          refine CutK.norm [159] [] ?_
          conv => whnf
          cases h
          exact Done.of [] [] rfl rfl ⟨⟨rfl, rfl⟩, ⟨rfl, trivial⟩, rfl, trivial⟩
      · replace h := iteF h g187
        conv => whnf
        refine CutK.norm [23, 27, 28] [1472, 1728, 9536, 1159001] ?_
        conv => whnf
        refine CutK.norm [159] [] ?_
        conv => whnf
        cases h
        exact Done.of [] [] rfl rfl ⟨⟨rfl, rfl⟩, ⟨rfl, trivial⟩, rfl, trivial⟩
def laws_FnOrdinalSums_p18 (k : Nat) (o163 : Rw) (o164 : Rw) (o165 : Rw) (o166 : Rw) (v167 : Bool) : Option Bool :=
  (cond v167 ((impl_AddOrdinals k o164 o165).bind fun y194 => (if y194.2 = true then (laws_FnOrdinalSums_p19 k o163 o166 y194.1 true true) else (laws_FnOrdinalSums_p19 k o163 o166 y194.1 false true))) ((impl_AddOrdinals k o164 o165).bind fun y191 => (if y191.2 = true then (laws_FnOrdinalSums_p19 k o163 o166 y191.1 true false) else (laws_FnOrdinalSums_p19 k o163 o166 y191.1 false false))))
set_option maxHeartbeats 4000000 in
set_option maxRecDepth 100000 in
theorem laws_FnOrdinalSums_p18_ct {k : Nat} {o163 : Rw} {o164 : Rw} {o165 : Rw} {o166 : Rw} {v167 : Bool} {r : Bool} (h : laws_FnOrdinalSums_p18 k o163 o164 o165 o166 v167 = some r) : X prog 0 (tlF f3 18) (mk 160 [(5, .ptr 320 0), (6, .ptr 384 0), (21, .ptr 1344 0), (23, .ptr 1472 0), (24, .d (D.bool v167))] [(320, .box 26 [.os 1154000 o163.length]), (384, .box 26 [.d (D.sl o164)]), (1344, .box 26 [.os 1154001 o165.length]), (1472, .box 26 [.os 1154002 o166.length]), (1154000, .arr 61 false o163), (1154001, .arr 61 false o165), (1154002, .arr 61 true o166)]) (finK prog f3 0 (.d (D.bool r)) (⟨[], []⟩)) := by
  rw [laws_FnOrdinalSums_p18] at h
  cases v167
  · replace h := condF h
    conv => whnf
    refine Take.all (rfl) ?_
    conv => whnf
    obtain ⟨y191, e192, h⟩ := bind_ex h
    refine CallOk.of (impl_AddOrdinals_ct e192) ?_
    conv => whnf
    refine spl (fun g193 => ?_) (fun g193 => ?_)
    · replace h := iteT h g193
      conv => whnf
      exact CutK.piece (laws_FnOrdinalSums_p19_ct  h) [some 320, some 1472, some 1600, some 1154000, some 1154002, some 8896] [] ⟨⟨rfl, rfl⟩, ⟨rfl, ⟨rfl, ⟨rfl, rfl⟩, trivial⟩, ⟨rfl, ⟨rfl, rfl⟩, trivial⟩, ⟨rfl, ⟨rfl, rfl⟩, trivial⟩, ⟨rfl, rfl, rows_same⟩, ⟨rfl, rfl, rows_same⟩, ⟨rfl, rfl, rows_same⟩, trivial⟩, ⟨rfl, rfl⟩, ⟨rfl, rfl⟩, rfl, ⟨rfl, rfl⟩, rfl, trivial⟩
    · replace h := iteF h g193
      conv => whnf
      exact CutK.piece (laws_FnOrdinalSums_p19_ct  h) [some 320, some 1472, some 1600, some 1154000, some 1154002, some 8896] [] ⟨⟨rfl, rfl⟩, ⟨rfl, ⟨rfl, ⟨rfl, rfl⟩, trivial⟩, ⟨rfl, ⟨rfl, rfl⟩, trivial⟩, ⟨rfl, ⟨rfl, rfl⟩, trivial⟩, ⟨rfl, rfl, rows_same⟩, ⟨rfl, rfl, rows_same⟩, ⟨rfl, rfl, rows_same⟩, trivial⟩, ⟨rfl, rfl⟩, ⟨rfl, rfl⟩, rfl, ⟨rfl, rfl⟩, rfl, trivial⟩
  · replace h := condT h
    conv => whnf
    refine Take.all (rfl) ?_
    conv => whnf
    obtain ⟨y194, e195, h⟩ := bind_ex h
    refine CallOk.of (impl_AddOrdinals_ct e195) ?_
    conv => whnf
    refine spl (fun g196 => ?_) (fun g196 => ?_)
    · replace h := iteT h g196
      conv => whnf
      exact CutK.piece (laws_FnOrdinalSums_p19_ct  h) [some 320, some 1472, some 1600, some 1154000, some 1154002, some 8896] [] ⟨⟨rfl, rfl⟩, ⟨rfl, ⟨rfl, ⟨rfl, rfl⟩, trivial⟩, ⟨rfl, ⟨rfl, rfl⟩, trivial⟩, ⟨rfl, ⟨rfl, rfl⟩, trivial⟩, ⟨rfl, rfl, rows_same⟩, ⟨rfl, rfl, rows_same⟩, ⟨rfl, rfl, rows_same⟩, trivial⟩, ⟨rfl, rfl⟩, ⟨rfl, rfl⟩, rfl, ⟨rfl, rfl⟩, rfl, trivial⟩
    · replace h := iteF h g196
      conv => whnf
      exact CutK.piece (laws_FnOrdinalSums_p19_ct  h) [some 320, some 1472, some 1600, some 1154000, some 1154002, some 8896] [] ⟨⟨rfl, rfl⟩, ⟨rfl, ⟨rfl, ⟨rfl, rfl⟩, trivial⟩, ⟨rfl, ⟨rfl, rfl⟩, trivial⟩, ⟨rfl, ⟨rfl, rfl⟩, trivial⟩, ⟨rfl, rfl, rows_same⟩, ⟨rfl, rfl, rows_same⟩, ⟨rfl, rfl, rows_same⟩, trivial⟩, ⟨rfl, rfl⟩, ⟨rfl, rfl⟩, rfl, ⟨rfl, rfl⟩, rfl, trivial⟩
def laws_FnOrdinalSums_p17 (k : Nat) (o156 : Rw) (o157 : Rw) (o158 : Rw) (o159 : Rw) : Option Bool :=
  ((impl_AddOrdinals k o158 o159).bind fun y197 => (if y197.2 = true then (laws_FnOrdinalSums_p18 k o156 o157 o159 y197.1 true) else (laws_FnOrdinalSums_p18 k o156 o157 o159 y197.1 false)))
set_option maxHeartbeats 4000000 in
set_option maxRecDepth 100000 in
theorem laws_FnOrdinalSums_p17_ct {k : Nat} {o156 : Rw} {o157 : Rw} {o158 : Rw} {o159 : Rw} {r : Bool} (h : laws_FnOrdinalSums_p17 k o156 o157 o158 o159 = some r) : X prog 0 (tlF f3 17) (mk 160 [(5, .ptr 320 0), (6, .ptr 384 0), (7, .ptr 448 0), (21, .ptr 1344 0)] [(320, .box 26 [.os 1149000 o156.length]), (384, .box 26 [.d (D.sl o157)]), (448, .box 26 [.os 1149001 o158.length]), (1344, .box 26 [.os 1149002 o159.length]), (1149000, .arr 61 false o156), (1149001, .arr 61 true o158), (1149002, .arr 61 false o159)]) (finK prog f3 0 (.d (D.bool r)) (⟨[], []⟩)) := by
  rw [laws_FnOrdinalSums_p17] at h
  conv => whnf
  refine Take.all (rfl) ?_
  conv => whnf
  refine Take.all (rfl) ?_
  conv => whnf
  obtain ⟨y197, e198, h⟩ := bind_ex h
  refine CallOk.of (impl_AddOrdinals_ct e198) ?_
  conv => whnf
  refine spl (fun g199 => ?_) (fun g199 => ?_)
  · replace h := iteT h g199
    conv => whnf
    exact CutK.piece (laws_FnOrdinalSums_p18_ct  h) [some 320, some 384, some 1344, some 1472, some 1149000, some 1149002, some 8512] [] ⟨⟨rfl, rfl⟩, ⟨rfl, ⟨rfl, ⟨rfl, rfl⟩, trivial⟩, ⟨rfl, rfl, trivial⟩, ⟨rfl, ⟨rfl, rfl⟩, trivial⟩, ⟨rfl, ⟨rfl, rfl⟩, trivial⟩, ⟨rfl, rfl, rows_same⟩, ⟨rfl, rfl, rows_same⟩, ⟨rfl, rfl, rows_same⟩, trivial⟩, ⟨rfl, rfl⟩, ⟨rfl, rfl⟩, ⟨rfl, rfl⟩, ⟨rfl, rfl⟩, rfl, trivial⟩
  · replace h := iteF h g199
    conv => whnf
    exact CutK.piece (laws_FnOrdinalSums_p18_ct  h) [some 320, some 384, some 1344, some 1472, some 1149000, some 1149002, some 8512] [] ⟨⟨rfl, rfl⟩, ⟨rfl, ⟨rfl, ⟨rfl, rfl⟩, trivial⟩, ⟨rfl, rfl, trivial⟩, ⟨rfl, ⟨rfl, rfl⟩, trivial⟩, ⟨rfl, ⟨rfl, rfl⟩, trivial⟩, ⟨rfl, rfl, rows_same⟩, ⟨rfl, rfl, rows_same⟩, ⟨rfl, rfl, rows_same⟩, trivial⟩, ⟨rfl, rfl⟩, ⟨rfl, rfl⟩, ⟨rfl, rfl⟩, ⟨rfl, rfl⟩, rfl, trivial⟩
def laws_FnOrdinalSums_p16 (k : Nat) (o149 : Rw) (o150 : Rw) (o151 : Rw) (o152 : Rw) : Option Bool :=
  ((impl_IsOrdinal k o152).bind fun y200 => (if y200 = true then (laws_FnOrdinalSums_p17 k o149 o150 o151 o152) else some true))
set_option maxHeartbeats 4000000 in
set_option maxRecDepth 100000 in
theorem laws_FnOrdinalSums_p16_ct {k : Nat} {o149 : Rw} {o150 : Rw} {o151 : Rw} {o152 : Rw} {r : Bool} (h : laws_FnOrdinalSums_p16 k o149 o150 o151 o152 = some r) : X prog 0 (tlF f3 16) (mk 160 [(5, .ptr 320 0), (6, .ptr 384 0), (7, .ptr 448 0), (21, .ptr 1344 0)] [(320, .box 26 [.os 1144000 o149.length]), (384, .box 26 [.d (D.sl o150)]), (448, .box 26 [.os 1144001 o151.length]), (1344, .box 26 [.os 1144002 o152.length]), (1144000, .arr 61 false o149), (1144001, .arr 61 true o151), (1144002, .arr 61 false o152)]) (finK prog f3 0 (.d (D.bool r)) (⟨[], []⟩)) := by
  rw [laws_FnOrdinalSums_p16] at h
  conv => whnf
  refine Take.all (rfl) ?_
  conv => whnf
  obtain ⟨y200, e201, h⟩ := bind_ex h
  refine CallOk.of (impl_IsOrdinal_ct e201) ?_
  conv => whnf
  refine spl (fun g202 => ?_) (fun g202 => ?_)
  · replace h := iteT h g202
    conv => whnf
    refine CutK.norm [5, 6, 7, 21, 129] [320, 384, 448, 1344, 1144000, 1144001, 1144002] ?_
    conv => whnf
    exact CutK.piece (laws_FnOrdinalSums_p17_ct  h) [some 320, some 384, some 448, some 1344, some 1144000, some 1144001, some 1144002] [] ⟨⟨rfl, rfl⟩, ⟨rfl, ⟨rfl, ⟨rfl, rfl⟩, trivial⟩, ⟨rfl, rfl, trivial⟩, ⟨rfl, ⟨rfl, rfl⟩, trivial⟩, ⟨rfl, ⟨rfl, rfl⟩, trivial⟩, ⟨rfl, rfl, rows_same⟩, ⟨rfl, rfl, rows_same⟩, ⟨rfl, rfl, rows_same⟩, trivial⟩, ⟨rfl, rfl⟩, ⟨rfl, rfl⟩, ⟨rfl, rfl⟩, ⟨rfl, rfl⟩, trivial⟩
  · replace h := iteF h g202
    conv => whnf
    refine CutK.norm [5, 6, 7, 21, 129] [320, 384, 448, 1344, 1144000, 1144001, 1144002] ?_
    conv => whnf
    cases h
    exact Done.of [] [] rfl rfl ⟨⟨rfl, rfl⟩, ⟨rfl, trivial⟩, rfl, trivial⟩
def laws_FnOrdinalSums_p15 (k : Nat) (a2 : Rw) (o144 : Rw) (o145 : Rw) (o146 : Rw) : Option Bool :=
  ((spec_DrawAddOrdinals k a2).bind fun y203 => (laws_FnOrdinalSums_p16 k o144 o145 o146 y203.1))
set_option maxHeartbeats 4000000 in
set_option maxRecDepth 100000 in
theorem laws_FnOrdinalSums_p15_ct {k : Nat} {a2 : Rw} {o144 : Rw} {o145 : Rw} {o146 : Rw} {r : Bool} (h : laws_FnOrdinalSums_p15 k a2 o144 o145 o146 = some r) : X prog 0 (tlF f3 15) (mk 160 [(1, .d (D.sl a2)), (5, .ptr 320 0), (6, .ptr 384 0), (7, .ptr 448 0)] [(320, .box 26 [.os 1139000 o144.length]), (384, .box 26 [.d (D.sl o145)]), (448, .box 26 [.os 1139001 o146.length]), (1139000, .arr 61 false o144), (1139001, .arr 61 true o146)]) (finK prog f3 0 (.d (D.bool r)) (⟨[], []⟩)) := by
  rw [laws_FnOrdinalSums_p15] at h
  conv => whnf
  obtain ⟨y203, e204, h⟩ := bind_ex h
  refine CallOk.of (spec_DrawAddOrdinals_ct e204) ?_
  conv => whnf
  exact CutK.piece (laws_FnOrdinalSums_p16_ct  h) [some 320, some 384, some 448, some 1344, some 1139000, some 1139001, some 7936] [] ⟨⟨rfl, rfl⟩, ⟨rfl, ⟨rfl, ⟨rfl, rfl⟩, trivial⟩, ⟨rfl, rfl, trivial⟩, ⟨rfl, ⟨rfl, rfl⟩, trivial⟩, ⟨rfl, ⟨rfl, rfl⟩, trivial⟩, ⟨rfl, rfl, rows_same⟩, ⟨rfl, rfl, rows_same⟩, ⟨rfl, rfl, rows_same⟩, trivial⟩, ⟨rfl, rfl⟩, ⟨rfl, rfl⟩, ⟨rfl, rfl⟩, ⟨rfl, rfl⟩, trivial⟩
def laws_FnOrdinalSums_p14 (k : Nat) (a2 : Rw) (o136 : Rw) (o137 : Rw) (o138 : Rw) (o139 : Rw) (v140 : Bool) : Option Bool :=
  (cond v140 ((laws_sameOrdinal k o139 o137).bind fun y205 => (if y205 = true then (laws_FnOrdinalSums_p15 k a2 o136 o137 o138) else some false)) (some false))
set_option maxHeartbeats 4000000 in
set_option maxRecDepth 100000 in
theorem laws_FnOrdinalSums_p14_ct {k : Nat} {a2 : Rw} {o136 : Rw} {o137 : Rw} {o138 : Rw} {o139 : Rw} {v140 : Bool} {r : Bool} (h : laws_FnOrdinalSums_p14 k a2 o136 o137 o138 o139 v140 = some r) : X prog 0 (tlF f3 14) (mk 160 [(1, .d (D.sl a2)), (5, .ptr 320 0), (6, .ptr 384 0), (7, .ptr 448 0), (19, .ptr 1216 0), (20, .d (D.bool v140))] [(320, .box 26 [.os 1134000 o136.length]), (384, .box 26 [.d (D.sl o137)]), (448, .box 26 [.os 1134001 o138.length]), (1216, .box 26 [.os 1134002 o139.length]), (1134000, .arr 61 false o136), (1134001, .arr 61 true o138), (1134002, .arr 61 true o139)]) (finK prog f3 0 (.d (D.bool r)) (⟨[], []⟩)) := by
  rw [laws_FnOrdinalSums_p14] at h
  cases v140
  · replace h := condF h
    conv => whnf
    refine CutK.norm [1, 5, 6, 7, 121] [320, 384, 448, 1134000, 1134001] ?_
    conv => whnf
    cases h
    exact Done.of [] [] rfl rfl ⟨⟨rfl, rfl⟩, ⟨rfl, trivial⟩, rfl, trivial⟩
  · replace h := condT h
    conv => whnf
    refine Take.all (rfl) ?_
    conv => whnf
    obtain ⟨y205, e206, h⟩ := bind_ex h
    refine CallOk.of (laws_sameOrdinal_ct e206) ?_
    conv => whnf
    refine spl (fun g207 => ?_) (fun g207 => ?_)
    · replace h := iteT h g207
      conv => whnf
      refine CutK.norm [1, 5, 6, 7, 121] [320, 384, 448, 1134000, 1134001] ?_
      conv => whnf
      exact CutK.piece (laws_FnOrdinalSums_p15_ct  h) [some 320, some 384, some 448, some 1134000, some 1134001] [] ⟨⟨rfl, rfl⟩, ⟨rfl, ⟨rfl, ⟨rfl, rfl⟩, trivial⟩, ⟨rfl, rfl, trivial⟩, ⟨rfl, ⟨rfl, rfl⟩, trivial⟩, ⟨rfl, rfl, rows_same⟩, ⟨rfl, rfl, rows_same⟩, trivial⟩, rfl, ⟨rfl, rfl⟩, ⟨rfl, rfl⟩, ⟨rfl, rfl⟩, trivial⟩
    · replace h := iteF h g207
      conv => whnf
      refine CutK.norm [1, 5, 6, 7, 121] [320, 384, 448, 1134000, 1134001] ?_
      conv => whnf
      cases h
      exact Done.of [] [] rfl rfl ⟨⟨rfl, rfl⟩, ⟨rfl, trivial⟩, rfl, trivial⟩
def laws_FnOrdinalSums_p12 (k : Nat) (a2 : Rw) (o118 : Rw) (o119 : Rw) (o120 : Rw) (v124 : Bool) : Option Bool :=
  (cond v124 ((impl_SubtractLeft k o120 o118).bind fun y208 => (if y208.2 = true then (laws_FnOrdinalSums_p14 k a2 o118 o119 o120 y208.1 true) else (laws_FnOrdinalSums_p14 k a2 o118 o119 o120 y208.1 false))) (some true))
set_option maxHeartbeats 4000000 in
set_option maxRecDepth 100000 in
theorem laws_FnOrdinalSums_p12_ct {k : Nat} {a2 : Rw} {o118 : Rw} {o119 : Rw} {o120 : Rw} {v124 : Bool} {r : Bool} (h : laws_FnOrdinalSums_p12 k a2 o118 o119 o120 v124 = some r) : X prog 0 (tlF f3 12) (mk 160 [(1, .d (D.sl a2)), (5, .ptr 320 0), (6, .ptr 384 0), (7, .ptr 448 0), (8, .d (D.bool v124))] [(320, .box 26 [.os 1124000 o118.length]), (384, .box 26 [.d (D.sl o119)]), (448, .box 26 [.os 1124001 o120.length]), (1124000, .arr 61 false o118), (1124001, .arr 61 true o120)]) (finK prog f3 0 (.d (D.bool r)) (⟨[], []⟩)) := by
  rw [laws_FnOrdinalSums_p12] at h
  cases v124
  · replace h := condF h
    conv => whnf
    cases h
    exact Done.of [] [] rfl rfl ⟨⟨rfl, rfl⟩, ⟨rfl, trivial⟩, rfl, trivial⟩
  · replace h := condT h
    conv => whnf
    refine Take.all (rfl) ?_
    conv => whnf
    refine Take.all (rfl) ?_
    conv => whnf
    obtain ⟨y208, e209, h⟩ := bind_ex h
    refine CallOk.of (impl_SubtractLeft_ct e209) ?_
    conv => whnf
    refine spl (fun g210 => ?_) (fun g210 => ?_)
    · replace h := iteT h g210
      conv => whnf
      exact CutK.piece (laws_FnOrdinalSums_p14_ct  h) [some 320, some 384, some 448, some 1216, some 1124000, some 1124001, some 7104] [] ⟨⟨rfl, rfl⟩, ⟨rfl, ⟨rfl, ⟨rfl, rfl⟩, trivial⟩, ⟨rfl, rfl, trivial⟩, ⟨rfl, ⟨rfl, rfl⟩, trivial⟩, ⟨rfl, ⟨rfl, rfl⟩, trivial⟩, ⟨rfl, rfl, rows_same⟩, ⟨rfl, rfl, rows_same⟩, ⟨rfl, rfl, rows_same⟩, trivial⟩, rfl, ⟨rfl, rfl⟩, ⟨rfl, rfl⟩, ⟨rfl, rfl⟩, ⟨rfl, rfl⟩, rfl, trivial⟩
    · replace h := iteF h g210
      conv => whnf
      exact CutK.piece (laws_FnOrdinalSums_p14_ct  h) [some 320, some 384, some 448, some 1216, some 1124000, some 1124001, some 7104] [] ⟨⟨rfl, rfl⟩, ⟨rfl, ⟨rfl, ⟨rfl, rfl⟩, trivial⟩, ⟨rfl, rfl, trivial⟩, ⟨rfl, ⟨rfl, rfl⟩, trivial⟩, ⟨rfl, ⟨rfl, rfl⟩, trivial⟩, ⟨rfl, rfl, rows_same⟩, ⟨rfl, rfl, rows_same⟩, ⟨rfl, rfl, rows_same⟩, trivial⟩, rfl, ⟨rfl, rfl⟩, ⟨rfl, rfl⟩, ⟨rfl, rfl⟩, ⟨rfl, rfl⟩, rfl, trivial⟩
def laws_FnOrdinalSums_p11 (k : Nat) (a2 : Rw) (o97 : Int) (o98 : Rw) (o99 : Rw) (o100 : Rw) (o101 : Rw) (o102 : Rw) (v103 : Bool) (v107 : Bool) (v111 : Bool) : Option Bool :=
  (cond v103 (cond v107 (cond v111 ((laws_sameOrdinal k o101 o102).bind fun y221 => (if y221 = true then (if o97 < (0 : Int) then some false else (laws_FnOrdinalSums_p12 k a2 o98 o99 o100 true)) else some false)) (some false)) (cond v111 ((laws_sameOrdinal k o101 o102).bind fun y217 => (if y217 = true then (if o97 < (0 : Int) then some false else (laws_FnOrdinalSums_p12 k a2 o98 o99 o100 false)) else some false)) (some false))) (cond v107 (cond v111 (some false) ((laws_sameOrdinal k o101 o102).bind fun y214 => (if y214 = true then (laws_FnOrdinalSums_p12 k a2 o98 o99 o100 true) else some false))) (cond v111 (some false) ((laws_sameOrdinal k o101 o102).bind fun y211 => (if y211 = true then (laws_FnOrdinalSums_p12 k a2 o98 o99 o100 false) else some false)))))
set_option maxHeartbeats 4000000 in
set_option maxRecDepth 100000 in
theorem laws_FnOrdinalSums_p11_ct {k : Nat} {a2 : Rw} {o97 : Int} {o98 : Rw} {o99 : Rw} {o100 : Rw} {o101 : Rw} {o102 : Rw} {v103 : Bool} {v107 : Bool} {v111 : Bool} {r : Bool} (h : laws_FnOrdinalSums_p11 k a2 o97 o98 o99 o100 o101 o102 v103 v107 v111 = some r) : X prog 0 (tlF f3 11) (mk 160 [(1, .d (D.sl a2)), (5, .ptr 320 0), (6, .ptr 384 0), (7, .ptr 448 0), (8, .d (D.bool v107)), (11, .d (D.int .i64 o97)), (15, .ptr 960 0), (16, .d (D.bool v111)), (17, .ptr 1088 0), (18, .d (D.bool v103))] [(320, .box 26 [.os 1119000 o98.length]), (384, .box 26 [.d (D.sl o99)]), (448, .box 26 [.os 1119001 o100.length]), (960, .box 26 [.os 1119002 o101.length]), (1088, .box 26 [.os 1119003 o102.length]), (1119000, .arr 61 false o98), (1119001, .arr 61 true o100), (1119002, .arr 61 true o101), (1119003, .arr 61 true o102)]) (finK prog f3 0 (.d (D.bool r)) (⟨[], []⟩)) := by
  rw [laws_FnOrdinalSums_p11] at h
  cases v103
  · replace h := condF h
    cases v107
    · replace h := condF h
      cases v111
      · replace h := condF h
        conv => whnf
        refine splF ?_
        conv => whnf
        refine Take.all (rfl) ?_
        conv => whnf
        refine Take.all (rfl) ?_
        conv => whnf
        obtain ⟨y211, e212, h⟩ := bind_ex h
        refine CallOk.of (laws_sameOrdinal_ct e212) ?_
        conv => whnf
        refine spl (fun g213 => ?_) (fun g213 => ?_)
        · replace h := iteT h g213
          conv => whnf
          refine CutK.norm [1, 5, 6, 7, 8, 105] [320, 384, 448, 1119000, 1119001] ?_
          conv => whnf
          exact CutK.piece (laws_FnOrdinalSums_p12_ct  h) [some 320, some 384, some 448, some 1119000, some 1119001] [] ⟨⟨rfl, rfl⟩, ⟨rfl, ⟨rfl, ⟨rfl, rfl⟩, trivial⟩, ⟨rfl, rfl, trivial⟩, ⟨rfl, ⟨rfl, rfl⟩, trivial⟩, ⟨rfl, rfl, rows_same⟩, ⟨rfl, rfl, rows_same⟩, trivial⟩, rfl, ⟨rfl, rfl⟩, ⟨rfl, rfl⟩, ⟨rfl, rfl⟩, rfl, trivial⟩
        · replace h := iteF h g213
          conv => whnf
          refine CutK.norm [1, 5, 6, 7, 8, 105] [320, 384, 448, 1119000, 1119001] ?_
          conv => whnf
          cases h
          exact Done.of [] [] rfl rfl ⟨⟨rfl, rfl⟩, ⟨rfl, trivial⟩, rfl, trivial⟩
      · replace h := condT h
        conv => whnf
        refine splT ?_
        conv => whnf
        refine CutK.norm [1, 5, 6, 7, 8, 105] [320, 384, 448, 1119000, 1119001] ?_
        conv => whnf
        cases h
        exact Done.of [] [] rfl rfl ⟨⟨rfl, rfl⟩, ⟨rfl, trivial⟩, rfl, trivial⟩
    · replace h := condT h
      cases v111
      · replace h := condF h
        conv => whnf
        refine splF ?_
        conv => whnf
        refine Take.all (rfl) ?_
        conv => whnf
        refine Take.all (rfl) ?_
        conv => whnf
        obtain ⟨y214, e215, h⟩ := bind_ex h
        refine CallOk.of (laws_sameOrdinal_ct e215) ?_
        conv => whnf
        refine spl (fun g216 => ?_) (fun g216 => ?_)
        · replace h := iteT h g216
          conv => whnf
          refine CutK.norm [1, 5, 6, 7, 8, 105] [320, 384, 448, 1119000, 1119001] ?_
          conv => whnf
          exact CutK.piece (laws_FnOrdinalSums_p12_ct  h) [some 320, some 384, some 448, some 1119000, some 1119001] [] ⟨⟨rfl, rfl⟩, ⟨rfl, ⟨rfl, ⟨rfl, rfl⟩, trivial⟩, ⟨rfl, rfl, trivial⟩, ⟨rfl, ⟨rfl, rfl⟩, trivial⟩, ⟨rfl, rfl, rows_same⟩, ⟨rfl, rfl, rows_same⟩, trivial⟩, rfl, ⟨rfl, rfl⟩, ⟨rfl, rfl⟩, ⟨rfl, rfl⟩, rfl, trivial⟩
        · replace h := iteF h g216
          conv => whnf
          refine CutK.norm [1, 5, 6, 7, 8, 105] [320, 384, 448, 1119000, 1119001] ?_
          conv => whnf
          cases h
          exact Done.of [] [] rfl rfl ⟨⟨rfl, rfl⟩, ⟨rfl, trivial⟩, rfl, trivial⟩
      · replace h := condT h
        conv => whnf
        refine splT ?_
        conv => whnf
        refine CutK.norm [1, 5, 6, 7, 8, 105] [320, 384, 448, 1119000, 1119001] ?_
        conv => whnf
        cases h
        exact Done.of [] [] rfl rfl ⟨⟨rfl, rfl⟩, ⟨rfl, trivial⟩, rfl, trivial⟩
  · replace h := condT h
    cases v107
    · replace h := condF h
      cases v111
      · replace h := condF h
        conv => whnf
        refine splT ?_
        conv => whnf
        refine CutK.norm [1, 5, 6, 7, 8, 105] [320, 384, 448, 1119000, 1119001] ?_
        conv => whnf
        cases h
        exact Done.of [] [] rfl rfl ⟨⟨rfl, rfl⟩, ⟨rfl, trivial⟩, rfl, trivial⟩
      · replace h := condT h
        conv => whnf
        refine splF ?_
        conv => whnf
        refine Take.all (rfl) ?_
        conv => whnf
        refine Take.all (rfl) ?_
        conv => whnf
        obtain ⟨y217, e218, h⟩ := bind_ex h
        refine CallOk.of (laws_sameOrdinal_ct e218) ?_
        conv => whnf
        refine spl (fun g219 => ?_) (fun g219 => ?_)
        · replace h := iteT h g219
          conv => whnf
          refine splD (fun g220 => ?_) (fun g220 => ?_)
          · replace h := iteP h g220
            conv => whnf
            refine CutK.norm [1, 5, 6, 7, 8, 105] [320, 384, 448, 1119000, 1119001] ?_
            conv => whnf
            cases h
            exact Done.of [] [] rfl rfl ⟨⟨rfl, rfl⟩, ⟨rfl, trivial⟩, rfl, trivial⟩
          · replace h := iteN h g220
            conv => whnf
            refine CutK.norm [1, 5, 6, 7, 8, 105] [320, 384, 448, 1119000, 1119001] ?_
            conv => whnf
            exact CutK.piece (laws_FnOrdinalSums_p12_ct  h) [some 320, some 384, some 448, some 1119000, some 1119001] [] ⟨⟨rfl, rfl⟩, ⟨rfl, ⟨rfl, ⟨rfl, rfl⟩, trivial⟩, ⟨rfl, rfl, trivial⟩, ⟨rfl, ⟨rfl, rfl⟩, trivial⟩, ⟨rfl, rfl, rows_same⟩, ⟨rfl, rfl, rows_same⟩, trivial⟩, rfl, ⟨rfl, rfl⟩, ⟨rfl, rfl⟩, ⟨rfl, rfl⟩, rfl, trivial⟩
        · replace h := iteF h g219
          conv => whnf
          refine CutK.norm [1, 5, 6, 7, 8, 105] [320, 384, 448, 1119000, 1119001] ?_
          conv => whnf
          cases h
          exact Done.of [] [] rfl rfl ⟨⟨rfl, rfl⟩, ⟨rfl, trivial⟩, rfl, trivial⟩
    · replace h := condT h
      cases v111
      · replace h := condF h
        conv => whnf
        refine splT ?_
        conv => whnf
        refine CutK.norm [1, 5, 6, 7, 8, 105] [320, 384, 448, 1119000, 1119001] ?_
        conv => whnf
        cases h
        exact Done.of [] [] rfl rfl ⟨⟨rfl, rfl⟩, ⟨rfl, trivial⟩, rfl, trivial⟩
      · replace h := condT h
        conv => whnf
        refine splF ?_
        conv => whnf
        refine Take.all (rfl) ?_
        conv => whnf
        refine Take.all (rfl) ?_
        conv => whnf
        obtain ⟨y221, e222, h⟩ := bind_ex h
        refine CallOk.of (laws_sameOrdinal_ct e222) ?_
        conv => whnf
        refine spl (fun g223 => ?_) (fun g223 => ?_)
        · replace h := iteT h g223
          conv => whnf
          refine splD (fun g224 => ?_) (fun g224 => ?_)
          · replace h := iteP h g224
            conv => whnf
            refine CutK.norm [1, 5, 6, 7, 8, 105] [320, 384, 448, 1119000, 1119001] ?_
            conv => whnf
            cases h
            exact Done.of [] [] rfl rfl ⟨⟨rfl, rfl⟩, ⟨rfl, trivial⟩, rfl, trivial⟩
          · replace h := iteN h g224
            conv => whnf
            refine CutK.norm [1, 5, 6, 7, 8, 105] [320, 384, 448, 1119000, 1119001] ?_
            conv => whnf
            exact CutK.piece (laws_FnOrdinalSums_p12_ct  h) [some 320, some 384, some 448, some 1119000, some 1119001] [] ⟨⟨rfl, rfl⟩, ⟨rfl, ⟨rfl, ⟨rfl, rfl⟩, trivial⟩, ⟨rfl, rfl, trivial⟩, ⟨rfl, ⟨rfl, rfl⟩, trivial⟩, ⟨rfl, rfl, rows_same⟩, ⟨rfl, rfl, rows_same⟩, trivial⟩, rfl, ⟨rfl, rfl⟩, ⟨rfl, rfl⟩, ⟨rfl, rfl⟩, rfl, trivial⟩
        · replace h := iteF h g223
          conv => whnf
          refine CutK.norm [1, 5, 6, 7, 8, 105] [320, 384, 448, 1119000, 1119001] ?_
          conv => whnf
          cases h
          exact Done.of [] [] rfl rfl ⟨⟨rfl, rfl⟩, ⟨rfl, trivial⟩, rfl, trivial⟩
def laws_FnOrdinalSums_p10 (k : Nat) (a2 : Rw) (o75 : Int) (o76 : Rw) (o77 : Rw) (o78 : Rw) (o79 : Rw) (v80 : Bool) (v85 : Bool) : Option Bool :=
  (cond v80 (cond v85 ((spec_SubtractLeft k o76 o77).bind fun y234 => (if y234.2 = true then (laws_FnOrdinalSums_p11 k a2 o75 o76 o77 o78 o79 y234.1 true true true) else (laws_FnOrdinalSums_p11 k a2 o75 o76 o77 o78 o79 y234.1 false true true))) ((spec_SubtractLeft k o76 o77).bind fun y231 => (if y231.2 = true then (laws_FnOrdinalSums_p11 k a2 o75 o76 o77 o78 o79 y231.1 true false true) else (laws_FnOrdinalSums_p11 k a2 o75 o76 o77 o78 o79 y231.1 false false true)))) (cond v85 ((spec_SubtractLeft k o76 o77).bind fun y228 => (if y228.2 = true then (laws_FnOrdinalSums_p11 k a2 o75 o76 o77 o78 o79 y228.1 true true false) else (laws_FnOrdinalSums_p11 k a2 o75 o76 o77 o78 o79 y228.1 false true false))) ((spec_SubtractLeft k o76 o77).bind fun y225 => (if y225.2 = true then (laws_FnOrdinalSums_p11 k a2 o75 o76 o77 o78 o79 y225.1 true false false) else (laws_FnOrdinalSums_p11 k a2 o75 o76 o77 o78 o79 y225.1 false false false)))))
set_option maxHeartbeats 4000000 in
set_option maxRecDepth 100000 in
theorem laws_FnOrdinalSums_p10_ct {k : Nat} {a2 : Rw} {o75 : Int} {o76 : Rw} {o77 : Rw} {o78 : Rw} {o79 : Rw} {v80 : Bool} {v85 : Bool} {r : Bool} (h : laws_FnOrdinalSums_p10 k a2 o75 o76 o77 o78 o79 v80 v85 = some r) : X prog 0 (tlF f3 10) (mk 160 [(1, .d (D.sl a2)), (5, .ptr 320 0), (6, .ptr 384 0), (7, .ptr 448 0), (8, .d (D.bool v85)), (11, .d (D.int .i64 o75)), (15, .ptr 960 0), (16, .d (D.bool v80))] [(320, .box 26 [.os 1114000 o76.length]), (384, .box 26 [.d (D.sl o77)]), (448, .box 26 [.os 1114001 o78.length]), (960, .box 26 [.os 1114002 o79.length]), (1114000, .arr 61 false o76), (1114001, .arr 61 true o78), (1114002, .arr 61 true o79)]) (finK prog f3 0 (.d (D.bool r)) (⟨[], []⟩)) := by
  rw [laws_FnOrdinalSums_p10] at h
  cases v80
  · replace h := condF h
    cases v85
    · replace h := condF h
      conv => whnf
      refine Take.all (rfl) ?_
      conv => whnf
      obtain ⟨y225, e226, h⟩ := bind_ex h
      refine CallOk.of (spec_SubtractLeft_ct e226) ?_
      conv => whnf
      refine spl (fun g227 => ?_) (fun g227 => ?_)
      · replace h := iteT h g227
        conv => whnf
        exact CutK.piece (laws_FnOrdinalSums_p11_ct  h) [some 320, some 384, some 448, some 960, some 1088, some 1114000, some 1114001, some 1114002, some 5568] [] ⟨⟨rfl, rfl⟩, ⟨rfl, ⟨rfl, ⟨rfl, rfl⟩, trivial⟩, ⟨rfl, rfl, trivial⟩, ⟨rfl, ⟨rfl, rfl⟩, trivial⟩, ⟨rfl, ⟨rfl, rfl⟩, trivial⟩, ⟨rfl, ⟨rfl, rfl⟩, trivial⟩, ⟨rfl, rfl, rows_same⟩, ⟨rfl, rfl, rows_same⟩, ⟨rfl, rfl, rows_same⟩, ⟨rfl, rfl, rows_same⟩, trivial⟩, rfl, ⟨rfl, rfl⟩, ⟨rfl, rfl⟩, ⟨rfl, rfl⟩, rfl, rfl, ⟨rfl, rfl⟩, rfl, ⟨rfl, rfl⟩, rfl, trivial⟩
      · replace h := iteF h g227
        conv => whnf
        exact CutK.piece (laws_FnOrdinalSums_p11_ct  h) [some 320, some 384, some 448, some 960, some 1088, some 1114000, some 1114001, some 1114002, some 5568] [] ⟨⟨rfl, rfl⟩, ⟨rfl, ⟨rfl, ⟨rfl, rfl⟩, trivial⟩, ⟨rfl, rfl, trivial⟩, ⟨rfl, ⟨rfl, rfl⟩, trivial⟩, ⟨rfl, ⟨rfl, rfl⟩, trivial⟩, ⟨rfl, ⟨rfl, rfl⟩, trivial⟩, ⟨rfl, rfl, rows_same⟩, ⟨rfl, rfl, rows_same⟩, ⟨rfl, rfl, rows_same⟩, ⟨rfl, rfl, rows_same⟩, trivial⟩, rfl, ⟨rfl, rfl⟩, ⟨rfl, rfl⟩, ⟨rfl, rfl⟩, rfl, rfl, ⟨rfl, rfl⟩, rfl, ⟨rfl, rfl⟩, rfl, trivial⟩
    · replace h := condT h
      conv => whnf
      refine Take.all (rfl) ?_
      conv => whnf
      obtain ⟨y228, e229, h⟩ := bind_ex h
      refine CallOk.of (spec_SubtractLeft_ct e229) ?_
      conv => whnf
      refine spl (fun g230 => ?_) (fun g230 => ?_)
      · replace h := iteT h g230
        conv => whnf
        exact CutK.piece (laws_FnOrdinalSums_p11_ct  h) [some 320, some 384, some 448, some 960, some 1088, some 1114000, some 1114001, some 1114002, some 5568] [] ⟨⟨rfl, rfl⟩, ⟨rfl, ⟨rfl, ⟨rfl, rfl⟩, trivial⟩, ⟨rfl, rfl, trivial⟩, ⟨rfl, ⟨rfl, rfl⟩, trivial⟩, ⟨rfl, ⟨rfl, rfl⟩, trivial⟩, ⟨rfl, ⟨rfl, rfl⟩, trivial⟩, ⟨rfl, rfl, rows_same⟩, ⟨rfl, rfl, rows_same⟩, ⟨rfl, rfl, rows_same⟩, ⟨rfl, rfl, rows_same⟩, trivial⟩, rfl, ⟨rfl, rfl⟩, ⟨rfl, rfl⟩, ⟨rfl, rfl⟩, rfl, rfl, ⟨rfl, rfl⟩, rfl, ⟨rfl, rfl⟩, rfl, trivial⟩
      · replace h := iteF h g230
        conv => whnf
        exact CutK.piece (laws_FnOrdinalSums_p11_ct  h) [some 320, some 384, some 448, some 960, some 1088, some 1114000, some 1114001, some 1114002, some 5568] [] ⟨⟨rfl, rfl⟩, ⟨rfl, ⟨rfl, ⟨rfl, rfl⟩, trivial⟩, ⟨rfl, rfl, trivial⟩, ⟨rfl, ⟨rfl, rfl⟩, trivial⟩, ⟨rfl, ⟨rfl, rfl⟩, trivial⟩, ⟨rfl, ⟨rfl, rfl⟩, trivial⟩, ⟨rfl, rfl, rows_same⟩, ⟨rfl, rfl, rows_same⟩, ⟨rfl, rfl, rows_same⟩, ⟨rfl, rfl, rows_same⟩, trivial⟩, rfl, ⟨rfl, rfl⟩, ⟨rfl, rfl⟩, ⟨rfl, rfl⟩, rfl, rfl, ⟨rfl, rfl⟩, rfl, ⟨rfl, rfl⟩, rfl, trivial⟩
  · replace h := condT h
    cases v85
    · replace h := condF h
      conv => whnf
      refine Take.all (rfl) ?_
      conv => whnf
      obtain ⟨y231, e232, h⟩ := bind_ex h
      refine CallOk.of (spec_SubtractLeft_ct e232) ?_
      conv => whnf
      refine spl (fun g233 => ?_) (fun g233 => ?_)
      · replace h := iteT h g233
        conv => whnf
        exact CutK.piece (laws_FnOrdinalSums_p11_ct  h) [some 320, some 384, some 448, some 960, some 1088, some 1114000, some 1114001, some 1114002, some 5568] [] ⟨⟨rfl, rfl⟩, ⟨rfl, ⟨rfl, ⟨rfl, rfl⟩, trivial⟩, ⟨rfl, rfl, trivial⟩, ⟨rfl, ⟨rfl, rfl⟩, trivial⟩, ⟨rfl, ⟨rfl, rfl⟩, trivial⟩, ⟨rfl, ⟨rfl, rfl⟩, trivial⟩, ⟨rfl, rfl, rows_same⟩, ⟨rfl, rfl, rows_same⟩, ⟨rfl, rfl, rows_same⟩, ⟨rfl, rfl, rows_same⟩, trivial⟩, rfl, ⟨rfl, rfl⟩, ⟨rfl, rfl⟩, ⟨rfl, rfl⟩, rfl, rfl, ⟨rfl, rfl⟩, rfl, ⟨rfl, rfl⟩, rfl, trivial⟩
      · replace h := iteF h g233
        conv => whnf
        exact CutK.piece (laws_FnOrdinalSums_p11_ct  h) [some 320, some 384, some 448, some 960, some 1088, some 1114000, some 1114001, some 1114002, some 5568] [] ⟨⟨rfl, rfl⟩, ⟨rfl, ⟨rfl, ⟨rfl, rfl⟩, trivial⟩, ⟨rfl, rfl, trivial⟩, ⟨rfl, ⟨rfl, rfl⟩, trivial⟩, ⟨rfl, ⟨rfl, rfl⟩, trivial⟩, ⟨rfl, ⟨rfl, rfl⟩, trivial⟩, ⟨rfl, rfl, rows_same⟩, ⟨rfl, rfl, rows_same⟩, ⟨rfl, rfl, rows_same⟩, ⟨rfl, rfl, rows_same⟩, trivial⟩, rfl, ⟨rfl, rfl⟩, ⟨rfl, rfl⟩, ⟨rfl, rfl⟩, rfl, rfl, ⟨rfl, rfl⟩, rfl, ⟨rfl, rfl⟩, rfl, trivial⟩
    · replace h := condT h
      conv => whnf
      refine Take.all (rfl) ?_
      conv => whnf
      obtain ⟨y234, e235, h⟩ := bind_ex h
      refine CallOk.of (spec_SubtractLeft_ct e235) ?_
      conv => whnf
      refine spl (fun g236 => ?_) (fun g236 => ?_)
      · replace h := iteT h g236
        conv => whnf
        exact CutK.piece (laws_FnOrdinalSums_p11_ct  h) [some 320, some 384, some 448, some 960, some 1088, some 1114000, some 1114001, some 1114002, some 5568] [] ⟨⟨rfl, rfl⟩, ⟨rfl, ⟨rfl, ⟨rfl, rfl⟩, trivial⟩, ⟨rfl, rfl, trivial⟩, ⟨rfl, ⟨rfl, rfl⟩, trivial⟩, ⟨rfl, ⟨rfl, rfl⟩, trivial⟩, ⟨rfl, ⟨rfl, rfl⟩, trivial⟩, ⟨rfl, rfl, rows_same⟩, ⟨rfl, rfl, rows_same⟩, ⟨rfl, rfl, rows_same⟩, ⟨rfl, rfl, rows_same⟩, trivial⟩, rfl, ⟨rfl, rfl⟩, ⟨rfl, rfl⟩, ⟨rfl, rfl⟩, rfl, rfl, ⟨rfl, rfl⟩, rfl, ⟨rfl, rfl⟩, rfl, trivial⟩
      · replace h := iteF h g236
        conv => whnf
        exact CutK.piece (laws_FnOrdinalSums_p11_ct  h) [some 320, some 384, some 448, some 960, some 1088, some 1114000, some 1114001, some 1114002, some 5568] [] ⟨⟨rfl, rfl⟩, ⟨rfl, ⟨rfl, ⟨rfl, rfl⟩, trivial⟩, ⟨rfl, rfl, trivial⟩, ⟨rfl, ⟨rfl, rfl⟩, trivial⟩, ⟨rfl, ⟨rfl, rfl⟩, trivial⟩, ⟨rfl, ⟨rfl, rfl⟩, trivial⟩, ⟨rfl, rfl, rows_same⟩, ⟨rfl, rfl, rows_same⟩, ⟨rfl, rfl, rows_same⟩, ⟨rfl, rfl, rows_same⟩, trivial⟩, rfl, ⟨rfl, rfl⟩, ⟨rfl, rfl⟩, ⟨rfl, rfl⟩, rfl, rfl, ⟨rfl, rfl⟩, rfl, ⟨rfl, rfl⟩, rfl, trivial⟩
def laws_FnOrdinalSums_p8 (k : Nat) (a2 : Rw) (o54 : Int) (o55 : Int) (o56 : Rw) (o57 : Rw) (o58 : Rw) (v59 : Bool) (v63 : Bool) (v67 : Bool) : Option Bool :=
  (cond v59 (cond v63 (cond v67 (if o54 = o55 then ((impl_SubtractLeft k o56 o57).bind fun y250 => (if y250.2 = true then (laws_FnOrdinalSums_p10 k a2 o54 o56 o57 o58 y250.1 true true) else (laws_FnOrdinalSums_p10 k a2 o54 o56 o57 o58 y250.1 false true))) else some false) (some false)) (cond v67 (if o54 = o55 then ((impl_SubtractLeft k o56 o57).bind fun y246 => (if y246.2 = true then (laws_FnOrdinalSums_p10 k a2 o54 o56 o57 o58 y246.1 true false) else (laws_FnOrdinalSums_p10 k a2 o54 o56 o57 o58 y246.1 false false))) else some false) (some false))) (cond v63 (cond v67 (some false) (if o54 = o55 then ((impl_SubtractLeft k o56 o57).bind fun y242 => (if y242.2 = true then (laws_FnOrdinalSums_p10 k a2 o54 o56 o57 o58 y242.1 true true) else (laws_FnOrdinalSums_p10 k a2 o54 o56 o57 o58 y242.1 false true))) else some false)) (cond v67 (some false) (if o54 = o55 then ((impl_SubtractLeft k o56 o57).bind fun y238 => (if y238.2 = true then (laws_FnOrdinalSums_p10 k a2 o54 o56 o57 o58 y238.1 true false) else (laws_FnOrdinalSums_p10 k a2 o54 o56 o57 o58 y238.1 false false))) else some false))))
set_option maxHeartbeats 4000000 in
set_option maxRecDepth 100000 in
theorem laws_FnOrdinalSums_p8_ct {k : Nat} {a2 : Rw} {o54 : Int} {o55 : Int} {o56 : Rw} {o57 : Rw} {o58 : Rw} {v59 : Bool} {v63 : Bool} {v67 : Bool} {r : Bool} (h : laws_FnOrdinalSums_p8 k a2 o54 o55 o56 o57 o58 v59 v63 v67 = some r) : X prog 0 (tlF f3 8) (mk 160 [(1, .d (D.sl a2)), (5, .ptr 320 0), (6, .ptr 384 0), (7, .ptr 448 0), (8, .d (D.bool v63)), (11, .d (D.int .i64 o54)), (12, .d (D.bool v67)), (13, .d (D.int .i64 o55)), (14, .d (D.bool v59))] [(320, .box 26 [.os 1104000 o56.length]), (384, .box 26 [.d (D.sl o57)]), (448, .box 26 [.os 1104001 o58.length]), (1104000, .arr 61 false o56), (1104001, .arr 61 true o58)]) (finK prog f3 0 (.d (D.bool r)) (⟨[], []⟩)) := by
  rw [laws_FnOrdinalSums_p8] at h
  cases v59
  · replace h := condF h
    cases v63
    · replace h := condF h
      cases v67
      · replace h := condF h
        conv => whnf
        refine splF ?_
        conv => whnf
        refine splN (fun g237 => ?_) (fun g237 => ?_)
        · replace h := iteN h g237
          conv => whnf
          cases h
          exact Done.of [] [] rfl rfl ⟨⟨rfl, rfl⟩, ⟨rfl, trivial⟩, rfl, trivial⟩
        · replace h := iteP h g237
          conv => whnf
          refine Take.all (rfl) ?_
          conv => whnf
          obtain ⟨y238, e239, h⟩ := bind_ex h
          refine CallOk.of (impl_SubtractLeft_ct e239) ?_
          conv => whnf
          refine spl (fun g240 => ?_) (fun g240 => ?_)
          · replace h := iteT h g240
            conv => whnf
            exact CutK.piece (laws_FnOrdinalSums_p10_ct  h) [some 320, some 384, some 448, some 960, some 1104000, some 1104001, some 5184] [] ⟨⟨rfl, rfl⟩, ⟨rfl, ⟨rfl, ⟨rfl, rfl⟩, trivial⟩, ⟨rfl, rfl, trivial⟩, ⟨rfl, ⟨rfl, rfl⟩, trivial⟩, ⟨rfl, ⟨rfl, rfl⟩, trivial⟩, ⟨rfl, rfl, rows_same⟩, ⟨rfl, rfl, rows_same⟩, ⟨rfl, rfl, rows_same⟩, trivial⟩, rfl, ⟨rfl, rfl⟩, ⟨rfl, rfl⟩, ⟨rfl, rfl⟩, rfl, rfl, ⟨rfl, rfl⟩, rfl, trivial⟩
          · replace h := iteF h g240
            conv => whnf
            exact CutK.piece (laws_FnOrdinalSums_p10_ct  h) [some 320, some 384, some 448, some 960, some 1104000, some 1104001, some 5184] [] ⟨⟨rfl, rfl⟩, ⟨rfl, ⟨rfl, ⟨rfl, rfl⟩, trivial⟩, ⟨rfl, rfl, trivial⟩, ⟨rfl, ⟨rfl, rfl⟩, trivial⟩, ⟨rfl, ⟨rfl, rfl⟩, trivial⟩, ⟨rfl, rfl, rows_same⟩, ⟨rfl, rfl, rows_same⟩, ⟨rfl, rfl, rows_same⟩, trivial⟩, rfl, ⟨rfl, rfl⟩, ⟨rfl, rfl⟩, ⟨rfl, rfl⟩, rfl, rfl, ⟨rfl, rfl⟩, rfl, trivial⟩
      · replace h := condT h
        conv => whnf
        refine splT ?_
        conv => whnf
        cases h
        exact Done.of [] [] rfl rfl ⟨⟨rfl, rfl⟩, ⟨rfl, trivial⟩, rfl, trivial⟩
    · replace h := condT h
      cases v67
      · replace h := condF h
        conv => whnf
        refine splF ?_
        conv => whnf
        refine splN (fun g241 => ?_) (fun g241 => ?_)
        · replace h := iteN h g241
          conv => whnf
          cases h
          exact Done.of [] [] rfl rfl ⟨⟨rfl, rfl⟩, ⟨rfl, trivial⟩, rfl, trivial⟩
        · replace h := iteP h g241
          conv => whnf
          refine Take.all (rfl) ?_
          conv => whnf
          obtain ⟨y242, e243, h⟩ := bind_ex h
          refine CallOk.of (impl_SubtractLeft_ct e243) ?_
          conv => whnf
          refine spl (fun g244 => ?_) (fun g244 => ?_)
          · replace h := iteT h g244
            conv => whnf
            exact CutK.piece (laws_FnOrdinalSums_p10_ct  h) [some 320, some 384, some 448, some 960, some 1104000, some 1104001, some 5184] [] ⟨⟨rfl, rfl⟩, ⟨rfl, ⟨rfl, ⟨rfl, rfl⟩, trivial⟩, ⟨rfl, rfl, trivial⟩, ⟨rfl, ⟨rfl, rfl⟩, trivial⟩, ⟨rfl, ⟨rfl, rfl⟩, trivial⟩, ⟨rfl, rfl, rows_same⟩, ⟨rfl, rfl, rows_same⟩, ⟨rfl, rfl, rows_same⟩, trivial⟩, rfl, ⟨rfl, rfl⟩, ⟨rfl, rfl⟩, ⟨rfl, rfl⟩, rfl, rfl, ⟨rfl, rfl⟩, rfl, trivial⟩
          · replace h := iteF h g244
            conv => whnf
            exact CutK.piece (laws_FnOrdinalSums_p10_ct  h) [some 320, some 384, some 448, some 960, some 1104000, some 1104001, some 5184] [] ⟨⟨rfl, rfl⟩, ⟨rfl, ⟨rfl, ⟨rfl, rfl⟩, trivial⟩, ⟨rfl, rfl, trivial⟩, ⟨rfl, ⟨rfl, rfl⟩, trivial⟩, ⟨rfl, ⟨rfl, rfl⟩, trivial⟩, ⟨rfl, rfl, rows_same⟩, ⟨rfl, rfl, rows_same⟩, ⟨rfl, rfl, rows_same⟩, trivial⟩, rfl, ⟨rfl, rfl⟩, ⟨rfl, rfl⟩, ⟨rfl, rfl⟩, rfl, rfl, ⟨rfl, rfl⟩, rfl, trivial⟩
      · replace h := condT h
        conv => whnf
        refine splT ?_
        conv => whnf
        cases h
        exact Done.of [] [] rfl rfl ⟨⟨rfl, rfl⟩, ⟨rfl, trivial⟩, rfl, trivial⟩
  · replace h := condT h
    cases v63
    · replace h := condF h
      cases v67
      · replace h := condF h
        conv => whnf
        refine splT ?_
        conv => whnf
        cases h
        exact Done.of [] [] rfl rfl ⟨⟨rfl, rfl⟩, ⟨rfl, trivial⟩, rfl, trivial⟩
      · replace h := condT h
        conv => whnf
        refine splF ?_
        conv => whnf
        refine splN (fun g245 => ?_) (fun g245 => ?_)
        · replace h := iteN h g245
          conv => whnf
          cases h
          exact Done.of [] [] rfl rfl ⟨⟨rfl, rfl⟩, ⟨rfl, trivial⟩, rfl, trivial⟩
        · replace h := iteP h g245
          conv => whnf
          refine Take.all (rfl) ?_
          conv => whnf
          obtain ⟨y246, e247, h⟩ := bind_ex h
          refine CallOk.of (impl_SubtractLeft_ct e247) ?_
          conv => whnf
          refine spl (fun g248 => ?_) (fun g248 => ?_)
          · replace h := iteT h g248
            conv => whnf
            exact CutK.piece (laws_FnOrdinalSums_p10_ct  h) [some 320, some 384, some 448, some 960, some 1104000, some 1104001, some 5184] [] ⟨⟨rfl, rfl⟩, ⟨rfl, ⟨rfl, ⟨rfl, rfl⟩, trivial⟩, ⟨rfl, rfl, trivial⟩, ⟨rfl, ⟨rfl, rfl⟩, trivial⟩, ⟨rfl, ⟨rfl, rfl⟩, trivial⟩, ⟨rfl, rfl, rows_same⟩, ⟨rfl, rfl, rows_same⟩, ⟨rfl, rfl, rows_same⟩, trivial⟩, rfl, ⟨rfl, rfl⟩, ⟨rfl, rfl⟩, ⟨rfl, rfl⟩, rfl, rfl, ⟨rfl, rfl⟩, rfl, trivial⟩
          · replace h := iteF h g248
            conv => whnf
            exact CutK.piece (laws_FnOrdinalSums_p10_ct  h) [some 320, some 384, some 448, some 960, some 1104000, some 1104001, some 5184] [] ⟨⟨rfl, rfl⟩, ⟨rfl, ⟨rfl, ⟨rfl, rfl⟩, trivial⟩, ⟨rfl, rfl, trivial⟩, ⟨rfl, ⟨rfl, rfl⟩, trivial⟩, ⟨rfl, ⟨rfl, rfl⟩, trivial⟩, ⟨rfl, rfl, rows_same⟩, ⟨rfl, rfl, rows_same⟩, ⟨rfl, rfl, rows_same⟩, trivial⟩, rfl, ⟨rfl, rfl⟩, ⟨rfl, rfl⟩, ⟨rfl, rfl⟩, rfl, rfl, ⟨rfl, rfl⟩, rfl, trivial⟩
    · replace h := condT h
      cases v67
      · replace h := condF h
        conv => whnf
        refine splT ?_
        conv => whnf
        cases h
        exact Done.of [] [] rfl rfl ⟨⟨rfl, rfl⟩, ⟨rfl, trivial⟩, rfl, trivial⟩
      · replace h := condT h
        conv => whnf
        refine splF ?_
        conv => whnf
        refine splN (fun g249 => ?_) (fun g249 => ?_)
        · replace h := iteN h g249
          conv => whnf
          cases h
          exact Done.of [] [] rfl rfl ⟨⟨rfl, rfl⟩, ⟨rfl, trivial⟩, rfl, trivial⟩
        · replace h := iteP h g249
          conv => whnf
          refine Take.all (rfl) ?_
          conv => whnf
          obtain ⟨y250, e251, h⟩ := bind_ex h
          refine CallOk.of (impl_SubtractLeft_ct e251) ?_
          conv => whnf
          refine spl (fun g252 => ?_) (fun g252 => ?_)
          · replace h := iteT h g252
            conv => whnf
            exact CutK.piece (laws_FnOrdinalSums_p10_ct  h) [some 320, some 384, some 448, some 960, some 1104000, some 1104001, some 5184] [] ⟨⟨rfl, rfl⟩, ⟨rfl, ⟨rfl, ⟨rfl, rfl⟩, trivial⟩, ⟨rfl, rfl, trivial⟩, ⟨rfl, ⟨rfl, rfl⟩, trivial⟩, ⟨rfl, ⟨rfl, rfl⟩, trivial⟩, ⟨rfl, rfl, rows_same⟩, ⟨rfl, rfl, rows_same⟩, ⟨rfl, rfl, rows_same⟩, trivial⟩, rfl, ⟨rfl, rfl⟩, ⟨rfl, rfl⟩, ⟨rfl, rfl⟩, rfl, rfl, ⟨rfl, rfl⟩, rfl, trivial⟩
          · replace h := iteF h g252
            conv => whnf
            exact CutK.piece (laws_FnOrdinalSums_p10_ct  h) [some 320, some 384, some 448, some 960, some 1104000, some 1104001, some 5184] [] ⟨⟨rfl, rfl⟩, ⟨rfl, ⟨rfl, ⟨rfl, rfl⟩, trivial⟩, ⟨rfl, rfl, trivial⟩, ⟨rfl, ⟨rfl, rfl⟩, trivial⟩, ⟨rfl, ⟨rfl, rfl⟩, trivial⟩, ⟨rfl, rfl, rows_same⟩, ⟨rfl, rfl, rows_same⟩, ⟨rfl, rfl, rows_same⟩, trivial⟩, rfl, ⟨rfl, rfl⟩, ⟨rfl, rfl⟩, ⟨rfl, rfl⟩, rfl, rfl, ⟨rfl, rfl⟩, rfl, trivial⟩
def laws_FnOrdinalSums_p7 (k : Nat) (a2 : Rw) (o42 : Int) (o43 : Rw) (o44 : Rw) (o45 : Rw) (v46 : Bool) (v50 : Bool) : Option Bool :=
  (cond v46 (cond v50 ((spec_CompareOrdinals k o43 o44).bind fun y262 => (if y262.2 = true then (laws_FnOrdinalSums_p8 k a2 o42 y262.1 o43 o44 o45 true true true) else (laws_FnOrdinalSums_p8 k a2 o42 y262.1 o43 o44 o45 false true true))) ((spec_CompareOrdinals k o43 o44).bind fun y259 => (if y259.2 = true then (laws_FnOrdinalSums_p8 k a2 o42 y259.1 o43 o44 o45 true false true) else (laws_FnOrdinalSums_p8 k a2 o42 y259.1 o43 o44 o45 false false true)))) (cond v50 ((spec_CompareOrdinals k o43 o44).bind fun y256 => (if y256.2 = true then (laws_FnOrdinalSums_p8 k a2 o42 y256.1 o43 o44 o45 true true false) else (laws_FnOrdinalSums_p8 k a2 o42 y256.1 o43 o44 o45 false true false))) ((spec_CompareOrdinals k o43 o44).bind fun y253 => (if y253.2 = true then (laws_FnOrdinalSums_p8 k a2 o42 y253.1 o43 o44 o45 true false false) else (laws_FnOrdinalSums_p8 k a2 o42 y253.1 o43 o44 o45 false false false)))))
set_option maxHeartbeats 4000000 in
set_option maxRecDepth 100000 in
theorem laws_FnOrdinalSums_p7_ct {k : Nat} {a2 : Rw} {o42 : Int} {o43 : Rw} {o44 : Rw} {o45 : Rw} {v46 : Bool} {v50 : Bool} {r : Bool} (h : laws_FnOrdinalSums_p7 k a2 o42 o43 o44 o45 v46 v50 = some r) : X prog 0 (tlF f3 7) (mk 160 [(1, .d (D.sl a2)), (5, .ptr 320 0), (6, .ptr 384 0), (7, .ptr 448 0), (8, .d (D.bool v50)), (11, .d (D.int .i64 o42)), (12, .d (D.bool v46))] [(320, .box 26 [.os 1099000 o43.length]), (384, .box 26 [.d (D.sl o44)]), (448, .box 26 [.os 1099001 o45.length]), (1099000, .arr 61 false o43), (1099001, .arr 61 true o45)]) (finK prog f3 0 (.d (D.bool r)) (⟨[], []⟩)) := by
  rw [laws_FnOrdinalSums_p7] at h
  cases v46
  · replace h := condF h
    cases v50
    · replace h := condF h
      conv => whnf
      refine Take.all (rfl) ?_
      conv => whnf
      obtain ⟨y253, e254, h⟩ := bind_ex h
      refine CallOk.of (spec_CompareOrdinals_ct e254) ?_
      conv => whnf
      refine spl (fun g255 => ?_) (fun g255 => ?_)
      · replace h := iteT h g255
        conv => whnf
        exact CutK.piece (laws_FnOrdinalSums_p8_ct  h) [some 320, some 384, some 448, some 1099000, some 1099001] [] ⟨⟨rfl, rfl⟩, ⟨rfl, ⟨rfl, ⟨rfl, rfl⟩, trivial⟩, ⟨rfl, rfl, trivial⟩, ⟨rfl, ⟨rfl, rfl⟩, trivial⟩, ⟨rfl, rfl, rows_same⟩, ⟨rfl, rfl, rows_same⟩, trivial⟩, rfl, ⟨rfl, rfl⟩, ⟨rfl, rfl⟩, ⟨rfl, rfl⟩, rfl, rfl, rfl, rfl, rfl, trivial⟩
      · replace h := iteF h g255
        conv => whnf
        exact CutK.piece (laws_FnOrdinalSums_p8_ct  h) [some 320, some 384, some 448, some 1099000, some 1099001] [] ⟨⟨rfl, rfl⟩, ⟨rfl, ⟨rfl, ⟨rfl, rfl⟩, trivial⟩, ⟨rfl, rfl, trivial⟩, ⟨rfl, ⟨rfl, rfl⟩, trivial⟩, ⟨rfl, rfl, rows_same⟩, ⟨rfl, rfl, rows_same⟩, trivial⟩, rfl, ⟨rfl, rfl⟩, ⟨rfl, rfl⟩, ⟨rfl, rfl⟩, rfl, rfl, rfl, rfl, rfl, trivial⟩
    · replace h := condT h
      conv => whnf
      refine Take.all (rfl) ?_
      conv => whnf
      obtain ⟨y256, e257, h⟩ := bind_ex h
      refine CallOk.of (spec_CompareOrdinals_ct e257) ?_
      conv => whnf
      refine spl (fun g258 => ?_) (fun g258 => ?_)
      · replace h := iteT h g258
        conv => whnf
        exact CutK.piece (laws_FnOrdinalSums_p8_ct  h) [some 320, some 384, some 448, some 1099000, some 1099001] [] ⟨⟨rfl, rfl⟩, ⟨rfl, ⟨rfl, ⟨rfl, rfl⟩, trivial⟩, ⟨rfl, rfl, trivial⟩, ⟨rfl, ⟨rfl, rfl⟩, trivial⟩, ⟨rfl, rfl, rows_same⟩, ⟨rfl, rfl, rows_same⟩, trivial⟩, rfl, ⟨rfl, rfl⟩, ⟨rfl, rfl⟩, ⟨rfl, rfl⟩, rfl, rfl, rfl, rfl, rfl, trivial⟩
      · replace h := iteF h g258
        conv => whnf
        exact CutK.piece (laws_FnOrdinalSums_p8_ct  h) [some 320, some 384, some 448, some 1099000, some 1099001] [] ⟨⟨rfl, rfl⟩, ⟨rfl, ⟨rfl, ⟨rfl, rfl⟩, trivial⟩, ⟨rfl, rfl, trivial⟩, ⟨rfl, ⟨rfl, rfl⟩, trivial⟩, ⟨rfl, rfl, rows_same⟩, ⟨rfl, rfl, rows_same⟩, trivial⟩, rfl, ⟨rfl, rfl⟩, ⟨rfl, rfl⟩, ⟨rfl, rfl⟩, rfl, rfl, rfl, rfl, rfl, trivial⟩
  · replace h := condT h
    cases v50
    · replace h := condF h
      conv => whnf
      refine Take.all (rfl) ?_
      conv => whnf
      obtain ⟨y259, e260, h⟩ := bind_ex h
      refine CallOk.of (spec_CompareOrdinals_ct e260) ?_
      conv => whnf
      refine spl (fun g261 => ?_) (fun g261 => ?_)
      · replace h := iteT h g261
        conv => whnf
        exact CutK.piece (laws_FnOrdinalSums_p8_ct  h) [some 320, some 384, some 448, some 1099000, some 1099001] [] ⟨⟨rfl, rfl⟩, ⟨rfl, ⟨rfl, ⟨rfl, rfl⟩, trivial⟩, ⟨rfl, rfl, trivial⟩, ⟨rfl, ⟨rfl, rfl⟩, trivial⟩, ⟨rfl, rfl, rows_same⟩, ⟨rfl, rfl, rows_same⟩, trivial⟩, rfl, ⟨rfl, rfl⟩, ⟨rfl, rfl⟩, ⟨rfl, rfl⟩, rfl, rfl, rfl, rfl, rfl, trivial⟩
      · replace h := iteF h g261
        conv => whnf
        exact CutK.piece (laws_FnOrdinalSums_p8_ct  h) [some 320, some 384, some 448, some 1099000, some 1099001] [] ⟨⟨rfl, rfl⟩, ⟨rfl, ⟨rfl, ⟨rfl, rfl⟩, trivial⟩, ⟨rfl, rfl, trivial⟩, ⟨rfl, ⟨rfl, rfl⟩, trivial⟩, ⟨rfl, rfl, rows_same⟩, ⟨rfl, rfl, rows_same⟩, trivial⟩, rfl, ⟨rfl, rfl⟩, ⟨rfl, rfl⟩, ⟨rfl, rfl⟩, rfl, rfl, rfl, rfl, rfl, trivial⟩
    · replace h := condT h
      conv => whnf
      refine Take.all (rfl) ?_
      conv => whnf
      obtain ⟨y262, e263, h⟩ := bind_ex h
      refine CallOk.of (spec_CompareOrdinals_ct e263) ?_
      conv => whnf
      refine spl (fun g264 => ?_) (fun g264 => ?_)
      · replace h := iteT h g264
        conv => whnf
        exact CutK.piece (laws_FnOrdinalSums_p8_ct  h) [some 320, some 384, some 448, some 1099000, some 1099001] [] ⟨⟨rfl, rfl⟩, ⟨rfl, ⟨rfl, ⟨rfl, rfl⟩, trivial⟩, ⟨rfl, rfl, trivial⟩, ⟨rfl, ⟨rfl, rfl⟩, trivial⟩, ⟨rfl, rfl, rows_same⟩, ⟨rfl, rfl, rows_same⟩, trivial⟩, rfl, ⟨rfl, rfl⟩, ⟨rfl, rfl⟩, ⟨rfl, rfl⟩, rfl, rfl, rfl, rfl, rfl, trivial⟩
      · replace h := iteF h g264
        conv => whnf
        exact CutK.piece (laws_FnOrdinalSums_p8_ct  h) [some 320, some 384, some 448, some 1099000, some 1099001] [] ⟨⟨rfl, rfl⟩, ⟨rfl, ⟨rfl, ⟨rfl, rfl⟩, trivial⟩, ⟨rfl, rfl, trivial⟩, ⟨rfl, ⟨rfl, rfl⟩, trivial⟩, ⟨rfl, rfl, rows_same⟩, ⟨rfl, rfl, rows_same⟩, trivial⟩, rfl, ⟨rfl, rfl⟩, ⟨rfl, rfl⟩, ⟨rfl, rfl⟩, rfl, rfl, rfl, rfl, rfl, trivial⟩
def laws_FnOrdinalSums_p6 (k : Nat) (a2 : Rw) (o32 : Rw) (o33 : Rw) (o34 : Rw) (v38 : Bool) : Option Bool :=
  (cond v38 ((impl_CompareOrdinals k o32 o33).bind fun y268 => (if y268.2 = true then (laws_FnOrdinalSums_p7 k a2 y268.1 o32 o33 o34 true true) else (laws_FnOrdinalSums_p7 k a2 y268.1 o32 o33 o34 false true))) ((impl_CompareOrdinals k o32 o33).bind fun y265 => (if y265.2 = true then (laws_FnOrdinalSums_p7 k a2 y265.1 o32 o33 o34 true false) else (laws_FnOrdinalSums_p7 k a2 y265.1 o32 o33 o34 false false))))
set_option maxHeartbeats 4000000 in
set_option maxRecDepth 100000 in
theorem laws_FnOrdinalSums_p6_ct {k : Nat} {a2 : Rw} {o32 : Rw} {o33 : Rw} {o34 : Rw} {v38 : Bool} {r : Bool} (h : laws_FnOrdinalSums_p6 k a2 o32 o33 o34 v38 = some r) : X prog 0 (tlF f3 6) (mk 160 [(1, .d (D.sl a2)), (5, .ptr 320 0), (6, .ptr 384 0), (7, .ptr 448 0), (8, .d (D.bool v38))] [(320, .box 26 [.os 1094000 o32.length]), (384, .box 26 [.d (D.sl o33)]), (448, .box 26 [.os 1094001 o34.length]), (1094000, .arr 61 false o32), (1094001, .arr 61 true o34)]) (finK prog f3 0 (.d (D.bool r)) (⟨[], []⟩)) := by
  rw [laws_FnOrdinalSums_p6] at h
  cases v38
  · replace h := condF h
    conv => whnf
    refine Take.all (rfl) ?_
    conv => whnf
    obtain ⟨y265, e266, h⟩ := bind_ex h
    refine CallOk.of (impl_CompareOrdinals_ct e266) ?_
    conv => whnf
    refine spl (fun g267 => ?_) (fun g267 => ?_)
    · replace h := iteT h g267
      conv => whnf
      exact CutK.piece (laws_FnOrdinalSums_p7_ct  h) [some 320, some 384, some 448, some 1094000, some 1094001] [] ⟨⟨rfl, rfl⟩, ⟨rfl, ⟨rfl, ⟨rfl, rfl⟩, trivial⟩, ⟨rfl, rfl, trivial⟩, ⟨rfl, ⟨rfl, rfl⟩, trivial⟩, ⟨rfl, rfl, rows_same⟩, ⟨rfl, rfl, rows_same⟩, trivial⟩, rfl, ⟨rfl, rfl⟩, ⟨rfl, rfl⟩, ⟨rfl, rfl⟩, rfl, rfl, rfl, trivial⟩
    · replace h := iteF h g267
      conv => whnf
      exact CutK.piece (laws_FnOrdinalSums_p7_ct  h) [some 320, some 384, some 448, some 1094000, some 1094001] [] ⟨⟨rfl, rfl⟩, ⟨rfl, ⟨rfl, ⟨rfl, rfl⟩, trivial⟩, ⟨rfl, rfl, trivial⟩, ⟨rfl, ⟨rfl, rfl⟩, trivial⟩, ⟨rfl, rfl, rows_same⟩, ⟨rfl, rfl, rows_same⟩, trivial⟩, rfl, ⟨rfl, rfl⟩, ⟨rfl, rfl⟩, ⟨rfl, rfl⟩, rfl, rfl, rfl, trivial⟩
  · replace h := condT h
    conv => whnf
    refine Take.all (rfl) ?_
    conv => whnf
    obtain ⟨y268, e269, h⟩ := bind_ex h
    refine CallOk.of (impl_CompareOrdinals_ct e269) ?_
    conv => whnf
    refine spl (fun g270 => ?_) (fun g270 => ?_)
    · replace h := iteT h g270
      conv => whnf
      exact CutK.piece (laws_FnOrdinalSums_p7_ct  h) [some 320, some 384, some 448, some 1094000, some 1094001] [] ⟨⟨rfl, rfl⟩, ⟨rfl, ⟨rfl, ⟨rfl, rfl⟩, trivial⟩, ⟨rfl, rfl, trivial⟩, ⟨rfl, ⟨rfl, rfl⟩, trivial⟩, ⟨rfl, rfl, rows_same⟩, ⟨rfl, rfl, rows_same⟩, trivial⟩, rfl, ⟨rfl, rfl⟩, ⟨rfl, rfl⟩, ⟨rfl, rfl⟩, rfl, rfl, rfl, trivial⟩
    · replace h := iteF h g270
      conv => whnf
      exact CutK.piece (laws_FnOrdinalSums_p7_ct  h) [some 320, some 384, some 448, some 1094000, some 1094001] [] ⟨⟨rfl, rfl⟩, ⟨rfl, ⟨rfl, ⟨rfl, rfl⟩, trivial⟩, ⟨rfl, rfl, trivial⟩, ⟨rfl, ⟨rfl, rfl⟩, trivial⟩, ⟨rfl, rfl, rows_same⟩, ⟨rfl, rfl, rows_same⟩, trivial⟩, rfl, ⟨rfl, rfl⟩, ⟨rfl, rfl⟩, ⟨rfl, rfl⟩, rfl, rfl, rfl, trivial⟩
def laws_FnOrdinalSums_p5 (k : Nat) (a2 : Rw) (o20 : Rw) (o21 : Rw) (o22 : Rw) (o23 : Rw) (v24 : Bool) (v28 : Bool) : Option Bool :=
  (cond v24 (cond v28 ((laws_sameOrdinal k o22 o23).bind fun y274 => (if y274 = true then (laws_FnOrdinalSums_p6 k a2 o20 o21 o22 true) else some false)) (some false)) (cond v28 (some false) ((laws_sameOrdinal k o22 o23).bind fun y271 => (if y271 = true then (laws_FnOrdinalSums_p6 k a2 o20 o21 o22 false) else some false))))
set_option maxHeartbeats 4000000 in
set_option maxRecDepth 100000 in
theorem laws_FnOrdinalSums_p5_ct {k : Nat} {a2 : Rw} {o20 : Rw} {o21 : Rw} {o22 : Rw} {o23 : Rw} {v24 : Bool} {v28 : Bool} {r : Bool} (h : laws_FnOrdinalSums_p5 k a2 o20 o21 o22 o23 v24 v28 = some r) : X prog 0 (tlF f3 5) (mk 160 [(1, .d (D.sl a2)), (5, .ptr 320 0), (6, .ptr 384 0), (7, .ptr 448 0), (8, .d (D.bool v28)), (9, .ptr 576 0), (10, .d (D.bool v24))] [(320, .box 26 [.os 1089000 o20.length]), (384, .box 26 [.d (D.sl o21)]), (448, .box 26 [.os 1089001 o22.length]), (576, .box 26 [.os 1089002 o23.length]), (1089000, .arr 61 false o20), (1089001, .arr 61 true o22), (1089002, .arr 61 true o23)]) (finK prog f3 0 (.d (D.bool r)) (⟨[], []⟩)) := by
  rw [laws_FnOrdinalSums_p5] at h
  cases v24
  · replace h := condF h
    cases v28
    · replace h := condF h
      conv => whnf
      refine splF ?_
      conv => whnf
      refine Take.all (rfl) ?_
      conv => whnf
      refine Take.all (rfl) ?_
      conv => whnf
      obtain ⟨y271, e272, h⟩ := bind_ex h
      refine CallOk.of (laws_sameOrdinal_ct e272) ?_
      conv => whnf
      refine spl (fun g273 => ?_) (fun g273 => ?_)
      · replace h := iteT h g273
        conv => whnf
        refine CutK.norm [1, 5, 6, 7, 8, 57] [320, 384, 448, 1089000, 1089001] ?_
        conv => whnf
        exact CutK.piece (laws_FnOrdinalSums_p6_ct  h) [some 320, some 384, some 448, some 1089000, some 1089001] [] ⟨⟨rfl, rfl⟩, ⟨rfl, ⟨rfl, ⟨rfl, rfl⟩, trivial⟩, ⟨rfl, rfl, trivial⟩, ⟨rfl, ⟨rfl, rfl⟩, trivial⟩, ⟨rfl, rfl, rows_same⟩, ⟨rfl, rfl, rows_same⟩, trivial⟩, rfl, ⟨rfl, rfl⟩, ⟨rfl, rfl⟩, ⟨rfl, rfl⟩, rfl, trivial⟩
      · replace h := iteF h g273
        conv => whnf
        refine CutK.norm [1, 5, 6, 7, 8, 57] [320, 384, 448, 1089000, 1089001] ?_
        conv => whnf
        cases h
        exact Done.of [] [] rfl rfl ⟨⟨rfl, rfl⟩, ⟨rfl, trivial⟩, rfl, trivial⟩
    · replace h := condT h
      conv => whnf
      refine splT ?_
      conv => whnf
      refine CutK.norm [1, 5, 6, 7, 8, 57] [320, 384, 448, 1089000, 1089001] ?_
      conv => whnf
      cases h
      exact Done.of [] [] rfl rfl ⟨⟨rfl, rfl⟩, ⟨rfl, trivial⟩, rfl, trivial⟩
  · replace h := condT h
    cases v28
    · replace h := condF h
      conv => whnf
      refine splT ?_
      conv => whnf
      refine CutK.norm [1, 5, 6, 7, 8, 57] [320, 384, 448, 1089000, 1089001] ?_
      conv => whnf
      cases h
      exact Done.of [] [] rfl rfl ⟨⟨rfl, rfl⟩, ⟨rfl, trivial⟩, rfl, trivial⟩
    · replace h := condT h
      conv => whnf
      refine splF ?_
      conv => whnf
      refine Take.all (rfl) ?_
      conv => whnf
      refine Take.all (rfl) ?_
      conv => whnf
      obtain ⟨y274, e275, h⟩ := bind_ex h
      refine CallOk.of (laws_sameOrdinal_ct e275) ?_
      conv => whnf
      refine spl (fun g276 => ?_) (fun g276 => ?_)
      · replace h := iteT h g276
        conv => whnf
        refine CutK.norm [1, 5, 6, 7, 8, 57] [320, 384, 448, 1089000, 1089001] ?_
        conv => whnf
        exact CutK.piece (laws_FnOrdinalSums_p6_ct  h) [some 320, some 384, some 448, some 1089000, some 1089001] [] ⟨⟨rfl, rfl⟩, ⟨rfl, ⟨rfl, ⟨rfl, rfl⟩, trivial⟩, ⟨rfl, rfl, trivial⟩, ⟨rfl, ⟨rfl, rfl⟩, trivial⟩, ⟨rfl, rfl, rows_same⟩, ⟨rfl, rfl, rows_same⟩, trivial⟩, rfl, ⟨rfl, rfl⟩, ⟨rfl, rfl⟩, ⟨rfl, rfl⟩, rfl, trivial⟩
      · replace h := iteF h g276
        conv => whnf
        refine CutK.norm [1, 5, 6, 7, 8, 57] [320, 384, 448, 1089000, 1089001] ?_
        conv => whnf
        cases h
        exact Done.of [] [] rfl rfl ⟨⟨rfl, rfl⟩, ⟨rfl, trivial⟩, rfl, trivial⟩
def laws_FnOrdinalSums_p4 (k : Nat) (a2 : Rw) (o13 : Rw) (o14 : Rw) (o15 : Rw) (v16 : Bool) : Option Bool :=
  (cond v16 ((spec_AddOrdinals k o13 o14).bind fun y280 => (if y280.2 = true then (laws_FnOrdinalSums_p5 k a2 o13 o14 o15 y280.1 true true) else (laws_FnOrdinalSums_p5 k a2 o13 o14 o15 y280.1 false true))) ((spec_AddOrdinals k o13 o14).bind fun y277 => (if y277.2 = true then (laws_FnOrdinalSums_p5 k a2 o13 o14 o15 y277.1 true false) else (laws_FnOrdinalSums_p5 k a2 o13 o14 o15 y277.1 false false))))
set_option maxHeartbeats 4000000 in
set_option maxRecDepth 100000 in
theorem laws_FnOrdinalSums_p4_ct {k : Nat} {a2 : Rw} {o13 : Rw} {o14 : Rw} {o15 : Rw} {v16 : Bool} {r : Bool} (h : laws_FnOrdinalSums_p4 k a2 o13 o14 o15 v16 = some r) : X prog 0 (tlF f3 4) (mk 160 [(1, .d (D.sl a2)), (5, .ptr 320 0), (6, .ptr 384 0), (7, .ptr 448 0), (8, .d (D.bool v16))] [(320, .box 26 [.os 1084000 o13.length]), (384, .box 26 [.d (D.sl o14)]), (448, .box 26 [.os 1084001 o15.length]), (1084000, .arr 61 false o13), (1084001, .arr 61 true o15)]) (finK prog f3 0 (.d (D.bool r)) (⟨[], []⟩)) := by
  rw [laws_FnOrdinalSums_p4] at h
  cases v16
  · replace h := condF h
    conv => whnf
    refine Take.all (rfl) ?_
    conv => whnf
    obtain ⟨y277, e278, h⟩ := bind_ex h
    refine CallOk.of (spec_AddOrdinals_ct e278) ?_
    conv => whnf
    refine spl (fun g279 => ?_) (fun g279 => ?_)
    · replace h := iteT h g279
      conv => whnf
      exact CutK.piece (laws_FnOrdinalSums_p5_ct  h) [some 320, some 384, some 448, some 576, some 1084000, some 1084001, some 2944] [] ⟨⟨rfl, rfl⟩, ⟨rfl, ⟨rfl, ⟨rfl, rfl⟩, trivial⟩, ⟨rfl, rfl, trivial⟩, ⟨rfl, ⟨rfl, rfl⟩, trivial⟩, ⟨rfl, ⟨rfl, rfl⟩, trivial⟩, ⟨rfl, rfl, rows_same⟩, ⟨rfl, rfl, rows_same⟩, ⟨rfl, rfl, rows_same⟩, trivial⟩, rfl, ⟨rfl, rfl⟩, ⟨rfl, rfl⟩, ⟨rfl, rfl⟩, rfl, ⟨rfl, rfl⟩, rfl, trivial⟩
    · replace h := iteF h g279
      conv => whnf
      exact CutK.piece (laws_FnOrdinalSums_p5_ct  h) [some 320, some 384, some 448, some 576, some 1084000, some 1084001, some 2944] [] ⟨⟨rfl, rfl⟩, ⟨rfl, ⟨rfl, ⟨rfl, rfl⟩, trivial⟩, ⟨rfl, rfl, trivial⟩, ⟨rfl, ⟨rfl, rfl⟩, trivial⟩, ⟨rfl, ⟨rfl, rfl⟩, trivial⟩, ⟨rfl, rfl, rows_same⟩, ⟨rfl, rfl, rows_same⟩, ⟨rfl, rfl, rows_same⟩, trivial⟩, rfl, ⟨rfl, rfl⟩, ⟨rfl, rfl⟩, ⟨rfl, rfl⟩, rfl, ⟨rfl, rfl⟩, rfl, trivial⟩
  · replace h := condT h
    conv => whnf
    refine Take.all (rfl) ?_
    conv => whnf
    obtain ⟨y280, e281, h⟩ := bind_ex h
    refine CallOk.of (spec_AddOrdinals_ct e281) ?_
    conv => whnf
    refine spl (fun g282 => ?_) (fun g282 => ?_)
    · replace h := iteT h g282
      conv => whnf
      exact CutK.piece (laws_FnOrdinalSums_p5_ct  h) [some 320, some 384, some 448, some 576, some 1084000, some 1084001, some 2944] [] ⟨⟨rfl, rfl⟩, ⟨rfl, ⟨rfl, ⟨rfl, rfl⟩, trivial⟩, ⟨rfl, rfl, trivial⟩, ⟨rfl, ⟨rfl, rfl⟩, trivial⟩, ⟨rfl, ⟨rfl, rfl⟩, trivial⟩, ⟨rfl, rfl, rows_same⟩, ⟨rfl, rfl, rows_same⟩, ⟨rfl, rfl, rows_same⟩, trivial⟩, rfl, ⟨rfl, rfl⟩, ⟨rfl, rfl⟩, ⟨rfl, rfl⟩, rfl, ⟨rfl, rfl⟩, rfl, trivial⟩
    · replace h := iteF h g282
      conv => whnf
      exact CutK.piece (laws_FnOrdinalSums_p5_ct  h) [some 320, some 384, some 448, some 576, some 1084000, some 1084001, some 2944] [] ⟨⟨rfl, rfl⟩, ⟨rfl, ⟨rfl, ⟨rfl, rfl⟩, trivial⟩, ⟨rfl, rfl, trivial⟩, ⟨rfl, ⟨rfl, rfl⟩, trivial⟩, ⟨rfl, ⟨rfl, rfl⟩, trivial⟩, ⟨rfl, rfl, rows_same⟩, ⟨rfl, rfl, rows_same⟩, ⟨rfl, rfl, rows_same⟩, trivial⟩, rfl, ⟨rfl, rfl⟩, ⟨rfl, rfl⟩, ⟨rfl, rfl⟩, rfl, ⟨rfl, rfl⟩, rfl, trivial⟩
def laws_FnOrdinalSums_p3 (k : Nat) (a2 : Rw) (o8 : Rw) (o9 : Rw) : Option Bool :=
  ((impl_AddOrdinals k o8 o9).bind fun y283 => (if y283.2 = true then (laws_FnOrdinalSums_p4 k a2 o8 o9 y283.1 true) else (laws_FnOrdinalSums_p4 k a2 o8 o9 y283.1 false)))
set_option maxHeartbeats 4000000 in
set_option maxRecDepth 100000 in
theorem laws_FnOrdinalSums_p3_ct {k : Nat} {a2 : Rw} {o8 : Rw} {o9 : Rw} {r : Bool} (h : laws_FnOrdinalSums_p3 k a2 o8 o9 = some r) : X prog 0 (tlF f3 3) (mk 160 [(1, .d (D.sl a2)), (5, .ptr 320 0), (6, .ptr 384 0)] [(320, .box 26 [.os 1079000 o8.length]), (384, .box 26 [.d (D.sl o9)]), (1079000, .arr 61 false o8)]) (finK prog f3 0 (.d (D.bool r)) (⟨[], []⟩)) := by
  rw [laws_FnOrdinalSums_p3] at h
  conv => whnf
  refine Take.all (rfl) ?_
  conv => whnf
  obtain ⟨y283, e284, h⟩ := bind_ex h
  refine CallOk.of (impl_AddOrdinals_ct e284) ?_
  conv => whnf
  refine spl (fun g285 => ?_) (fun g285 => ?_)
  · replace h := iteT h g285
    conv => whnf
    exact CutK.piece (laws_FnOrdinalSums_p4_ct  h) [some 320, some 384, some 448, some 1079000, some 2560] [] ⟨⟨rfl, rfl⟩, ⟨rfl, ⟨rfl, ⟨rfl, rfl⟩, trivial⟩, ⟨rfl, rfl, trivial⟩, ⟨rfl, ⟨rfl, rfl⟩, trivial⟩, ⟨rfl, rfl, rows_same⟩, ⟨rfl, rfl, rows_same⟩, trivial⟩, rfl, ⟨rfl, rfl⟩, ⟨rfl, rfl⟩, ⟨rfl, rfl⟩, rfl, trivial⟩
  · replace h := iteF h g285
    conv => whnf
    exact CutK.piece (laws_FnOrdinalSums_p4_ct  h) [some 320, some 384, some 448, some 1079000, some 2560] [] ⟨⟨rfl, rfl⟩, ⟨rfl, ⟨rfl, ⟨rfl, rfl⟩, trivial⟩, ⟨rfl, rfl, trivial⟩, ⟨rfl, ⟨rfl, rfl⟩, trivial⟩, ⟨rfl, rfl, rows_same⟩, ⟨rfl, rfl, rows_same⟩, trivial⟩, rfl, ⟨rfl, rfl⟩, ⟨rfl, rfl⟩, ⟨rfl, rfl⟩, rfl, trivial⟩
def laws_FnOrdinalSums_p2 (k : Nat) (a1 : Rw) (a2 : Rw) : Option Bool :=
  ((spec_DrawAddOrdinals k a1).bind fun y286 => (laws_FnOrdinalSums_p3 k a2 y286.1 y286.2))
set_option maxHeartbeats 4000000 in
set_option maxRecDepth 100000 in
theorem laws_FnOrdinalSums_p2_ct {k : Nat} {a1 : Rw} {a2 : Rw} {r : Bool} (h : laws_FnOrdinalSums_p2 k a1 a2 = some r) : X prog 0 (tlF f3 2) (mk 160 [(0, .d (D.sl a1)), (1, .d (D.sl a2))] []) (finK prog f3 0 (.d (D.bool r)) (⟨[], []⟩)) := by
  rw [laws_FnOrdinalSums_p2] at h
  conv => whnf
  obtain ⟨y286, e287, h⟩ := bind_ex h
  refine CallOk.of (spec_DrawAddOrdinals_ct e287) ?_
  conv => whnf
  exact CutK.piece (laws_FnOrdinalSums_p3_ct  h) [some 320, some 384, some 2176] [] ⟨⟨rfl, rfl⟩, ⟨rfl, ⟨rfl, ⟨rfl, rfl⟩, trivial⟩, ⟨rfl, rfl, trivial⟩, ⟨rfl, rfl, rows_same⟩, trivial⟩, rfl, ⟨rfl, rfl⟩, ⟨rfl, rfl⟩, trivial⟩
def laws_FnOrdinalSums (k : Nat) (a1 : Rw) (a2 : Rw) : Option Bool :=
  ((laws_big a1 a2).bind fun y288 => (if y288 = true then some true else (laws_FnOrdinalSums_p2 k a1 a2)))
set_option maxHeartbeats 4000000 in
set_option maxRecDepth 100000 in
theorem laws_FnOrdinalSums_ct {k : Nat} {a1 : Rw} {a2 : Rw} {r : Bool} (h : laws_FnOrdinalSums k a1 a2 = some r) : Ct prog 3 [.d (D.sl a1), .d (D.sl a2)] (⟨[], []⟩) (.d (D.bool r)) (⟨[], []⟩) := by
  rw [laws_FnOrdinalSums] at h
  refine Ct.of (c := _) mixed func3 ⟨rfl, rfl, rfl⟩ ?_ rfl
  conv => whnf
  obtain ⟨y288, e289, h⟩ := bind_ex h
  refine CallOk.of (laws_big_ct e289) ?_
  conv => whnf
  refine spl (fun g290 => ?_) (fun g290 => ?_)
  · replace h := iteT h g290
    conv => whnf
    refine CutK.norm [0, 1, 31] [] ?_
    conv => whnf
    cases h
    exact Done.of [] [] rfl rfl ⟨⟨rfl, rfl⟩, ⟨rfl, trivial⟩, rfl, trivial⟩
  · replace h := iteF h g290
    conv => whnf
    refine CutK.norm [0, 1, 31] [] ?_
    conv => whnf
    exact CutK.piece (laws_FnOrdinalSums_p2_ct  h) [] [] ⟨⟨rfl, rfl⟩, ⟨rfl, trivial⟩, rfl, rfl, trivial⟩
end
end Go.Proofs.Try
