/- Printed by program (axgen): pure functions, and that the Go functions compute them. -/
import Derived.Test.YtglgpldmibamnaaScaG0
set_option linter.unusedVariables false
set_option linter.unusedSimpArgs false
namespace Go.Proofs.Try
open Go Go.AX
noncomputable section
def laws_FnExactScaleSurreal_p22 (o176 : Int) (o177 : Int) : Option Bool :=
  (if o177 < (0 : Int) then some false else (if o177 = o176 then some true else some false))
set_option maxHeartbeats 4000000 in
set_option maxRecDepth 100000 in
theorem laws_FnExactScaleSurreal_p22_ct {o176 : Int} {o177 : Int} {r : Bool} (h : laws_FnExactScaleSurreal_p22 o176 o177 = some r) : X prog 0 (tlF f14 22) (mk 104 [(12, .d (D.int .i64 o176)), (13, .d (D.int .i64 o177))] []) (finK prog f14 0 (.d (D.bool r)) (⟨[], []⟩)) := by
  rw [laws_FnExactScaleSurreal_p22] at h
  conv => whnf
  refine splD (fun g180 => ?_) (fun g180 => ?_)
  · replace h := iteP h g180
    conv => whnf
    cases h
    exact Done.of [] [] rfl rfl ⟨⟨rfl, rfl⟩, ⟨rfl, trivial⟩, rfl, trivial⟩
  · replace h := iteN h g180
    conv => whnf
    refine splN (fun g181 => ?_) (fun g181 => ?_)
    · replace h := iteN h g181
      conv => whnf
      cases h
      exact Done.of [] [] rfl rfl ⟨⟨rfl, rfl⟩, ⟨rfl, trivial⟩, rfl, trivial⟩
    · replace h := iteP h g181
      conv => whnf
      cases h
      exact Done.of [] [] rfl rfl ⟨⟨rfl, rfl⟩, ⟨rfl, trivial⟩, rfl, trivial⟩
def laws_FnExactScaleSurreal_p20 (k : Nat) (o163 : Int) (o164 : Rw) : Option Bool :=
  ((laws_heldSurreal k o164 1).bind fun y182 => (laws_FnExactScaleSurreal_p22 o163 y182))
set_option maxHeartbeats 4000000 in
set_option maxRecDepth 100000 in
theorem laws_FnExactScaleSurreal_p20_ct {k : Nat} {o163 : Int} {o164 : Rw} {r : Bool} (h : laws_FnExactScaleSurreal_p20 k o163 o164 = some r) : X prog 0 (tlF f14 20) (mk 104 [(9, .ptr 576 0), (12, .d (D.int .i64 o163))] [(576, .box 75 [.os 1164000 o164.length]), (1164000, .arr 162 true o164)]) (finK prog f14 0 (.d (D.bool r)) (⟨[], []⟩)) := by
  rw [laws_FnExactScaleSurreal_p20] at h
  conv => whnf
  refine Choice.old ?_
  conv => whnf
  refine Take.all (rfl) ?_
  conv => whnf
  obtain ⟨y182, e183, h⟩ := bind_ex h
  refine CallOk.of (laws_heldSurreal_ct e183) ?_
  conv => whnf
  exact CutK.piece (laws_FnExactScaleSurreal_p22_ct  h) [] [] ⟨⟨rfl, rfl⟩, ⟨rfl, trivial⟩, rfl, rfl, trivial⟩
def laws_FnExactScaleSurreal_p19 (k : Nat) (o145 : Int) (o146 : Rw) (o147 : Rw) (o148 : Rw) (v149 : Bool) (v159 : Bool) : Option Bool :=
  (cond v149 (cond v159 ((laws_eqSurreal k o148 o146).bind fun y193 => (if y193 = true then (laws_FnExactScaleSurreal_p20 k o145 o147) else some false)) ((laws_eqSurreal k o148 o146).bind fun y190 => (if y190 = true then some false else some false))) (cond v159 ((laws_eqSurreal k o148 o146).bind fun y187 => (if y187 = true then some false else some false)) ((laws_eqSurreal k o148 o146).bind fun y184 => (if y184 = true then (laws_FnExactScaleSurreal_p20 k o145 o147) else some false))))
set_option maxHeartbeats 4000000 in
set_option maxRecDepth 100000 in
theorem laws_FnExactScaleSurreal_p19_ct {k : Nat} {o145 : Int} {o146 : Rw} {o147 : Rw} {o148 : Rw} {v149 : Bool} {v159 : Bool} {r : Bool} (h : laws_FnExactScaleSurreal_p19 k o145 o146 o147 o148 v149 v159 = some r) : X prog 0 (tlF f14 19) (mk 104 [(6, .ptr 384 0), (7, .d (D.bool v159)), (9, .ptr 576 0), (12, .d (D.int .i64 o145)), (14, .ptr 896 0), (15, .d (D.bool v149))] [(384, .box 75 [.os 1159000 o146.length]), (576, .box 75 [.os 1159001 o147.length]), (896, .box 75 [.os 1159002 o148.length]), (1159000, .arr 162 true o146), (1159001, .arr 162 true o147), (1159002, .arr 162 true o148)]) (finK prog f14 0 (.d (D.bool r)) (⟨[], []⟩)) := by
  rw [laws_FnExactScaleSurreal_p19] at h
  cases v149
  · replace h := condF h
    cases v159
    · replace h := condF h
      conv => whnf
      refine Take.all (rfl) ?_
      conv => whnf
      refine Take.all (rfl) ?_
      conv => whnf
      obtain ⟨y184, e185, h⟩ := bind_ex h
      refine CallOk.of (laws_eqSurreal_ct e185) ?_
      conv => whnf
      refine spl (fun g186 => ?_) (fun g186 => ?_)
      · replace h := iteT h g186
        conv => whnf
        refine splF ?_
        conv => whnf
        refine CutK.norm [9, 12, 95] [576, 1159001] ?_
        conv => whnf
        exact CutK.piece (laws_FnExactScaleSurreal_p20_ct  h) [some 576, some 1159001] [] ⟨⟨rfl, rfl⟩, ⟨rfl, ⟨rfl, ⟨rfl, rfl⟩, trivial⟩, ⟨rfl, rfl, rows_same⟩, trivial⟩, ⟨rfl, rfl⟩, rfl, trivial⟩
      · replace h := iteF h g186
        conv => whnf
        refine CutK.norm [9, 12, 95] [576, 1159001] ?_
        conv => whnf
        cases h
        exact Done.of [] [] rfl rfl ⟨⟨rfl, rfl⟩, ⟨rfl, trivial⟩, rfl, trivial⟩
    · replace h := condT h
      conv => whnf
      refine Take.all (rfl) ?_
      conv => whnf
      refine Take.all (rfl) ?_
      conv => whnf
      obtain ⟨y187, e188, h⟩ := bind_ex h
      refine CallOk.of (laws_eqSurreal_ct e188) ?_
      conv => whnf
      refine spl (fun g189 => ?_) (fun g189 => ?_)
      · replace h := iteT h g189
        conv => whnf
        refine splT ?_
        conv => whnf
        refine CutK.norm [9, 12, 95] [576, 1159001] ?_
        conv => whnf
        cases h
        exact Done.of [] [] rfl rfl ⟨⟨rfl, rfl⟩, ⟨rfl, trivial⟩, rfl, trivial⟩
      · replace h := iteF h g189
        conv => whnf
        refine CutK.norm [9, 12, 95] [576, 1159001] ?_
        conv => whnf
        cases h
        exact Done.of [] [] rfl rfl ⟨⟨rfl, rfl⟩, ⟨rfl, trivial⟩, rfl, trivial⟩
  · replace h := condT h
    cases v159
    · replace h := condF h
      conv => whnf
      refine Take.all (rfl) ?_
      conv => whnf
      refine Take.all (rfl) ?_
      conv => whnf
      obtain ⟨y190, e191, h⟩ := bind_ex h
      refine CallOk.of (laws_eqSurreal_ct e191) ?_
      conv => whnf
      refine spl (fun g192 => ?_) (fun g192 => ?_)
      · replace h := iteT h g192
        conv => whnf
        refine splT ?_
        conv => whnf
        refine CutK.norm [9, 12, 95] [576, 1159001] ?_
        conv => whnf
        cases h
        exact Done.of [] [] rfl rfl ⟨⟨rfl, rfl⟩, ⟨rfl, trivial⟩, rfl, trivial⟩
      · replace h := iteF h g192
        conv => whnf
        refine CutK.norm [9, 12, 95] [576, 1159001] ?_
        conv => whnf
        cases h
        exact Done.of [] [] rfl rfl ⟨⟨rfl, rfl⟩, ⟨rfl, trivial⟩, rfl, trivial⟩
    · replace h := condT h
      conv => whnf
      refine Take.all (rfl) ?_
      conv => whnf
      refine Take.all (rfl) ?_
      conv => whnf
      obtain ⟨y193, e194, h⟩ := bind_ex h
      refine CallOk.of (laws_eqSurreal_ct e194) ?_
      conv => whnf
      refine spl (fun g195 => ?_) (fun g195 => ?_)
      · replace h := iteT h g195
        conv => whnf
        refine splF ?_
        conv => whnf
        refine CutK.norm [9, 12, 95] [576, 1159001] ?_
        conv => whnf
        exact CutK.piece (laws_FnExactScaleSurreal_p20_ct  h) [some 576, some 1159001] [] ⟨⟨rfl, rfl⟩, ⟨rfl, ⟨rfl, ⟨rfl, rfl⟩, trivial⟩, ⟨rfl, rfl, rows_same⟩, trivial⟩, ⟨rfl, rfl⟩, rfl, trivial⟩
      · replace h := iteF h g195
        conv => whnf
        refine CutK.norm [9, 12, 95] [576, 1159001] ?_
        conv => whnf
        cases h
        exact Done.of [] [] rfl rfl ⟨⟨rfl, rfl⟩, ⟨rfl, trivial⟩, rfl, trivial⟩
def laws_FnExactScaleSurreal_p16 (k : Nat) (a1 : Rw) (a2 : Int) (a3 : Int) (o129 : Int) (o130 : Int) (o131 : Rw) (o132 : Rw) (v135 : Bool) : Option Bool :=
  (cond v135 (if o130 < (0 : Int) then some false else (if o130 = o129 then ((laws_toSurreal k a1).bind fun y207 => ((laws_toFraction a2 a3).bind fun y209 => ((impl_ScaleSurreal k y207 y209.1 y209.2).bind fun y211 => (if y211.2 = true then (laws_FnExactScaleSurreal_p19 k o129 o131 o132 y211.1 true true) else (laws_FnExactScaleSurreal_p19 k o129 o131 o132 y211.1 false true))))) else some false)) (if o130 < (0 : Int) then some false else (if o130 = o129 then ((laws_toSurreal k a1).bind fun y198 => ((laws_toFraction a2 a3).bind fun y200 => ((impl_ScaleSurreal k y198 y200.1 y200.2).bind fun y202 => (if y202.2 = true then (laws_FnExactScaleSurreal_p19 k o129 o131 o132 y202.1 true false) else (laws_FnExactScaleSurreal_p19 k o129 o131 o132 y202.1 false false))))) else some false)))
set_option maxHeartbeats 4000000 in
set_option maxRecDepth 100000 in
theorem laws_FnExactScaleSurreal_p16_ct {k : Nat} {a1 : Rw} {a2 : Int} {a3 : Int} {o129 : Int} {o130 : Int} {o131 : Rw} {o132 : Rw} {v135 : Bool} {r : Bool} (h : laws_FnExactScaleSurreal_p16 k a1 a2 a3 o129 o130 o131 o132 v135 = some r) : X prog 0 (tlF f14 16) (mk 104 [(2, .ptr 128 0), (3, .ptr 192 0), (6, .ptr 384 0), (7, .d (D.bool v135)), (9, .ptr 576 0), (12, .d (D.int .i64 o129)), (13, .d (D.int .i64 o130))] [(128, .box 71 [.d (D.sl a1)]), (192, .box 83 [.d (D.int .i64 a2), .d (D.int .i64 a3)]), (384, .box 75 [.os 1144000 o131.length]), (576, .box 75 [.os 1144001 o132.length]), (1144000, .arr 162 true o131), (1144001, .arr 162 true o132)]) (finK prog f14 0 (.d (D.bool r)) (⟨[], []⟩)) := by
  rw [laws_FnExactScaleSurreal_p16] at h
  cases v135
  · replace h := condF h
    conv => whnf
    refine splD (fun g196 => ?_) (fun g196 => ?_)
    · replace h := iteP h g196
      conv => whnf
      cases h
      exact Done.of [] [] rfl rfl ⟨⟨rfl, rfl⟩, ⟨rfl, trivial⟩, rfl, trivial⟩
    · replace h := iteN h g196
      conv => whnf
      refine splN (fun g197 => ?_) (fun g197 => ?_)
      · replace h := iteN h g197
        conv => whnf
        cases h
        exact Done.of [] [] rfl rfl ⟨⟨rfl, rfl⟩, ⟨rfl, trivial⟩, rfl, trivial⟩
      · replace h := iteP h g197
        conv => whnf
        obtain ⟨y198, e199, h⟩ := bind_ex h
        refine CallOk.of (laws_toSurreal_ct e199) ?_
        conv => whnf
        obtain ⟨y200, e201, h⟩ := bind_ex h
        refine CallOk.of (laws_toFraction_ct e201) ?_
        conv => whnf
        refine Take.all (rfl) ?_
        conv => whnf
        obtain ⟨y202, e203, h⟩ := bind_ex h
        refine CallOk.of (impl_ScaleSurreal_ct e203) ?_
        conv => whnf
        refine spl (fun g204 => ?_) (fun g204 => ?_)
        · replace h := iteT h g204
          conv => whnf
          exact CutK.piece (laws_FnExactScaleSurreal_p19_ct  h) [some 384, some 576, some 896, some 1144000, some 1144001, some 5376] [] ⟨⟨rfl, rfl⟩, ⟨rfl, ⟨rfl, ⟨rfl, rfl⟩, trivial⟩, ⟨rfl, ⟨rfl, rfl⟩, trivial⟩, ⟨rfl, ⟨rfl, rfl⟩, trivial⟩, ⟨rfl, rfl, rows_same⟩, ⟨rfl, rfl, rows_same⟩, ⟨rfl, rfl, rows_same⟩, trivial⟩, ⟨rfl, rfl⟩, rfl, ⟨rfl, rfl⟩, rfl, ⟨rfl, rfl⟩, rfl, trivial⟩
        · replace h := iteF h g204
          conv => whnf
          exact CutK.piece (laws_FnExactScaleSurreal_p19_ct  h) [some 384, some 576, some 896, some 1144000, some 1144001, some 5376] [] ⟨⟨rfl, rfl⟩, ⟨rfl, ⟨rfl, ⟨rfl, rfl⟩, trivial⟩, ⟨rfl, ⟨rfl, rfl⟩, trivial⟩, ⟨rfl, ⟨rfl, rfl⟩, trivial⟩, ⟨rfl, rfl, rows_same⟩, ⟨rfl, rfl, rows_same⟩, ⟨rfl, rfl, rows_same⟩, trivial⟩, ⟨rfl, rfl⟩, rfl, ⟨rfl, rfl⟩, rfl, ⟨rfl, rfl⟩, rfl, trivial⟩
  · replace h := condT h
    conv => whnf
    refine splD (fun g205 => ?_) (fun g205 => ?_)
    · replace h := iteP h g205
      conv => whnf
      cases h
      exact Done.of [] [] rfl rfl ⟨⟨rfl, rfl⟩, ⟨rfl, trivial⟩, rfl, trivial⟩
    · replace h := iteN h g205
      conv => whnf
      refine splN (fun g206 => ?_) (fun g206 => ?_)
      · replace h := iteN h g206
        conv => whnf
        cases h
        exact Done.of [] [] rfl rfl ⟨⟨rfl, rfl⟩, ⟨rfl, trivial⟩, rfl, trivial⟩
      · replace h := iteP h g206
        conv => whnf
        obtain ⟨y207, e208, h⟩ := bind_ex h
        refine CallOk.of (laws_toSurreal_ct e208) ?_
        conv => whnf
        obtain ⟨y209, e210, h⟩ := bind_ex h
        refine CallOk.of (laws_toFraction_ct e210) ?_
        conv => whnf
        refine Take.all (rfl) ?_
        conv => whnf
        obtain ⟨y211, e212, h⟩ := bind_ex h
        refine CallOk.of (impl_ScaleSurreal_ct e212) ?_
        conv => whnf
        refine spl (fun g213 => ?_) (fun g213 => ?_)
        · replace h := iteT h g213
          conv => whnf
          exact CutK.piece (laws_FnExactScaleSurreal_p19_ct  h) [some 384, some 576, some 896, some 1144000, some 1144001, some 5376] [] ⟨⟨rfl, rfl⟩, ⟨rfl, ⟨rfl, ⟨rfl, rfl⟩, trivial⟩, ⟨rfl, ⟨rfl, rfl⟩, trivial⟩, ⟨rfl, ⟨rfl, rfl⟩, trivial⟩, ⟨rfl, rfl, rows_same⟩, ⟨rfl, rfl, rows_same⟩, ⟨rfl, rfl, rows_same⟩, trivial⟩, ⟨rfl, rfl⟩, rfl, ⟨rfl, rfl⟩, rfl, ⟨rfl, rfl⟩, rfl, trivial⟩
        · replace h := iteF h g213
          conv => whnf
          exact CutK.piece (laws_FnExactScaleSurreal_p19_ct  h) [some 384, some 576, some 896, some 1144000, some 1144001, some 5376] [] ⟨⟨rfl, rfl⟩, ⟨rfl, ⟨rfl, ⟨rfl, rfl⟩, trivial⟩, ⟨rfl, ⟨rfl, rfl⟩, trivial⟩, ⟨rfl, ⟨rfl, rfl⟩, trivial⟩, ⟨rfl, rfl, rows_same⟩, ⟨rfl, rfl, rows_same⟩, ⟨rfl, rfl, rows_same⟩, trivial⟩, ⟨rfl, rfl⟩, rfl, ⟨rfl, rfl⟩, rfl, ⟨rfl, rfl⟩, rfl, trivial⟩
def laws_FnExactScaleSurreal_p14 (k : Nat) (a1 : Rw) (a2 : Int) (a3 : Int) (o120 : Int) (o121 : Rw) (o122 : Rw) (v126 : Bool) : Option Bool :=
  (cond v126 ((laws_heldSurreal k o122 1).bind fun y216 => (laws_FnExactScaleSurreal_p16 k a1 a2 a3 o120 y216 o121 o122 true)) ((laws_heldSurreal k o122 1).bind fun y214 => (laws_FnExactScaleSurreal_p16 k a1 a2 a3 o120 y214 o121 o122 false)))
set_option maxHeartbeats 4000000 in
set_option maxRecDepth 100000 in
theorem laws_FnExactScaleSurreal_p14_ct {k : Nat} {a1 : Rw} {a2 : Int} {a3 : Int} {o120 : Int} {o121 : Rw} {o122 : Rw} {v126 : Bool} {r : Bool} (h : laws_FnExactScaleSurreal_p14 k a1 a2 a3 o120 o121 o122 v126 = some r) : X prog 0 (tlF f14 14) (mk 104 [(2, .ptr 128 0), (3, .ptr 192 0), (6, .ptr 384 0), (7, .d (D.bool v126)), (9, .ptr 576 0), (12, .d (D.int .i64 o120))] [(128, .box 71 [.d (D.sl a1)]), (192, .box 83 [.d (D.int .i64 a2), .d (D.int .i64 a3)]), (384, .box 75 [.os 1134000 o121.length]), (576, .box 75 [.os 1134001 o122.length]), (1134000, .arr 162 true o121), (1134001, .arr 162 true o122)]) (finK prog f14 0 (.d (D.bool r)) (⟨[], []⟩)) := by
  rw [laws_FnExactScaleSurreal_p14] at h
  cases v126
  · replace h := condF h
    conv => whnf
    refine Choice.old ?_
    conv => whnf
    refine Take.all (rfl) ?_
    conv => whnf
    obtain ⟨y214, e215, h⟩ := bind_ex h
    refine CallOk.of (laws_heldSurreal_ct e215) ?_
    conv => whnf
    exact CutK.piece (laws_FnExactScaleSurreal_p16_ct  h) [some 128, some 192, some 384, some 576, some 1134000, some 1134001] [] ⟨⟨rfl, rfl⟩, ⟨rfl, ⟨rfl, rfl, trivial⟩, ⟨rfl, rfl, rfl, trivial⟩, ⟨rfl, ⟨rfl, rfl⟩, trivial⟩, ⟨rfl, ⟨rfl, rfl⟩, trivial⟩, ⟨rfl, rfl, rows_same⟩, ⟨rfl, rfl, rows_same⟩, trivial⟩, ⟨rfl, rfl⟩, ⟨rfl, rfl⟩, ⟨rfl, rfl⟩, rfl, ⟨rfl, rfl⟩, rfl, rfl, trivial⟩
  · replace h := condT h
    conv => whnf
    refine Choice.old ?_
    conv => whnf
    refine Take.all (rfl) ?_
    conv => whnf
    obtain ⟨y216, e217, h⟩ := bind_ex h
    refine CallOk.of (laws_heldSurreal_ct e217) ?_
    conv => whnf
    exact CutK.piece (laws_FnExactScaleSurreal_p16_ct  h) [some 128, some 192, some 384, some 576, some 1134000, some 1134001] [] ⟨⟨rfl, rfl⟩, ⟨rfl, ⟨rfl, rfl, trivial⟩, ⟨rfl, rfl, rfl, trivial⟩, ⟨rfl, ⟨rfl, rfl⟩, trivial⟩, ⟨rfl, ⟨rfl, rfl⟩, trivial⟩, ⟨rfl, rfl, rows_same⟩, ⟨rfl, rfl, rows_same⟩, trivial⟩, ⟨rfl, rfl⟩, ⟨rfl, rfl⟩, ⟨rfl, rfl⟩, rfl, ⟨rfl, rfl⟩, rfl, rfl, trivial⟩
def laws_FnExactScaleSurreal_p12 (k : Nat) (a1 : Rw) (a2 : Int) (a3 : Int) (o102 : Rw) (o103 : Rw) (v116 : Bool) : Option Bool :=
  (cond v116 ((laws_markSurreal k o103 1).bind fun y221 => (if y221.2.length = o103.length then (laws_FnExactScaleSurreal_p14 k a1 a2 a3 y221.1 o102 y221.2 true) else none)) ((laws_markSurreal k o103 1).bind fun y218 => (if y218.2.length = o103.length then (laws_FnExactScaleSurreal_p14 k a1 a2 a3 y218.1 o102 y218.2 false) else none)))
set_option maxHeartbeats 4000000 in
set_option maxRecDepth 100000 in
theorem laws_FnExactScaleSurreal_p12_ct {k : Nat} {a1 : Rw} {a2 : Int} {a3 : Int} {o102 : Rw} {o103 : Rw} {v116 : Bool} {r : Bool} (h : laws_FnExactScaleSurreal_p12 k a1 a2 a3 o102 o103 v116 = some r) : X prog 0 (tlF f14 12) (mk 104 [(2, .ptr 128 0), (3, .ptr 192 0), (6, .ptr 384 0), (7, .d (D.bool v116)), (9, .ptr 576 0)] [(128, .box 71 [.d (D.sl a1)]), (192, .box 83 [.d (D.int .i64 a2), .d (D.int .i64 a3)]), (384, .box 75 [.os 1124000 o102.length]), (576, .box 75 [.os 1124001 o103.length]), (1124000, .arr 162 true o102), (1124001, .arr 162 true o103)]) (finK prog f14 0 (.d (D.bool r)) (⟨[], []⟩)) := by
  rw [laws_FnExactScaleSurreal_p12] at h
  cases v116
  · replace h := condF h
    conv => whnf
    refine Choice.new ?_
    conv => whnf
    refine Req.of (rfl) ?_
    conv => whnf
    obtain ⟨y218, e219, h⟩ := bind_ex h
    refine MarkOk.of (laws_markSurreal_ct e219) ?_
    conv => whnf
    obtain ⟨g220, h⟩ := req_ex h
    exact CutK.piece (laws_FnExactScaleSurreal_p14_ct  h) [some 128, some 192, some 384, some 576, some 1124000, some 1124001] [] ⟨⟨rfl, rfl⟩, ⟨rfl, ⟨rfl, rfl, trivial⟩, ⟨rfl, rfl, rfl, trivial⟩, ⟨rfl, ⟨rfl, rfl⟩, trivial⟩, ⟨rfl, ⟨(by first | rfl | exact List.length_append.symm | (simp; done) | omega), rfl⟩, trivial⟩, ⟨rfl, rfl, rows_same⟩, ⟨rfl, rfl, rows_same⟩, trivial⟩, ⟨rfl, rfl⟩, ⟨rfl, rfl⟩, ⟨rfl, rfl⟩, rfl, ⟨rfl, rfl⟩, rfl, trivial⟩
  · replace h := condT h
    conv => whnf
    refine Choice.new ?_
    conv => whnf
    refine Req.of (rfl) ?_
    conv => whnf
    obtain ⟨y221, e222, h⟩ := bind_ex h
    refine MarkOk.of (laws_markSurreal_ct e222) ?_
    conv => whnf
    obtain ⟨g223, h⟩ := req_ex h
    exact CutK.piece (laws_FnExactScaleSurreal_p14_ct  h) [some 128, some 192, some 384, some 576, some 1124000, some 1124001] [] ⟨⟨rfl, rfl⟩, ⟨rfl, ⟨rfl, rfl, trivial⟩, ⟨rfl, rfl, rfl, trivial⟩, ⟨rfl, ⟨rfl, rfl⟩, trivial⟩, ⟨rfl, ⟨(by first | rfl | exact List.length_append.symm | (simp; done) | omega), rfl⟩, trivial⟩, ⟨rfl, rfl, rows_same⟩, ⟨rfl, rfl, rows_same⟩, trivial⟩, ⟨rfl, rfl⟩, ⟨rfl, rfl⟩, ⟨rfl, rfl⟩, rfl, ⟨rfl, rfl⟩, rfl, trivial⟩
def laws_FnExactScaleSurreal_p11 (k : Nat) (a1 : Rw) (a2 : Int) (a3 : Int) (o84 : Int) (o85 : Rw) (o86 : Rw) (v90 : Bool) (v94 : Bool) : Option Bool :=
  (cond v90 (cond v94 (if o84 < (0 : Int) then some false else ((laws_eqSurreal k o86 o85).bind fun y237 => (if y237 = true then (laws_FnExactScaleSurreal_p12 k a1 a2 a3 o85 o86 true) else some false))) (if o84 < (0 : Int) then some false else ((laws_eqSurreal k o86 o85).bind fun y233 => (if y233 = true then some false else some false)))) (cond v94 (if o84 < (0 : Int) then some false else ((laws_eqSurreal k o86 o85).bind fun y229 => (if y229 = true then some false else some false))) (if o84 < (0 : Int) then some false else ((laws_eqSurreal k o86 o85).bind fun y225 => (if y225 = true then (laws_FnExactScaleSurreal_p12 k a1 a2 a3 o85 o86 false) else some false)))))
set_option maxHeartbeats 4000000 in
set_option maxRecDepth 100000 in
theorem laws_FnExactScaleSurreal_p11_ct {k : Nat} {a1 : Rw} {a2 : Int} {a3 : Int} {o84 : Int} {o85 : Rw} {o86 : Rw} {v90 : Bool} {v94 : Bool} {r : Bool} (h : laws_FnExactScaleSurreal_p11 k a1 a2 a3 o84 o85 o86 v90 v94 = some r) : X prog 0 (tlF f14 11) (mk 104 [(2, .ptr 128 0), (3, .ptr 192 0), (6, .ptr 384 0), (7, .d (D.bool v90)), (9, .ptr 576 0), (10, .d (D.bool v94)), (11, .d (D.int .i64 o84))] [(128, .box 71 [.d (D.sl a1)]), (192, .box 83 [.d (D.int .i64 a2), .d (D.int .i64 a3)]), (384, .box 75 [.os 1119000 o85.length]), (576, .box 75 [.os 1119001 o86.length]), (1119000, .arr 162 true o85), (1119001, .arr 162 true o86)]) (finK prog f14 0 (.d (D.bool r)) (⟨[], []⟩)) := by
  rw [laws_FnExactScaleSurreal_p11] at h
  cases v90
  · replace h := condF h
    cases v94
    · replace h := condF h
      conv => whnf
      refine splD (fun g224 => ?_) (fun g224 => ?_)
      · replace h := iteP h g224
        conv => whnf
        refine CutK.norm [2, 3, 6, 7, 9, 67] [128, 192, 384, 576, 1119000, 1119001] ?_
        conv => whnf
        cases h
        exact Done.of [] [] rfl rfl ⟨⟨rfl, rfl⟩, ⟨rfl, trivial⟩, rfl, trivial⟩
      · replace h := iteN h g224
        conv => whnf
        refine Take.all (rfl) ?_
        conv => whnf
        refine Take.all (rfl) ?_
        conv => whnf
        obtain ⟨y225, e226, h⟩ := bind_ex h
        refine CallOk.of (laws_eqSurreal_ct e226) ?_
        conv => whnf
        refine spl (fun g227 => ?_) (fun g227 => ?_)
        · replace h := iteT h g227
          conv => whnf
          refine splF ?_
          conv => whnf
          refine CutK.norm [2, 3, 6, 7, 9, 67] [128, 192, 384, 576, 1119000, 1119001] ?_
          conv => whnf
          exact CutK.piece (laws_FnExactScaleSurreal_p12_ct  h) [some 128, some 192, some 384, some 576, some 1119000, some 1119001] [] ⟨⟨rfl, rfl⟩, ⟨rfl, ⟨rfl, rfl, trivial⟩, ⟨rfl, rfl, rfl, trivial⟩, ⟨rfl, ⟨rfl, rfl⟩, trivial⟩, ⟨rfl, ⟨rfl, rfl⟩, trivial⟩, ⟨rfl, rfl, rows_same⟩, ⟨rfl, rfl, rows_same⟩, trivial⟩, ⟨rfl, rfl⟩, ⟨rfl, rfl⟩, ⟨rfl, rfl⟩, rfl, ⟨rfl, rfl⟩, trivial⟩
        · replace h := iteF h g227
          conv => whnf
          refine CutK.norm [2, 3, 6, 7, 9, 67] [128, 192, 384, 576, 1119000, 1119001] ?_
          conv => whnf
          cases h
          exact Done.of [] [] rfl rfl ⟨⟨rfl, rfl⟩, ⟨rfl, trivial⟩, rfl, trivial⟩
    · replace h := condT h
      conv => whnf
      refine splD (fun g228 => ?_) (fun g228 => ?_)
      · replace h := iteP h g228
        conv => whnf
        refine CutK.norm [2, 3, 6, 7, 9, 67] [128, 192, 384, 576, 1119000, 1119001] ?_
        conv => whnf
        cases h
        exact Done.of [] [] rfl rfl ⟨⟨rfl, rfl⟩, ⟨rfl, trivial⟩, rfl, trivial⟩
      · replace h := iteN h g228
        conv => whnf
        refine Take.all (rfl) ?_
        conv => whnf
        refine Take.all (rfl) ?_
        conv => whnf
        obtain ⟨y229, e230, h⟩ := bind_ex h
        refine CallOk.of (laws_eqSurreal_ct e230) ?_
        conv => whnf
        refine spl (fun g231 => ?_) (fun g231 => ?_)
        · replace h := iteT h g231
          conv => whnf
          refine splT ?_
          conv => whnf
          refine CutK.norm [2, 3, 6, 7, 9, 67] [128, 192, 384, 576, 1119000, 1119001] ?_
          conv => whnf
          cases h
          exact Done.of [] [] rfl rfl ⟨⟨rfl, rfl⟩, ⟨rfl, trivial⟩, rfl, trivial⟩
        · replace h := iteF h g231
          conv => whnf
          refine CutK.norm [2, 3, 6, 7, 9, 67] [128, 192, 384, 576, 1119000, 1119001] ?_
          conv => whnf
          cases h
          exact Done.of [] [] rfl rfl ⟨⟨rfl, rfl⟩, ⟨rfl, trivial⟩, rfl, trivial⟩
  · replace h := condT h
    cases v94
    · replace h := condF h
      conv => whnf
      refine splD (fun g232 => ?_) (fun g232 => ?_)
      · replace h := iteP h g232
        conv => whnf
        refine CutK.norm [2, 3, 6, 7, 9, 67] [128, 192, 384, 576, 1119000, 1119001] ?_
        conv => whnf
        cases h
        exact Done.of [] [] rfl rfl ⟨⟨rfl, rfl⟩, ⟨rfl, trivial⟩, rfl, trivial⟩
      · replace h := iteN h g232
        conv => whnf
        refine Take.all (rfl) ?_
        conv => whnf
        refine Take.all (rfl) ?_
        conv => whnf
        obtain ⟨y233, e234, h⟩ := bind_ex h
        refine CallOk.of (laws_eqSurreal_ct e234) ?_
        conv => whnf
        refine spl (fun g235 => ?_) (fun g235 => ?_)
        · replace h := iteT h g235
          conv => whnf
          refine splT ?_
          conv => whnf
          refine CutK.norm [2, 3, 6, 7, 9, 67] [128, 192, 384, 576, 1119000, 1119001] ?_
          conv => whnf
          cases h
          exact Done.of [] [] rfl rfl ⟨⟨rfl, rfl⟩, ⟨rfl, trivial⟩, rfl, trivial⟩
        · replace h := iteF h g235
          conv => whnf
          refine CutK.norm [2, 3, 6, 7, 9, 67] [128, 192, 384, 576, 1119000, 1119001] ?_
          conv => whnf
          cases h
          exact Done.of [] [] rfl rfl ⟨⟨rfl, rfl⟩, ⟨rfl, trivial⟩, rfl, trivial⟩
    · replace h := condT h
      conv => whnf
      refine splD (fun g236 => ?_) (fun g236 => ?_)
      · replace h := iteP h g236
        conv => whnf
        refine CutK.norm [2, 3, 6, 7, 9, 67] [128, 192, 384, 576, 1119000, 1119001] ?_
        conv => whnf
        cases h
        exact Done.of [] [] rfl rfl ⟨⟨rfl, rfl⟩, ⟨rfl, trivial⟩, rfl, trivial⟩
      · replace h := iteN h g236
        conv => whnf
        refine Take.all (rfl) ?_
        conv => whnf
        refine Take.all (rfl) ?_
        conv => whnf
        obtain ⟨y237, e238, h⟩ := bind_ex h
        refine CallOk.of (laws_eqSurreal_ct e238) ?_
        conv => whnf
        refine spl (fun g239 => ?_) (fun g239 => ?_)
        · replace h := iteT h g239
          conv => whnf
          refine splF ?_
          conv => whnf
          refine CutK.norm [2, 3, 6, 7, 9, 67] [128, 192, 384, 576, 1119000, 1119001] ?_
          conv => whnf
          exact CutK.piece (laws_FnExactScaleSurreal_p12_ct  h) [some 128, some 192, some 384, some 576, some 1119000, some 1119001] [] ⟨⟨rfl, rfl⟩, ⟨rfl, ⟨rfl, rfl, trivial⟩, ⟨rfl, rfl, rfl, trivial⟩, ⟨rfl, ⟨rfl, rfl⟩, trivial⟩, ⟨rfl, ⟨rfl, rfl⟩, trivial⟩, ⟨rfl, rfl, rows_same⟩, ⟨rfl, rfl, rows_same⟩, trivial⟩, ⟨rfl, rfl⟩, ⟨rfl, rfl⟩, ⟨rfl, rfl⟩, rfl, ⟨rfl, rfl⟩, trivial⟩
        · replace h := iteF h g239
          conv => whnf
          refine CutK.norm [2, 3, 6, 7, 9, 67] [128, 192, 384, 576, 1119000, 1119001] ?_
          conv => whnf
          cases h
          exact Done.of [] [] rfl rfl ⟨⟨rfl, rfl⟩, ⟨rfl, trivial⟩, rfl, trivial⟩
def laws_FnExactScaleSurreal_p9 (k : Nat) (a1 : Rw) (a2 : Int) (a3 : Int) (o61 : Rw) (o62 : Rw) (o63 : Rw) (v69 : Bool) (v75 : Bool) : Option Bool :=
  (cond v69 (cond v75 ((laws_markSurreal k o62 1).bind fun y249 => (if y249.2.length = o62.length then (laws_FnExactScaleSurreal_p11 k a1 a2 a3 y249.1 o61 o63 true true) else none)) ((laws_markSurreal k o62 1).bind fun y246 => (if y246.2.length = o62.length then (laws_FnExactScaleSurreal_p11 k a1 a2 a3 y246.1 o61 o63 false true) else none))) (cond v75 ((laws_markSurreal k o62 1).bind fun y243 => (if y243.2.length = o62.length then (laws_FnExactScaleSurreal_p11 k a1 a2 a3 y243.1 o61 o63 true false) else none)) ((laws_markSurreal k o62 1).bind fun y240 => (if y240.2.length = o62.length then (laws_FnExactScaleSurreal_p11 k a1 a2 a3 y240.1 o61 o63 false false) else none))))
set_option maxHeartbeats 4000000 in
set_option maxRecDepth 100000 in
theorem laws_FnExactScaleSurreal_p9_ct {k : Nat} {a1 : Rw} {a2 : Int} {a3 : Int} {o61 : Rw} {o62 : Rw} {o63 : Rw} {v69 : Bool} {v75 : Bool} {r : Bool} (h : laws_FnExactScaleSurreal_p9 k a1 a2 a3 o61 o62 o63 v69 v75 = some r) : X prog 0 (tlF f14 9) (mk 104 [(2, .ptr 128 0), (3, .ptr 192 0), (6, .ptr 384 0), (7, .d (D.bool v75)), (8, .ptr 512 0), (9, .ptr 576 0), (10, .d (D.bool v69))] [(128, .box 71 [.d (D.sl a1)]), (192, .box 83 [.d (D.int .i64 a2), .d (D.int .i64 a3)]), (384, .box 75 [.os 1109000 o61.length]), (512, .box 75 [.os 1109001 o62.length]), (576, .box 75 [.os 1109002 o63.length]), (1109000, .arr 162 true o61), (1109001, .arr 162 true o62), (1109002, .arr 162 true o63)]) (finK prog f14 0 (.d (D.bool r)) (⟨[], []⟩)) := by
  rw [laws_FnExactScaleSurreal_p9] at h
  cases v69
  · replace h := condF h
    cases v75
    · replace h := condF h
      conv => whnf
      refine Choice.new ?_
      conv => whnf
      refine Req.of (rfl) ?_
      conv => whnf
      obtain ⟨y240, e241, h⟩ := bind_ex h
      refine MarkOk.of (laws_markSurreal_ct e241) ?_
      conv => whnf
      obtain ⟨g242, h⟩ := req_ex h
      exact CutK.piece (laws_FnExactScaleSurreal_p11_ct  h) [some 128, some 192, some 384, some 576, some 1109000, some 1109002] [] ⟨⟨rfl, rfl⟩, ⟨rfl, ⟨rfl, rfl, trivial⟩, ⟨rfl, rfl, rfl, trivial⟩, ⟨rfl, ⟨rfl, rfl⟩, trivial⟩, ⟨rfl, ⟨rfl, rfl⟩, trivial⟩, ⟨rfl, rfl, rows_same⟩, ⟨rfl, rfl, rows_same⟩, trivial⟩, ⟨rfl, rfl⟩, ⟨rfl, rfl⟩, ⟨rfl, rfl⟩, rfl, ⟨rfl, rfl⟩, rfl, rfl, trivial⟩
    · replace h := condT h
      conv => whnf
      refine Choice.new ?_
      conv => whnf
      refine Req.of (rfl) ?_
      conv => whnf
      obtain ⟨y243, e244, h⟩ := bind_ex h
      refine MarkOk.of (laws_markSurreal_ct e244) ?_
      conv => whnf
      obtain ⟨g245, h⟩ := req_ex h
      exact CutK.piece (laws_FnExactScaleSurreal_p11_ct  h) [some 128, some 192, some 384, some 576, some 1109000, some 1109002] [] ⟨⟨rfl, rfl⟩, ⟨rfl, ⟨rfl, rfl, trivial⟩, ⟨rfl, rfl, rfl, trivial⟩, ⟨rfl, ⟨rfl, rfl⟩, trivial⟩, ⟨rfl, ⟨rfl, rfl⟩, trivial⟩, ⟨rfl, rfl, rows_same⟩, ⟨rfl, rfl, rows_same⟩, trivial⟩, ⟨rfl, rfl⟩, ⟨rfl, rfl⟩, ⟨rfl, rfl⟩, rfl, ⟨rfl, rfl⟩, rfl, rfl, trivial⟩
  · replace h := condT h
    cases v75
    · replace h := condF h
      conv => whnf
      refine Choice.new ?_
      conv => whnf
      refine Req.of (rfl) ?_
      conv => whnf
      obtain ⟨y246, e247, h⟩ := bind_ex h
      refine MarkOk.of (laws_markSurreal_ct e247) ?_
      conv => whnf
      obtain ⟨g248, h⟩ := req_ex h
      exact CutK.piece (laws_FnExactScaleSurreal_p11_ct  h) [some 128, some 192, some 384, some 576, some 1109000, some 1109002] [] ⟨⟨rfl, rfl⟩, ⟨rfl, ⟨rfl, rfl, trivial⟩, ⟨rfl, rfl, rfl, trivial⟩, ⟨rfl, ⟨rfl, rfl⟩, trivial⟩, ⟨rfl, ⟨rfl, rfl⟩, trivial⟩, ⟨rfl, rfl, rows_same⟩, ⟨rfl, rfl, rows_same⟩, trivial⟩, ⟨rfl, rfl⟩, ⟨rfl, rfl⟩, ⟨rfl, rfl⟩, rfl, ⟨rfl, rfl⟩, rfl, rfl, trivial⟩
    · replace h := condT h
      conv => whnf
      refine Choice.new ?_
      conv => whnf
      refine Req.of (rfl) ?_
      conv => whnf
      obtain ⟨y249, e250, h⟩ := bind_ex h
      refine MarkOk.of (laws_markSurreal_ct e250) ?_
      conv => whnf
      obtain ⟨g251, h⟩ := req_ex h
      exact CutK.piece (laws_FnExactScaleSurreal_p11_ct  h) [some 128, some 192, some 384, some 576, some 1109000, some 1109002] [] ⟨⟨rfl, rfl⟩, ⟨rfl, ⟨rfl, rfl, trivial⟩, ⟨rfl, rfl, rfl, trivial⟩, ⟨rfl, ⟨rfl, rfl⟩, trivial⟩, ⟨rfl, ⟨rfl, rfl⟩, trivial⟩, ⟨rfl, rfl, rows_same⟩, ⟨rfl, rfl, rows_same⟩, trivial⟩, ⟨rfl, rfl⟩, ⟨rfl, rfl⟩, ⟨rfl, rfl⟩, rfl, ⟨rfl, rfl⟩, rfl, rfl, trivial⟩
def laws_FnExactScaleSurreal_p8 (k : Nat) (a1 : Rw) (a2 : Int) (a3 : Int) (o42 : Rw) (o43 : Rw) (o44 : Rw) (v54 : Bool) (v55 : Bool) : Option Bool :=
  (cond v54 (cond v55 ((laws_toSurreal k a1).bind fun y267 => ((laws_eqSurreal k o43 y267).bind fun y269 => (if y269 = true then (laws_FnExactScaleSurreal_p9 k a1 a2 a3 o42 o43 o44 true true) else some false))) ((laws_toSurreal k a1).bind fun y262 => ((laws_eqSurreal k o43 y262).bind fun y264 => (if y264 = true then (laws_FnExactScaleSurreal_p9 k a1 a2 a3 o42 o43 o44 false true) else some false)))) (cond v55 ((laws_toSurreal k a1).bind fun y257 => ((laws_eqSurreal k o43 y257).bind fun y259 => (if y259 = true then (laws_FnExactScaleSurreal_p9 k a1 a2 a3 o42 o43 o44 true false) else some false))) ((laws_toSurreal k a1).bind fun y252 => ((laws_eqSurreal k o43 y252).bind fun y254 => (if y254 = true then (laws_FnExactScaleSurreal_p9 k a1 a2 a3 o42 o43 o44 false false) else some false)))))
set_option maxHeartbeats 4000000 in
set_option maxRecDepth 100000 in
theorem laws_FnExactScaleSurreal_p8_ct {k : Nat} {a1 : Rw} {a2 : Int} {a3 : Int} {o42 : Rw} {o43 : Rw} {o44 : Rw} {v54 : Bool} {v55 : Bool} {r : Bool} (h : laws_FnExactScaleSurreal_p8 k a1 a2 a3 o42 o43 o44 v54 v55 = some r) : X prog 0 (tlF f14 8) (mk 104 [(2, .ptr 128 0), (3, .ptr 192 0), (6, .ptr 384 0), (7, .d (D.bool v54)), (8, .ptr 512 0), (9, .ptr 576 0), (10, .d (D.bool v55))] [(128, .box 71 [.d (D.sl a1)]), (192, .box 83 [.d (D.int .i64 a2), .d (D.int .i64 a3)]), (384, .box 75 [.os 1104000 o42.length]), (512, .box 75 [.os 1104001 o43.length]), (576, .box 75 [.os 1104002 o44.length]), (1104000, .arr 162 true o42), (1104001, .arr 162 true o43), (1104002, .arr 162 true o44)]) (finK prog f14 0 (.d (D.bool r)) (⟨[], []⟩)) := by
  rw [laws_FnExactScaleSurreal_p8] at h
  cases v54
  · replace h := condF h
    cases v55
    · replace h := condF h
      conv => whnf
      obtain ⟨y252, e253, h⟩ := bind_ex h
      refine CallOk.of (laws_toSurreal_ct e253) ?_
      conv => whnf
      refine Take.all (rfl) ?_
      conv => whnf
      refine Take.all (rfl) ?_
      conv => whnf
      obtain ⟨y254, e255, h⟩ := bind_ex h
      refine CallOk.of (laws_eqSurreal_ct e255) ?_
      conv => whnf
      refine spl (fun g256 => ?_) (fun g256 => ?_)
      · replace h := iteT h g256
        conv => whnf
        refine CutK.norm [2, 3, 6, 7, 8, 9, 10, 51] [128, 192, 384, 512, 576, 1104000, 1104001, 1104002] ?_
        conv => whnf
        exact CutK.piece (laws_FnExactScaleSurreal_p9_ct  h) [some 128, some 192, some 384, some 512, some 576, some 1104000, some 1104001, some 1104002] [] ⟨⟨rfl, rfl⟩, ⟨rfl, ⟨rfl, rfl, trivial⟩, ⟨rfl, rfl, rfl, trivial⟩, ⟨rfl, ⟨rfl, rfl⟩, trivial⟩, ⟨rfl, ⟨rfl, rfl⟩, trivial⟩, ⟨rfl, ⟨rfl, rfl⟩, trivial⟩, ⟨rfl, rfl, rows_same⟩, ⟨rfl, rfl, rows_same⟩, ⟨rfl, rfl, rows_same⟩, trivial⟩, ⟨rfl, rfl⟩, ⟨rfl, rfl⟩, ⟨rfl, rfl⟩, rfl, ⟨rfl, rfl⟩, ⟨rfl, rfl⟩, rfl, trivial⟩
      · replace h := iteF h g256
        conv => whnf
        refine CutK.norm [2, 3, 6, 7, 8, 9, 10, 51] [128, 192, 384, 512, 576, 1104000, 1104001, 1104002] ?_
        conv => whnf
        cases h
        exact Done.of [] [] rfl rfl ⟨⟨rfl, rfl⟩, ⟨rfl, trivial⟩, rfl, trivial⟩
    · replace h := condT h
      conv => whnf
      obtain ⟨y257, e258, h⟩ := bind_ex h
      refine CallOk.of (laws_toSurreal_ct e258) ?_
      conv => whnf
      refine Take.all (rfl) ?_
      conv => whnf
      refine Take.all (rfl) ?_
      conv => whnf
      obtain ⟨y259, e260, h⟩ := bind_ex h
      refine CallOk.of (laws_eqSurreal_ct e260) ?_
      conv => whnf
      refine spl (fun g261 => ?_) (fun g261 => ?_)
      · replace h := iteT h g261
        conv => whnf
        refine CutK.norm [2, 3, 6, 7, 8, 9, 10, 51] [128, 192, 384, 512, 576, 1104000, 1104001, 1104002] ?_
        conv => whnf
        exact CutK.piece (laws_FnExactScaleSurreal_p9_ct  h) [some 128, some 192, some 384, some 512, some 576, some 1104000, some 1104001, some 1104002] [] ⟨⟨rfl, rfl⟩, ⟨rfl, ⟨rfl, rfl, trivial⟩, ⟨rfl, rfl, rfl, trivial⟩, ⟨rfl, ⟨rfl, rfl⟩, trivial⟩, ⟨rfl, ⟨rfl, rfl⟩, trivial⟩, ⟨rfl, ⟨rfl, rfl⟩, trivial⟩, ⟨rfl, rfl, rows_same⟩, ⟨rfl, rfl, rows_same⟩, ⟨rfl, rfl, rows_same⟩, trivial⟩, ⟨rfl, rfl⟩, ⟨rfl, rfl⟩, ⟨rfl, rfl⟩, rfl, ⟨rfl, rfl⟩, ⟨rfl, rfl⟩, rfl, trivial⟩
      · replace h := iteF h g261
        conv => whnf
        refine CutK.norm [2, 3, 6, 7, 8, 9, 10, 51] [128, 192, 384, 512, 576, 1104000, 1104001, 1104002] ?_
        conv => whnf
        cases h
        exact Done.of [] [] rfl rfl ⟨⟨rfl, rfl⟩, ⟨rfl, trivial⟩, rfl, trivial⟩
  · replace h := condT h
    cases v55
    · replace h := condF h
      conv => whnf
      obtain ⟨y262, e263, h⟩ := bind_ex h
      refine CallOk.of (laws_toSurreal_ct e263) ?_
      conv => whnf
      refine Take.all (rfl) ?_
      conv => whnf
      refine Take.all (rfl) ?_
      conv => whnf
      obtain ⟨y264, e265, h⟩ := bind_ex h
      refine CallOk.of (laws_eqSurreal_ct e265) ?_
      conv => whnf
      refine spl (fun g266 => ?_) (fun g266 => ?_)
      · replace h := iteT h g266
        conv => whnf
        refine CutK.norm [2, 3, 6, 7, 8, 9, 10, 51] [128, 192, 384, 512, 576, 1104000, 1104001, 1104002] ?_
        conv => whnf
        exact CutK.piece (laws_FnExactScaleSurreal_p9_ct  h) [some 128, some 192, some 384, some 512, some 576, some 1104000, some 1104001, some 1104002] [] ⟨⟨rfl, rfl⟩, ⟨rfl, ⟨rfl, rfl, trivial⟩, ⟨rfl, rfl, rfl, trivial⟩, ⟨rfl, ⟨rfl, rfl⟩, trivial⟩, ⟨rfl, ⟨rfl, rfl⟩, trivial⟩, ⟨rfl, ⟨rfl, rfl⟩, trivial⟩, ⟨rfl, rfl, rows_same⟩, ⟨rfl, rfl, rows_same⟩, ⟨rfl, rfl, rows_same⟩, trivial⟩, ⟨rfl, rfl⟩, ⟨rfl, rfl⟩, ⟨rfl, rfl⟩, rfl, ⟨rfl, rfl⟩, ⟨rfl, rfl⟩, rfl, trivial⟩
      · replace h := iteF h g266
        conv => whnf
        refine CutK.norm [2, 3, 6, 7, 8, 9, 10, 51] [128, 192, 384, 512, 576, 1104000, 1104001, 1104002] ?_
        conv => whnf
        cases h
        exact Done.of [] [] rfl rfl ⟨⟨rfl, rfl⟩, ⟨rfl, trivial⟩, rfl, trivial⟩
    · replace h := condT h
      conv => whnf
      obtain ⟨y267, e268, h⟩ := bind_ex h
      refine CallOk.of (laws_toSurreal_ct e268) ?_
      conv => whnf
      refine Take.all (rfl) ?_
      conv => whnf
      refine Take.all (rfl) ?_
      conv => whnf
      obtain ⟨y269, e270, h⟩ := bind_ex h
      refine CallOk.of (laws_eqSurreal_ct e270) ?_
      conv => whnf
      refine spl (fun g271 => ?_) (fun g271 => ?_)
      · replace h := iteT h g271
        conv => whnf
        refine CutK.norm [2, 3, 6, 7, 8, 9, 10, 51] [128, 192, 384, 512, 576, 1104000, 1104001, 1104002] ?_
        conv => whnf
        exact CutK.piece (laws_FnExactScaleSurreal_p9_ct  h) [some 128, some 192, some 384, some 512, some 576, some 1104000, some 1104001, some 1104002] [] ⟨⟨rfl, rfl⟩, ⟨rfl, ⟨rfl, rfl, trivial⟩, ⟨rfl, rfl, rfl, trivial⟩, ⟨rfl, ⟨rfl, rfl⟩, trivial⟩, ⟨rfl, ⟨rfl, rfl⟩, trivial⟩, ⟨rfl, ⟨rfl, rfl⟩, trivial⟩, ⟨rfl, rfl, rows_same⟩, ⟨rfl, rfl, rows_same⟩, ⟨rfl, rfl, rows_same⟩, trivial⟩, ⟨rfl, rfl⟩, ⟨rfl, rfl⟩, ⟨rfl, rfl⟩, rfl, ⟨rfl, rfl⟩, ⟨rfl, rfl⟩, rfl, trivial⟩
      · replace h := iteF h g271
        conv => whnf
        refine CutK.norm [2, 3, 6, 7, 8, 9, 10, 51] [128, 192, 384, 512, 576, 1104000, 1104001, 1104002] ?_
        conv => whnf
        cases h
        exact Done.of [] [] rfl rfl ⟨⟨rfl, rfl⟩, ⟨rfl, trivial⟩, rfl, trivial⟩
def laws_FnExactScaleSurreal_p7 (k : Nat) (a1 : Rw) (a2 : Int) (a3 : Int) (o29 : Rw) (o30 : Rw) (o31 : Rw) (v32 : Bool) (v38 : Bool) : Option Bool :=
  (cond v32 (cond v38 ((laws_eqSurreal k o31 o29).bind fun y281 => (if y281 = true then (laws_FnExactScaleSurreal_p8 k a1 a2 a3 o29 o30 o31 true true) else some false)) ((laws_eqSurreal k o31 o29).bind fun y278 => (if y278 = true then some false else some false))) (cond v38 ((laws_eqSurreal k o31 o29).bind fun y275 => (if y275 = true then some false else some false)) ((laws_eqSurreal k o31 o29).bind fun y272 => (if y272 = true then (laws_FnExactScaleSurreal_p8 k a1 a2 a3 o29 o30 o31 false false) else some false))))
set_option maxHeartbeats 4000000 in
set_option maxRecDepth 100000 in
theorem laws_FnExactScaleSurreal_p7_ct {k : Nat} {a1 : Rw} {a2 : Int} {a3 : Int} {o29 : Rw} {o30 : Rw} {o31 : Rw} {v32 : Bool} {v38 : Bool} {r : Bool} (h : laws_FnExactScaleSurreal_p7 k a1 a2 a3 o29 o30 o31 v32 v38 = some r) : X prog 0 (tlF f14 7) (mk 104 [(2, .ptr 128 0), (3, .ptr 192 0), (6, .ptr 384 0), (7, .d (D.bool v38)), (8, .ptr 512 0), (9, .ptr 576 0), (10, .d (D.bool v32))] [(128, .box 71 [.d (D.sl a1)]), (192, .box 83 [.d (D.int .i64 a2), .d (D.int .i64 a3)]), (384, .box 75 [.os 1099000 o29.length]), (512, .box 75 [.os 1099001 o30.length]), (576, .box 75 [.os 1099002 o31.length]), (1099000, .arr 162 true o29), (1099001, .arr 162 true o30), (1099002, .arr 162 true o31)]) (finK prog f14 0 (.d (D.bool r)) (⟨[], []⟩)) := by
  rw [laws_FnExactScaleSurreal_p7] at h
  cases v32
  · replace h := condF h
    cases v38
    · replace h := condF h
      conv => whnf
      refine Take.all (rfl) ?_
      conv => whnf
      refine Take.all (rfl) ?_
      conv => whnf
      obtain ⟨y272, e273, h⟩ := bind_ex h
      refine CallOk.of (laws_eqSurreal_ct e273) ?_
      conv => whnf
      refine spl (fun g274 => ?_) (fun g274 => ?_)
      · replace h := iteT h g274
        conv => whnf
        refine splF ?_
        conv => whnf
        refine CutK.norm [2, 3, 6, 7, 8, 9, 10, 46] [128, 192, 384, 512, 576, 1099000, 1099001, 1099002] ?_
        conv => whnf
        exact CutK.piece (laws_FnExactScaleSurreal_p8_ct  h) [some 128, some 192, some 384, some 512, some 576, some 1099000, some 1099001, some 1099002] [] ⟨⟨rfl, rfl⟩, ⟨rfl, ⟨rfl, rfl, trivial⟩, ⟨rfl, rfl, rfl, trivial⟩, ⟨rfl, ⟨rfl, rfl⟩, trivial⟩, ⟨rfl, ⟨rfl, rfl⟩, trivial⟩, ⟨rfl, ⟨rfl, rfl⟩, trivial⟩, ⟨rfl, rfl, rows_same⟩, ⟨rfl, rfl, rows_same⟩, ⟨rfl, rfl, rows_same⟩, trivial⟩, ⟨rfl, rfl⟩, ⟨rfl, rfl⟩, ⟨rfl, rfl⟩, rfl, ⟨rfl, rfl⟩, ⟨rfl, rfl⟩, rfl, trivial⟩
      · replace h := iteF h g274
        conv => whnf
        refine CutK.norm [2, 3, 6, 7, 8, 9, 10, 46] [128, 192, 384, 512, 576, 1099000, 1099001, 1099002] ?_
        conv => whnf
        cases h
        exact Done.of [] [] rfl rfl ⟨⟨rfl, rfl⟩, ⟨rfl, trivial⟩, rfl, trivial⟩
    · replace h := condT h
      conv => whnf
      refine Take.all (rfl) ?_
      conv => whnf
      refine Take.all (rfl) ?_
      conv => whnf
      obtain ⟨y275, e276, h⟩ := bind_ex h
      refine CallOk.of (laws_eqSurreal_ct e276) ?_
      conv => whnf
      refine spl (fun g277 => ?_) (fun g277 => ?_)
      · replace h := iteT h g277
        conv => whnf
        refine splT ?_
        conv => whnf
        refine CutK.norm [2, 3, 6, 7, 8, 9, 10, 46] [128, 192, 384, 512, 576, 1099000, 1099001, 1099002] ?_
        conv => whnf
        cases h
        exact Done.of [] [] rfl rfl ⟨⟨rfl, rfl⟩, ⟨rfl, trivial⟩, rfl, trivial⟩
      · replace h := iteF h g277
        conv => whnf
        refine CutK.norm [2, 3, 6, 7, 8, 9, 10, 46] [128, 192, 384, 512, 576, 1099000, 1099001, 1099002] ?_
        conv => whnf
        cases h
        exact Done.of [] [] rfl rfl ⟨⟨rfl, rfl⟩, ⟨rfl, trivial⟩, rfl, trivial⟩
  · replace h := condT h
    cases v38
    · replace h := condF h
      conv => whnf
      refine Take.all (rfl) ?_
      conv => whnf
      refine Take.all (rfl) ?_
      conv => whnf
      obtain ⟨y278, e279, h⟩ := bind_ex h
      refine CallOk.of (laws_eqSurreal_ct e279) ?_
      conv => whnf
      refine spl (fun g280 => ?_) (fun g280 => ?_)
      · replace h := iteT h g280
        conv => whnf
        refine splT ?_
        conv => whnf
        refine CutK.norm [2, 3, 6, 7, 8, 9, 10, 46] [128, 192, 384, 512, 576, 1099000, 1099001, 1099002] ?_
        conv => whnf
        cases h
        exact Done.of [] [] rfl rfl ⟨⟨rfl, rfl⟩, ⟨rfl, trivial⟩, rfl, trivial⟩
      · replace h := iteF h g280
        conv => whnf
        refine CutK.norm [2, 3, 6, 7, 8, 9, 10, 46] [128, 192, 384, 512, 576, 1099000, 1099001, 1099002] ?_
        conv => whnf
        cases h
        exact Done.of [] [] rfl rfl ⟨⟨rfl, rfl⟩, ⟨rfl, trivial⟩, rfl, trivial⟩
    · replace h := condT h
      conv => whnf
      refine Take.all (rfl) ?_
      conv => whnf
      refine Take.all (rfl) ?_
      conv => whnf
      obtain ⟨y281, e282, h⟩ := bind_ex h
      refine CallOk.of (laws_eqSurreal_ct e282) ?_
      conv => whnf
      refine spl (fun g283 => ?_) (fun g283 => ?_)
      · replace h := iteT h g283
        conv => whnf
        refine splF ?_
        conv => whnf
        refine CutK.norm [2, 3, 6, 7, 8, 9, 10, 46] [128, 192, 384, 512, 576, 1099000, 1099001, 1099002] ?_
        conv => whnf
        exact CutK.piece (laws_FnExactScaleSurreal_p8_ct  h) [some 128, some 192, some 384, some 512, some 576, some 1099000, some 1099001, some 1099002] [] ⟨⟨rfl, rfl⟩, ⟨rfl, ⟨rfl, rfl, trivial⟩, ⟨rfl, rfl, rfl, trivial⟩, ⟨rfl, ⟨rfl, rfl⟩, trivial⟩, ⟨rfl, ⟨rfl, rfl⟩, trivial⟩, ⟨rfl, ⟨rfl, rfl⟩, trivial⟩, ⟨rfl, rfl, rows_same⟩, ⟨rfl, rfl, rows_same⟩, ⟨rfl, rfl, rows_same⟩, trivial⟩, ⟨rfl, rfl⟩, ⟨rfl, rfl⟩, ⟨rfl, rfl⟩, rfl, ⟨rfl, rfl⟩, ⟨rfl, rfl⟩, rfl, trivial⟩
      · replace h := iteF h g283
        conv => whnf
        refine CutK.norm [2, 3, 6, 7, 8, 9, 10, 46] [128, 192, 384, 512, 576, 1099000, 1099001, 1099002] ?_
        conv => whnf
        cases h
        exact Done.of [] [] rfl rfl ⟨⟨rfl, rfl⟩, ⟨rfl, trivial⟩, rfl, trivial⟩
def laws_FnExactScaleSurreal_p6 (k : Nat) (a1 : Rw) (a2 : Int) (a3 : Int) (o19 : Rw) (o20 : Rw) (v23 : Bool) : Option Bool :=
  (cond v23 ((laws_toFraction a2 a3).bind fun y289 => ((impl_ScaleSurreal k o20 y289.1 y289.2).bind fun y291 => (if y291.2 = true then (laws_FnExactScaleSurreal_p7 k a1 a2 a3 o19 o20 y291.1 true true) else (laws_FnExactScaleSurreal_p7 k a1 a2 a3 o19 o20 y291.1 false true)))) ((laws_toFraction a2 a3).bind fun y284 => ((impl_ScaleSurreal k o20 y284.1 y284.2).bind fun y286 => (if y286.2 = true then (laws_FnExactScaleSurreal_p7 k a1 a2 a3 o19 o20 y286.1 true false) else (laws_FnExactScaleSurreal_p7 k a1 a2 a3 o19 o20 y286.1 false false)))))
set_option maxHeartbeats 4000000 in
set_option maxRecDepth 100000 in
theorem laws_FnExactScaleSurreal_p6_ct {k : Nat} {a1 : Rw} {a2 : Int} {a3 : Int} {o19 : Rw} {o20 : Rw} {v23 : Bool} {r : Bool} (h : laws_FnExactScaleSurreal_p6 k a1 a2 a3 o19 o20 v23 = some r) : X prog 0 (tlF f14 6) (mk 104 [(2, .ptr 128 0), (3, .ptr 192 0), (6, .ptr 384 0), (7, .d (D.bool v23)), (8, .ptr 512 0)] [(128, .box 71 [.d (D.sl a1)]), (192, .box 83 [.d (D.int .i64 a2), .d (D.int .i64 a3)]), (384, .box 75 [.os 1094000 o19.length]), (512, .box 75 [.os 1094001 o20.length]), (1094000, .arr 162 true o19), (1094001, .arr 162 true o20)]) (finK prog f14 0 (.d (D.bool r)) (⟨[], []⟩)) := by
  rw [laws_FnExactScaleSurreal_p6] at h
  cases v23
  · replace h := condF h
    conv => whnf
    obtain ⟨y284, e285, h⟩ := bind_ex h
    refine CallOk.of (laws_toFraction_ct e285) ?_
    conv => whnf
    refine Take.all (rfl) ?_
    conv => whnf
    obtain ⟨y286, e287, h⟩ := bind_ex h
    refine CallOk.of (impl_ScaleSurreal_ct e287) ?_
    conv => whnf
    refine spl (fun g288 => ?_) (fun g288 => ?_)
    · replace h := iteT h g288
      conv => whnf
      exact CutK.piece (laws_FnExactScaleSurreal_p7_ct  h) [some 128, some 192, some 384, some 512, some 576, some 1094000, some 1094001, some 2240] [] ⟨⟨rfl, rfl⟩, ⟨rfl, ⟨rfl, rfl, trivial⟩, ⟨rfl, rfl, rfl, trivial⟩, ⟨rfl, ⟨rfl, rfl⟩, trivial⟩, ⟨rfl, ⟨rfl, rfl⟩, trivial⟩, ⟨rfl, ⟨rfl, rfl⟩, trivial⟩, ⟨rfl, rfl, rows_same⟩, ⟨rfl, rfl, rows_same⟩, ⟨rfl, rfl, rows_same⟩, trivial⟩, ⟨rfl, rfl⟩, ⟨rfl, rfl⟩, ⟨rfl, rfl⟩, rfl, ⟨rfl, rfl⟩, ⟨rfl, rfl⟩, rfl, trivial⟩
    · replace h := iteF h g288
      conv => whnf
      exact CutK.piece (laws_FnExactScaleSurreal_p7_ct  h) [some 128, some 192, some 384, some 512, some 576, some 1094000, some 1094001, some 2240] [] ⟨⟨rfl, rfl⟩, ⟨rfl, ⟨rfl, rfl, trivial⟩, ⟨rfl, rfl, rfl, trivial⟩, ⟨rfl, ⟨rfl, rfl⟩, trivial⟩, ⟨rfl, ⟨rfl, rfl⟩, trivial⟩, ⟨rfl, ⟨rfl, rfl⟩, trivial⟩, ⟨rfl, rfl, rows_same⟩, ⟨rfl, rfl, rows_same⟩, ⟨rfl, rfl, rows_same⟩, trivial⟩, ⟨rfl, rfl⟩, ⟨rfl, rfl⟩, ⟨rfl, rfl⟩, rfl, ⟨rfl, rfl⟩, ⟨rfl, rfl⟩, rfl, trivial⟩
  · replace h := condT h
    conv => whnf
    obtain ⟨y289, e290, h⟩ := bind_ex h
    refine CallOk.of (laws_toFraction_ct e290) ?_
    conv => whnf
    refine Take.all (rfl) ?_
    conv => whnf
    obtain ⟨y291, e292, h⟩ := bind_ex h
    refine CallOk.of (impl_ScaleSurreal_ct e292) ?_
    conv => whnf
    refine spl (fun g293 => ?_) (fun g293 => ?_)
    · replace h := iteT h g293
      conv => whnf
      exact CutK.piece (laws_FnExactScaleSurreal_p7_ct  h) [some 128, some 192, some 384, some 512, some 576, some 1094000, some 1094001, some 2240] [] ⟨⟨rfl, rfl⟩, ⟨rfl, ⟨rfl, rfl, trivial⟩, ⟨rfl, rfl, rfl, trivial⟩, ⟨rfl, ⟨rfl, rfl⟩, trivial⟩, ⟨rfl, ⟨rfl, rfl⟩, trivial⟩, ⟨rfl, ⟨rfl, rfl⟩, trivial⟩, ⟨rfl, rfl, rows_same⟩, ⟨rfl, rfl, rows_same⟩, ⟨rfl, rfl, rows_same⟩, trivial⟩, ⟨rfl, rfl⟩, ⟨rfl, rfl⟩, ⟨rfl, rfl⟩, rfl, ⟨rfl, rfl⟩, ⟨rfl, rfl⟩, rfl, trivial⟩
    · replace h := iteF h g293
      conv => whnf
      exact CutK.piece (laws_FnExactScaleSurreal_p7_ct  h) [some 128, some 192, some 384, some 512, some 576, some 1094000, some 1094001, some 2240] [] ⟨⟨rfl, rfl⟩, ⟨rfl, ⟨rfl, rfl, trivial⟩, ⟨rfl, rfl, rfl, trivial⟩, ⟨rfl, ⟨rfl, rfl⟩, trivial⟩, ⟨rfl, ⟨rfl, rfl⟩, trivial⟩, ⟨rfl, ⟨rfl, rfl⟩, trivial⟩, ⟨rfl, rfl, rows_same⟩, ⟨rfl, rfl, rows_same⟩, ⟨rfl, rfl, rows_same⟩, trivial⟩, ⟨rfl, rfl⟩, ⟨rfl, rfl⟩, ⟨rfl, rfl⟩, rfl, ⟨rfl, rfl⟩, ⟨rfl, rfl⟩, rfl, trivial⟩
def laws_FnExactScaleSurreal_p5 (k : Nat) (a1 : Rw) (a2 : Int) (a3 : Int) (o15 : Rw) (v16 : Bool) : Option Bool :=
  (cond v16 ((laws_toSurreal k a1).bind fun y296 => (laws_FnExactScaleSurreal_p6 k a1 a2 a3 o15 y296 true)) ((laws_toSurreal k a1).bind fun y294 => (laws_FnExactScaleSurreal_p6 k a1 a2 a3 o15 y294 false)))
set_option maxHeartbeats 4000000 in
set_option maxRecDepth 100000 in
theorem laws_FnExactScaleSurreal_p5_ct {k : Nat} {a1 : Rw} {a2 : Int} {a3 : Int} {o15 : Rw} {v16 : Bool} {r : Bool} (h : laws_FnExactScaleSurreal_p5 k a1 a2 a3 o15 v16 = some r) : X prog 0 (tlF f14 5) (mk 104 [(2, .ptr 128 0), (3, .ptr 192 0), (6, .ptr 384 0), (7, .d (D.bool v16))] [(128, .box 71 [.d (D.sl a1)]), (192, .box 83 [.d (D.int .i64 a2), .d (D.int .i64 a3)]), (384, .box 75 [.os 1089000 o15.length]), (1089000, .arr 162 true o15)]) (finK prog f14 0 (.d (D.bool r)) (⟨[], []⟩)) := by
  rw [laws_FnExactScaleSurreal_p5] at h
  cases v16
  · replace h := condF h
    conv => whnf
    obtain ⟨y294, e295, h⟩ := bind_ex h
    refine CallOk.of (laws_toSurreal_ct e295) ?_
    conv => whnf
    exact CutK.piece (laws_FnExactScaleSurreal_p6_ct  h) [some 128, some 192, some 384, some 512, some 1089000, some 1920] [] ⟨⟨rfl, rfl⟩, ⟨rfl, ⟨rfl, rfl, trivial⟩, ⟨rfl, rfl, rfl, trivial⟩, ⟨rfl, ⟨rfl, rfl⟩, trivial⟩, ⟨rfl, ⟨rfl, rfl⟩, trivial⟩, ⟨rfl, rfl, rows_same⟩, ⟨rfl, rfl, rows_same⟩, trivial⟩, ⟨rfl, rfl⟩, ⟨rfl, rfl⟩, ⟨rfl, rfl⟩, rfl, ⟨rfl, rfl⟩, trivial⟩
  · replace h := condT h
    conv => whnf
    obtain ⟨y296, e297, h⟩ := bind_ex h
    refine CallOk.of (laws_toSurreal_ct e297) ?_
    conv => whnf
    exact CutK.piece (laws_FnExactScaleSurreal_p6_ct  h) [some 128, some 192, some 384, some 512, some 1089000, some 1920] [] ⟨⟨rfl, rfl⟩, ⟨rfl, ⟨rfl, rfl, trivial⟩, ⟨rfl, rfl, rfl, trivial⟩, ⟨rfl, ⟨rfl, rfl⟩, trivial⟩, ⟨rfl, ⟨rfl, rfl⟩, trivial⟩, ⟨rfl, rfl, rows_same⟩, ⟨rfl, rfl, rows_same⟩, trivial⟩, ⟨rfl, rfl⟩, ⟨rfl, rfl⟩, ⟨rfl, rfl⟩, rfl, ⟨rfl, rfl⟩, trivial⟩
def laws_FnExactScaleSurreal_p3 (k : Nat) (a1 : Rw) (a2 : Int) (a3 : Int) (o6 : Int) : Option Bool :=
  (if o6 < (0 : Int) then some true else ((laws_toSurreal k a1).bind fun y299 => ((laws_toFraction a2 a3).bind fun y301 => ((spec_ScaleSurreal k y299 y301.1 y301.2).bind fun y303 => (if y303.2 = true then (laws_FnExactScaleSurreal_p5 k a1 a2 a3 y303.1 true) else (laws_FnExactScaleSurreal_p5 k a1 a2 a3 y303.1 false))))))
set_option maxHeartbeats 4000000 in
set_option maxRecDepth 100000 in
theorem laws_FnExactScaleSurreal_p3_ct {k : Nat} {a1 : Rw} {a2 : Int} {a3 : Int} {o6 : Int} {r : Bool} (h : laws_FnExactScaleSurreal_p3 k a1 a2 a3 o6 = some r) : X prog 0 (tlF f14 3) (mk 104 [(2, .ptr 128 0), (3, .ptr 192 0), (5, .d (D.int .i64 o6))] [(128, .box 71 [.d (D.sl a1)]), (192, .box 83 [.d (D.int .i64 a2), .d (D.int .i64 a3)])]) (finK prog f14 0 (.d (D.bool r)) (⟨[], []⟩)) := by
  rw [laws_FnExactScaleSurreal_p3] at h
  conv => whnf
  refine splD (fun g298 => ?_) (fun g298 => ?_)
  · replace h := iteP h g298
    conv => whnf
    cases h
    exact Done.of [] [] rfl rfl ⟨⟨rfl, rfl⟩, ⟨rfl, trivial⟩, rfl, trivial⟩
  · replace h := iteN h g298
    conv => whnf
    obtain ⟨y299, e300, h⟩ := bind_ex h
    refine CallOk.of (laws_toSurreal_ct e300) ?_
    conv => whnf
    obtain ⟨y301, e302, h⟩ := bind_ex h
    refine CallOk.of (laws_toFraction_ct e302) ?_
    conv => whnf
    refine Take.all (rfl) ?_
    conv => whnf
    obtain ⟨y303, e304, h⟩ := bind_ex h
    refine CallOk.of (spec_ScaleSurreal_ct e304) ?_
    conv => whnf
    refine spl (fun g305 => ?_) (fun g305 => ?_)
    · replace h := iteT h g305
      conv => whnf
      exact CutK.piece (laws_FnExactScaleSurreal_p5_ct  h) [some 128, some 192, some 384, some 1664] [] ⟨⟨rfl, rfl⟩, ⟨rfl, ⟨rfl, rfl, trivial⟩, ⟨rfl, rfl, rfl, trivial⟩, ⟨rfl, ⟨rfl, rfl⟩, trivial⟩, ⟨rfl, rfl, rows_same⟩, trivial⟩, ⟨rfl, rfl⟩, ⟨rfl, rfl⟩, ⟨rfl, rfl⟩, rfl, trivial⟩
    · replace h := iteF h g305
      conv => whnf
      exact CutK.piece (laws_FnExactScaleSurreal_p5_ct  h) [some 128, some 192, some 384, some 1664] [] ⟨⟨rfl, rfl⟩, ⟨rfl, ⟨rfl, rfl, trivial⟩, ⟨rfl, rfl, rfl, trivial⟩, ⟨rfl, ⟨rfl, rfl⟩, trivial⟩, ⟨rfl, rfl, rows_same⟩, trivial⟩, ⟨rfl, rfl⟩, ⟨rfl, rfl⟩, ⟨rfl, rfl⟩, rfl, trivial⟩
def laws_FnExactScaleSurreal (k : Nat) (a1 : Rw) (a2 : Int) (a3 : Int) : Option Bool :=
  ((laws_szSurreal k a1 1048576).bind fun y306 => (laws_FnExactScaleSurreal_p3 k a1 a2 a3 y306))
set_option maxHeartbeats 4000000 in
set_option maxRecDepth 100000 in
theorem laws_FnExactScaleSurreal_ct {k : Nat} {a1 : Rw} {a2 : Int} {a3 : Int} {r : Bool} (h : laws_FnExactScaleSurreal k a1 a2 a3 = some r) : Ct prog 14 [.agg [.d (D.sl a1)], .agg [.d (D.int .i64 a2), .d (D.int .i64 a3)]] (⟨[], []⟩) (.d (D.bool r)) (⟨[], []⟩) := by
  rw [laws_FnExactScaleSurreal] at h
  refine Ct.of (c := _) mixed func14 ⟨rfl, rfl, rfl⟩ ?_ rfl
  conv => whnf
  obtain ⟨y306, e307, h⟩ := bind_ex h
  refine CallOk.of (laws_szSurreal_ct e307) ?_
  conv => whnf
  exact CutK.piece (laws_FnExactScaleSurreal_p3_ct  h) [some 128, some 192] [] ⟨⟨rfl, rfl⟩, ⟨rfl, ⟨rfl, rfl, trivial⟩, ⟨rfl, rfl, rfl, trivial⟩, trivial⟩, ⟨rfl, rfl⟩, ⟨rfl, rfl⟩, rfl, trivial⟩
end
end Go.Proofs.Try
