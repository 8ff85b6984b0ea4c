/- Printed by program (axgen): pure functions, and that the Go functions compute them. -/
import Derived.Test.YtglgpldmibamnaaWtwG0
set_option linter.unusedVariables false
set_option linter.unusedSimpArgs false
namespace Go.Proofs.Try
open Go Go.AX
noncomputable section
def laws_FnExactOppositeWord_p22 (o164 : Int) (o165 : Int) : Option Bool :=
  (if o165 < (0 : Int) then some false else (if o165 = o164 then some true else some false))
set_option maxHeartbeats 4000000 in
set_option maxRecDepth 100000 in
theorem laws_FnExactOppositeWord_p22_ct {o164 : Int} {o165 : Int} {r : Bool} (h : laws_FnExactOppositeWord_p22 o164 o165 = some r) : X prog 0 (tlF f10 22) (mk 96 [(10, .d (D.int .i64 o164)), (11, .d (D.int .i64 o165))] []) (finK prog f10 0 (.d (D.bool r)) (⟨[], []⟩)) := by
  rw [laws_FnExactOppositeWord_p22] at h
  conv => whnf
  refine splD (fun g168 => ?_) (fun g168 => ?_)
  · replace h := iteP h g168
    conv => whnf
    cases h
    exact Done.of [] [] rfl rfl ⟨⟨rfl, rfl⟩, ⟨rfl, trivial⟩, rfl, trivial⟩
  · replace h := iteN h g168
    conv => whnf
    refine splN (fun g169 => ?_) (fun g169 => ?_)
    · replace h := iteN h g169
      conv => whnf
      cases h
      exact Done.of [] [] rfl rfl ⟨⟨rfl, rfl⟩, ⟨rfl, trivial⟩, rfl, trivial⟩
    · replace h := iteP h g169
      conv => whnf
      cases h
      exact Done.of [] [] rfl rfl ⟨⟨rfl, rfl⟩, ⟨rfl, trivial⟩, rfl, trivial⟩
def laws_FnExactOppositeWord_p20 (k : Nat) (o151 : Int) (o152 : Rw) : Option Bool :=
  ((laws_heldWord k o152 1).bind fun y170 => (laws_FnExactOppositeWord_p22 o151 y170))
set_option maxHeartbeats 4000000 in
set_option maxRecDepth 100000 in
theorem laws_FnExactOppositeWord_p20_ct {k : Nat} {o151 : Int} {o152 : Rw} {r : Bool} (h : laws_FnExactOppositeWord_p20 k o151 o152 = some r) : X prog 0 (tlF f10 20) (mk 96 [(7, .ptr 448 0), (10, .d (D.int .i64 o151))] [(448, .box 61 [.os 1164000 o152.length]), (1164000, .arr 150 true o152)]) (finK prog f10 0 (.d (D.bool r)) (⟨[], []⟩)) := by
  rw [laws_FnExactOppositeWord_p20] at h
  conv => whnf
  refine Choice.old ?_
  conv => whnf
  refine Take.all (rfl) ?_
  conv => whnf
  obtain ⟨y170, e171, h⟩ := bind_ex h
  refine CallOk.of (laws_heldWord_ct e171) ?_
  conv => whnf
  exact CutK.piece (laws_FnExactOppositeWord_p22_ct  h) [] [] ⟨⟨rfl, rfl⟩, ⟨rfl, trivial⟩, rfl, rfl, trivial⟩
def laws_FnExactOppositeWord_p19 (k : Nat) (o135 : Int) (o136 : Rw) (o137 : Rw) (o138 : Rw) (v139 : Bool) (v147 : Bool) : Option Bool :=
  (cond v139 (cond v147 ((laws_eqWord k o138 o136).bind fun y181 => (if y181 = true then (laws_FnExactOppositeWord_p20 k o135 o137) else some false)) ((laws_eqWord k o138 o136).bind fun y178 => (if y178 = true then some false else some false))) (cond v147 ((laws_eqWord k o138 o136).bind fun y175 => (if y175 = true then some false else some false)) ((laws_eqWord k o138 o136).bind fun y172 => (if y172 = true then (laws_FnExactOppositeWord_p20 k o135 o137) else some false))))
set_option maxHeartbeats 4000000 in
set_option maxRecDepth 100000 in
theorem laws_FnExactOppositeWord_p19_ct {k : Nat} {o135 : Int} {o136 : Rw} {o137 : Rw} {o138 : Rw} {v139 : Bool} {v147 : Bool} {r : Bool} (h : laws_FnExactOppositeWord_p19 k o135 o136 o137 o138 v139 v147 = some r) : X prog 0 (tlF f10 19) (mk 96 [(4, .ptr 256 0), (5, .d (D.bool v147)), (7, .ptr 448 0), (10, .d (D.int .i64 o135)), (12, .ptr 768 0), (13, .d (D.bool v139))] [(256, .box 61 [.os 1159000 o136.length]), (448, .box 61 [.os 1159001 o137.length]), (768, .box 61 [.os 1159002 o138.length]), (1159000, .arr 150 true o136), (1159001, .arr 150 true o137), (1159002, .arr 150 true o138)]) (finK prog f10 0 (.d (D.bool r)) (⟨[], []⟩)) := by
  rw [laws_FnExactOppositeWord_p19] at h
  cases v139
  · replace h := condF h
    cases v147
    · replace h := condF h
      conv => whnf
      refine Take.all (rfl) ?_
      conv => whnf
      refine Take.all (rfl) ?_
      conv => whnf
      obtain ⟨y172, e173, h⟩ := bind_ex h
      refine CallOk.of (laws_eqWord_ct e173) ?_
      conv => whnf
      refine spl (fun g174 => ?_) (fun g174 => ?_)
      · replace h := iteT h g174
        conv => whnf
        refine splF ?_
        conv => whnf
        refine CutK.norm [7, 10, 87] [448, 1159001] ?_
        conv => whnf
        exact CutK.piece (laws_FnExactOppositeWord_p20_ct  h) [some 448, some 1159001] [] ⟨⟨rfl, rfl⟩, ⟨rfl, ⟨rfl, ⟨rfl, rfl⟩, trivial⟩, ⟨rfl, rfl, rows_same⟩, trivial⟩, ⟨rfl, rfl⟩, rfl, trivial⟩
      · replace h := iteF h g174
        conv => whnf
        refine CutK.norm [7, 10, 87] [448, 1159001] ?_
        conv => whnf
        cases h
        exact Done.of [] [] rfl rfl ⟨⟨rfl, rfl⟩, ⟨rfl, trivial⟩, rfl, trivial⟩
    · replace h := condT h
      conv => whnf
      refine Take.all (rfl) ?_
      conv => whnf
      refine Take.all (rfl) ?_
      conv => whnf
      obtain ⟨y175, e176, h⟩ := bind_ex h
      refine CallOk.of (laws_eqWord_ct e176) ?_
      conv => whnf
      refine spl (fun g177 => ?_) (fun g177 => ?_)
      · replace h := iteT h g177
        conv => whnf
        refine splT ?_
        conv => whnf
        refine CutK.norm [7, 10, 87] [448, 1159001] ?_
        conv => whnf
        cases h
        exact Done.of [] [] rfl rfl ⟨⟨rfl, rfl⟩, ⟨rfl, trivial⟩, rfl, trivial⟩
      · replace h := iteF h g177
        conv => whnf
        refine CutK.norm [7, 10, 87] [448, 1159001] ?_
        conv => whnf
        cases h
        exact Done.of [] [] rfl rfl ⟨⟨rfl, rfl⟩, ⟨rfl, trivial⟩, rfl, trivial⟩
  · replace h := condT h
    cases v147
    · replace h := condF h
      conv => whnf
      refine Take.all (rfl) ?_
      conv => whnf
      refine Take.all (rfl) ?_
      conv => whnf
      obtain ⟨y178, e179, h⟩ := bind_ex h
      refine CallOk.of (laws_eqWord_ct e179) ?_
      conv => whnf
      refine spl (fun g180 => ?_) (fun g180 => ?_)
      · replace h := iteT h g180
        conv => whnf
        refine splT ?_
        conv => whnf
        refine CutK.norm [7, 10, 87] [448, 1159001] ?_
        conv => whnf
        cases h
        exact Done.of [] [] rfl rfl ⟨⟨rfl, rfl⟩, ⟨rfl, trivial⟩, rfl, trivial⟩
      · replace h := iteF h g180
        conv => whnf
        refine CutK.norm [7, 10, 87] [448, 1159001] ?_
        conv => whnf
        cases h
        exact Done.of [] [] rfl rfl ⟨⟨rfl, rfl⟩, ⟨rfl, trivial⟩, rfl, trivial⟩
    · replace h := condT h
      conv => whnf
      refine Take.all (rfl) ?_
      conv => whnf
      refine Take.all (rfl) ?_
      conv => whnf
      obtain ⟨y181, e182, h⟩ := bind_ex h
      refine CallOk.of (laws_eqWord_ct e182) ?_
      conv => whnf
      refine spl (fun g183 => ?_) (fun g183 => ?_)
      · replace h := iteT h g183
        conv => whnf
        refine splF ?_
        conv => whnf
        refine CutK.norm [7, 10, 87] [448, 1159001] ?_
        conv => whnf
        exact CutK.piece (laws_FnExactOppositeWord_p20_ct  h) [some 448, some 1159001] [] ⟨⟨rfl, rfl⟩, ⟨rfl, ⟨rfl, ⟨rfl, rfl⟩, trivial⟩, ⟨rfl, rfl, rows_same⟩, trivial⟩, ⟨rfl, rfl⟩, rfl, trivial⟩
      · replace h := iteF h g183
        conv => whnf
        refine CutK.norm [7, 10, 87] [448, 1159001] ?_
        conv => whnf
        cases h
        exact Done.of [] [] rfl rfl ⟨⟨rfl, rfl⟩, ⟨rfl, trivial⟩, rfl, trivial⟩
def laws_FnExactOppositeWord_p16 (k : Nat) (a1 : Rw) (o121 : Int) (o122 : Int) (o123 : Rw) (o124 : Rw) (v127 : Bool) : Option Bool :=
  (cond v127 (if o122 < (0 : Int) then some false else (if o122 = o121 then ((laws_toWord k a1).bind fun y193 => ((impl_OppositeWord k y193).bind fun y195 => (if y195.2 = true then (laws_FnExactOppositeWord_p19 k o121 o123 o124 y195.1 true true) else (laws_FnExactOppositeWord_p19 k o121 o123 o124 y195.1 false true)))) else some false)) (if o122 < (0 : Int) then some false else (if o122 = o121 then ((laws_toWord k a1).bind fun y186 => ((impl_OppositeWord k y186).bind fun y188 => (if y188.2 = true then (laws_FnExactOppositeWord_p19 k o121 o123 o124 y188.1 true false) else (laws_FnExactOppositeWord_p19 k o121 o123 o124 y188.1 false false)))) else some false)))
set_option maxHeartbeats 4000000 in
set_option maxRecDepth 100000 in
theorem laws_FnExactOppositeWord_p16_ct {k : Nat} {a1 : Rw} {o121 : Int} {o122 : Int} {o123 : Rw} {o124 : Rw} {v127 : Bool} {r : Bool} (h : laws_FnExactOppositeWord_p16 k a1 o121 o122 o123 o124 v127 = some r) : X prog 0 (tlF f10 16) (mk 96 [(1, .ptr 64 0), (4, .ptr 256 0), (5, .d (D.bool v127)), (7, .ptr 448 0), (10, .d (D.int .i64 o121)), (11, .d (D.int .i64 o122))] [(64, .box 57 [.d (D.sl a1)]), (256, .box 61 [.os 1144000 o123.length]), (448, .box 61 [.os 1144001 o124.length]), (1144000, .arr 150 true o123), (1144001, .arr 150 true o124)]) (finK prog f10 0 (.d (D.bool r)) (⟨[], []⟩)) := by
  rw [laws_FnExactOppositeWord_p16] at h
  cases v127
  · replace h := condF h
    conv => whnf
    refine splD (fun g184 => ?_) (fun g184 => ?_)
    · replace h := iteP h g184
      conv => whnf
      cases h
      exact Done.of [] [] rfl rfl ⟨⟨rfl, rfl⟩, ⟨rfl, trivial⟩, rfl, trivial⟩
    · replace h := iteN h g184
      conv => whnf
      refine splN (fun g185 => ?_) (fun g185 => ?_)
      · replace h := iteN h g185
        conv => whnf
        cases h
        exact Done.of [] [] rfl rfl ⟨⟨rfl, rfl⟩, ⟨rfl, trivial⟩, rfl, trivial⟩
      · replace h := iteP h g185
        conv => whnf
        obtain ⟨y186, e187, h⟩ := bind_ex h
        refine CallOk.of (laws_toWord_ct e187) ?_
        conv => whnf
        refine Take.all (rfl) ?_
        conv => whnf
        obtain ⟨y188, e189, h⟩ := bind_ex h
        refine CallOk.of (impl_OppositeWord_ct e189) ?_
        conv => whnf
        refine spl (fun g190 => ?_) (fun g190 => ?_)
        · replace h := iteT h g190
          conv => whnf
          exact CutK.piece (laws_FnExactOppositeWord_p19_ct  h) [some 256, some 448, some 768, some 1144000, some 1144001, some 4864] [] ⟨⟨rfl, rfl⟩, ⟨rfl, ⟨rfl, ⟨rfl, rfl⟩, trivial⟩, ⟨rfl, ⟨rfl, rfl⟩, trivial⟩, ⟨rfl, ⟨rfl, rfl⟩, trivial⟩, ⟨rfl, rfl, rows_same⟩, ⟨rfl, rfl, rows_same⟩, ⟨rfl, rfl, rows_same⟩, trivial⟩, ⟨rfl, rfl⟩, rfl, ⟨rfl, rfl⟩, rfl, ⟨rfl, rfl⟩, rfl, trivial⟩
        · replace h := iteF h g190
          conv => whnf
          exact CutK.piece (laws_FnExactOppositeWord_p19_ct  h) [some 256, some 448, some 768, some 1144000, some 1144001, some 4864] [] ⟨⟨rfl, rfl⟩, ⟨rfl, ⟨rfl, ⟨rfl, rfl⟩, trivial⟩, ⟨rfl, ⟨rfl, rfl⟩, trivial⟩, ⟨rfl, ⟨rfl, rfl⟩, trivial⟩, ⟨rfl, rfl, rows_same⟩, ⟨rfl, rfl, rows_same⟩, ⟨rfl, rfl, rows_same⟩, trivial⟩, ⟨rfl, rfl⟩, rfl, ⟨rfl, rfl⟩, rfl, ⟨rfl, rfl⟩, rfl, trivial⟩
  · replace h := condT h
    conv => whnf
    refine splD (fun g191 => ?_) (fun g191 => ?_)
    · replace h := iteP h g191
      conv => whnf
      cases h
      exact Done.of [] [] rfl rfl ⟨⟨rfl, rfl⟩, ⟨rfl, trivial⟩, rfl, trivial⟩
    · replace h := iteN h g191
      conv => whnf
      refine splN (fun g192 => ?_) (fun g192 => ?_)
      · replace h := iteN h g192
        conv => whnf
        cases h
        exact Done.of [] [] rfl rfl ⟨⟨rfl, rfl⟩, ⟨rfl, trivial⟩, rfl, trivial⟩
      · replace h := iteP h g192
        conv => whnf
        obtain ⟨y193, e194, h⟩ := bind_ex h
        refine CallOk.of (laws_toWord_ct e194) ?_
        conv => whnf
        refine Take.all (rfl) ?_
        conv => whnf
        obtain ⟨y195, e196, h⟩ := bind_ex h
        refine CallOk.of (impl_OppositeWord_ct e196) ?_
        conv => whnf
        refine spl (fun g197 => ?_) (fun g197 => ?_)
        · replace h := iteT h g197
          conv => whnf
          exact CutK.piece (laws_FnExactOppositeWord_p19_ct  h) [some 256, some 448, some 768, some 1144000, some 1144001, some 4864] [] ⟨⟨rfl, rfl⟩, ⟨rfl, ⟨rfl, ⟨rfl, rfl⟩, trivial⟩, ⟨rfl, ⟨rfl, rfl⟩, trivial⟩, ⟨rfl, ⟨rfl, rfl⟩, trivial⟩, ⟨rfl, rfl, rows_same⟩, ⟨rfl, rfl, rows_same⟩, ⟨rfl, rfl, rows_same⟩, trivial⟩, ⟨rfl, rfl⟩, rfl, ⟨rfl, rfl⟩, rfl, ⟨rfl, rfl⟩, rfl, trivial⟩
        · replace h := iteF h g197
          conv => whnf
          exact CutK.piece (laws_FnExactOppositeWord_p19_ct  h) [some 256, some 448, some 768, some 1144000, some 1144001, some 4864] [] ⟨⟨rfl, rfl⟩, ⟨rfl, ⟨rfl, ⟨rfl, rfl⟩, trivial⟩, ⟨rfl, ⟨rfl, rfl⟩, trivial⟩, ⟨rfl, ⟨rfl, rfl⟩, trivial⟩, ⟨rfl, rfl, rows_same⟩, ⟨rfl, rfl, rows_same⟩, ⟨rfl, rfl, rows_same⟩, trivial⟩, ⟨rfl, rfl⟩, rfl, ⟨rfl, rfl⟩, rfl, ⟨rfl, rfl⟩, rfl, trivial⟩
def laws_FnExactOppositeWord_p14 (k : Nat) (a1 : Rw) (o112 : Int) (o113 : Rw) (o114 : Rw) (v118 : Bool) : Option Bool :=
  (cond v118 ((laws_heldWord k o114 1).bind fun y200 => (laws_FnExactOppositeWord_p16 k a1 o112 y200 o113 o114 true)) ((laws_heldWord k o114 1).bind fun y198 => (laws_FnExactOppositeWord_p16 k a1 o112 y198 o113 o114 false)))
set_option maxHeartbeats 4000000 in
set_option maxRecDepth 100000 in
theorem laws_FnExactOppositeWord_p14_ct {k : Nat} {a1 : Rw} {o112 : Int} {o113 : Rw} {o114 : Rw} {v118 : Bool} {r : Bool} (h : laws_FnExactOppositeWord_p14 k a1 o112 o113 o114 v118 = some r) : X prog 0 (tlF f10 14) (mk 96 [(1, .ptr 64 0), (4, .ptr 256 0), (5, .d (D.bool v118)), (7, .ptr 448 0), (10, .d (D.int .i64 o112))] [(64, .box 57 [.d (D.sl a1)]), (256, .box 61 [.os 1134000 o113.length]), (448, .box 61 [.os 1134001 o114.length]), (1134000, .arr 150 true o113), (1134001, .arr 150 true o114)]) (finK prog f10 0 (.d (D.bool r)) (⟨[], []⟩)) := by
  rw [laws_FnExactOppositeWord_p14] at h
  cases v118
  · replace h := condF h
    conv => whnf
    refine Choice.old ?_
    conv => whnf
    refine Take.all (rfl) ?_
    conv => whnf
    obtain ⟨y198, e199, h⟩ := bind_ex h
    refine CallOk.of (laws_heldWord_ct e199) ?_
    conv => whnf
    exact CutK.piece (laws_FnExactOppositeWord_p16_ct  h) [some 64, some 256, some 448, some 1134000, some 1134001] [] ⟨⟨rfl, rfl⟩, ⟨rfl, ⟨rfl, rfl, trivial⟩, ⟨rfl, ⟨rfl, rfl⟩, trivial⟩, ⟨rfl, ⟨rfl, rfl⟩, trivial⟩, ⟨rfl, rfl, rows_same⟩, ⟨rfl, rfl, rows_same⟩, trivial⟩, ⟨rfl, rfl⟩, ⟨rfl, rfl⟩, rfl, ⟨rfl, rfl⟩, rfl, rfl, trivial⟩
  · replace h := condT h
    conv => whnf
    refine Choice.old ?_
    conv => whnf
    refine Take.all (rfl) ?_
    conv => whnf
    obtain ⟨y200, e201, h⟩ := bind_ex h
    refine CallOk.of (laws_heldWord_ct e201) ?_
    conv => whnf
    exact CutK.piece (laws_FnExactOppositeWord_p16_ct  h) [some 64, some 256, some 448, some 1134000, some 1134001] [] ⟨⟨rfl, rfl⟩, ⟨rfl, ⟨rfl, rfl, trivial⟩, ⟨rfl, ⟨rfl, rfl⟩, trivial⟩, ⟨rfl, ⟨rfl, rfl⟩, trivial⟩, ⟨rfl, rfl, rows_same⟩, ⟨rfl, rfl, rows_same⟩, trivial⟩, ⟨rfl, rfl⟩, ⟨rfl, rfl⟩, rfl, ⟨rfl, rfl⟩, rfl, rfl, trivial⟩
def laws_FnExactOppositeWord_p12 (k : Nat) (a1 : Rw) (o94 : Rw) (o95 : Rw) (v108 : Bool) : Option Bool :=
  (cond v108 ((laws_markWord k o95 1).bind fun y205 => (if y205.2.length = o95.length then (laws_FnExactOppositeWord_p14 k a1 y205.1 o94 y205.2 true) else none)) ((laws_markWord k o95 1).bind fun y202 => (if y202.2.length = o95.length then (laws_FnExactOppositeWord_p14 k a1 y202.1 o94 y202.2 false) else none)))
set_option maxHeartbeats 4000000 in
set_option maxRecDepth 100000 in
theorem laws_FnExactOppositeWord_p12_ct {k : Nat} {a1 : Rw} {o94 : Rw} {o95 : Rw} {v108 : Bool} {r : Bool} (h : laws_FnExactOppositeWord_p12 k a1 o94 o95 v108 = some r) : X prog 0 (tlF f10 12) (mk 96 [(1, .ptr 64 0), (4, .ptr 256 0), (5, .d (D.bool v108)), (7, .ptr 448 0)] [(64, .box 57 [.d (D.sl a1)]), (256, .box 61 [.os 1124000 o94.length]), (448, .box 61 [.os 1124001 o95.length]), (1124000, .arr 150 true o94), (1124001, .arr 150 true o95)]) (finK prog f10 0 (.d (D.bool r)) (⟨[], []⟩)) := by
  rw [laws_FnExactOppositeWord_p12] at h
  cases v108
  · replace h := condF h
    conv => whnf
    refine Choice.new ?_
    conv => whnf
    refine Req.of (rfl) ?_
    conv => whnf
    obtain ⟨y202, e203, h⟩ := bind_ex h
    refine MarkOk.of (laws_markWord_ct e203) ?_
    conv => whnf
    obtain ⟨g204, h⟩ := req_ex h
    exact CutK.piece (laws_FnExactOppositeWord_p14_ct  h) [some 64, some 256, some 448, some 1124000, some 1124001] [] ⟨⟨rfl, rfl⟩, ⟨rfl, ⟨rfl, rfl, trivial⟩, ⟨rfl, ⟨rfl, rfl⟩, trivial⟩, ⟨rfl, ⟨(by first | rfl | exact List.length_append.symm | (simp; done) | omega), rfl⟩, trivial⟩, ⟨rfl, rfl, rows_same⟩, ⟨rfl, rfl, rows_same⟩, trivial⟩, ⟨rfl, rfl⟩, ⟨rfl, rfl⟩, rfl, ⟨rfl, rfl⟩, rfl, trivial⟩
  · replace h := condT h
    conv => whnf
    refine Choice.new ?_
    conv => whnf
    refine Req.of (rfl) ?_
    conv => whnf
    obtain ⟨y205, e206, h⟩ := bind_ex h
    refine MarkOk.of (laws_markWord_ct e206) ?_
    conv => whnf
    obtain ⟨g207, h⟩ := req_ex h
    exact CutK.piece (laws_FnExactOppositeWord_p14_ct  h) [some 64, some 256, some 448, some 1124000, some 1124001] [] ⟨⟨rfl, rfl⟩, ⟨rfl, ⟨rfl, rfl, trivial⟩, ⟨rfl, ⟨rfl, rfl⟩, trivial⟩, ⟨rfl, ⟨(by first | rfl | exact List.length_append.symm | (simp; done) | omega), rfl⟩, trivial⟩, ⟨rfl, rfl, rows_same⟩, ⟨rfl, rfl, rows_same⟩, trivial⟩, ⟨rfl, rfl⟩, ⟨rfl, rfl⟩, rfl, ⟨rfl, rfl⟩, rfl, trivial⟩
def laws_FnExactOppositeWord_p11 (k : Nat) (a1 : Rw) (o76 : Int) (o77 : Rw) (o78 : Rw) (v82 : Bool) (v86 : Bool) : Option Bool :=
  (cond v82 (cond v86 (if o76 < (0 : Int) then some false else ((laws_eqWord k o78 o77).bind fun y221 => (if y221 = true then (laws_FnExactOppositeWord_p12 k a1 o77 o78 true) else some false))) (if o76 < (0 : Int) then some false else ((laws_eqWord k o78 o77).bind fun y217 => (if y217 = true then some false else some false)))) (cond v86 (if o76 < (0 : Int) then some false else ((laws_eqWord k o78 o77).bind fun y213 => (if y213 = true then some false else some false))) (if o76 < (0 : Int) then some false else ((laws_eqWord k o78 o77).bind fun y209 => (if y209 = true then (laws_FnExactOppositeWord_p12 k a1 o77 o78 false) else some false)))))
set_option maxHeartbeats 4000000 in
set_option maxRecDepth 100000 in
theorem laws_FnExactOppositeWord_p11_ct {k : Nat} {a1 : Rw} {o76 : Int} {o77 : Rw} {o78 : Rw} {v82 : Bool} {v86 : Bool} {r : Bool} (h : laws_FnExactOppositeWord_p11 k a1 o76 o77 o78 v82 v86 = some r) : X prog 0 (tlF f10 11) (mk 96 [(1, .ptr 64 0), (4, .ptr 256 0), (5, .d (D.bool v82)), (7, .ptr 448 0), (8, .d (D.bool v86)), (9, .d (D.int .i64 o76))] [(64, .box 57 [.d (D.sl a1)]), (256, .box 61 [.os 1119000 o77.length]), (448, .box 61 [.os 1119001 o78.length]), (1119000, .arr 150 true o77), (1119001, .arr 150 true o78)]) (finK prog f10 0 (.d (D.bool r)) (⟨[], []⟩)) := by
  rw [laws_FnExactOppositeWord_p11] at h
  cases v82
  · replace h := condF h
    cases v86
    · replace h := condF h
      conv => whnf
      refine splD (fun g208 => ?_) (fun g208 => ?_)
      · replace h := iteP h g208
        conv => whnf
        refine CutK.norm [1, 4, 5, 7, 61] [64, 256, 448, 1119000, 1119001] ?_
        conv => whnf
        cases h
        exact Done.of [] [] rfl rfl ⟨⟨rfl, rfl⟩, ⟨rfl, trivial⟩, rfl, trivial⟩
      · replace h := iteN h g208
        conv => whnf
        refine Take.all (rfl) ?_
        conv => whnf
        refine Take.all (rfl) ?_
        conv => whnf
        obtain ⟨y209, e210, h⟩ := bind_ex h
        refine CallOk.of (laws_eqWord_ct e210) ?_
        conv => whnf
        refine spl (fun g211 => ?_) (fun g211 => ?_)
        · replace h := iteT h g211
          conv => whnf
          refine splF ?_
          conv => whnf
          refine CutK.norm [1, 4, 5, 7, 61] [64, 256, 448, 1119000, 1119001] ?_
          conv => whnf
          exact CutK.piece (laws_FnExactOppositeWord_p12_ct  h) [some 64, some 256, some 448, some 1119000, some 1119001] [] ⟨⟨rfl, rfl⟩, ⟨rfl, ⟨rfl, rfl, trivial⟩, ⟨rfl, ⟨rfl, rfl⟩, trivial⟩, ⟨rfl, ⟨rfl, rfl⟩, trivial⟩, ⟨rfl, rfl, rows_same⟩, ⟨rfl, rfl, rows_same⟩, trivial⟩, ⟨rfl, rfl⟩, ⟨rfl, rfl⟩, rfl, ⟨rfl, rfl⟩, trivial⟩
        · replace h := iteF h g211
          conv => whnf
          refine CutK.norm [1, 4, 5, 7, 61] [64, 256, 448, 1119000, 1119001] ?_
          conv => whnf
          cases h
          exact Done.of [] [] rfl rfl ⟨⟨rfl, rfl⟩, ⟨rfl, trivial⟩, rfl, trivial⟩
    · replace h := condT h
      conv => whnf
      refine splD (fun g212 => ?_) (fun g212 => ?_)
      · replace h := iteP h g212
        conv => whnf
        refine CutK.norm [1, 4, 5, 7, 61] [64, 256, 448, 1119000, 1119001] ?_
        conv => whnf
        cases h
        exact Done.of [] [] rfl rfl ⟨⟨rfl, rfl⟩, ⟨rfl, trivial⟩, rfl, trivial⟩
      · replace h := iteN h g212
        conv => whnf
        refine Take.all (rfl) ?_
        conv => whnf
        refine Take.all (rfl) ?_
        conv => whnf
        obtain ⟨y213, e214, h⟩ := bind_ex h
        refine CallOk.of (laws_eqWord_ct e214) ?_
        conv => whnf
        refine spl (fun g215 => ?_) (fun g215 => ?_)
        · replace h := iteT h g215
          conv => whnf
          refine splT ?_
          conv => whnf
          refine CutK.norm [1, 4, 5, 7, 61] [64, 256, 448, 1119000, 1119001] ?_
          conv => whnf
          cases h
          exact Done.of [] [] rfl rfl ⟨⟨rfl, rfl⟩, ⟨rfl, trivial⟩, rfl, trivial⟩
        · replace h := iteF h g215
          conv => whnf
          refine CutK.norm [1, 4, 5, 7, 61] [64, 256, 448, 1119000, 1119001] ?_
          conv => whnf
          cases h
          exact Done.of [] [] rfl rfl ⟨⟨rfl, rfl⟩, ⟨rfl, trivial⟩, rfl, trivial⟩
  · replace h := condT h
    cases v86
    · replace h := condF h
      conv => whnf
      refine splD (fun g216 => ?_) (fun g216 => ?_)
      · replace h := iteP h g216
        conv => whnf
        refine CutK.norm [1, 4, 5, 7, 61] [64, 256, 448, 1119000, 1119001] ?_
        conv => whnf
        cases h
        exact Done.of [] [] rfl rfl ⟨⟨rfl, rfl⟩, ⟨rfl, trivial⟩, rfl, trivial⟩
      · replace h := iteN h g216
        conv => whnf
        refine Take.all (rfl) ?_
        conv => whnf
        refine Take.all (rfl) ?_
        conv => whnf
        obtain ⟨y217, e218, h⟩ := bind_ex h
        refine CallOk.of (laws_eqWord_ct e218) ?_
        conv => whnf
        refine spl (fun g219 => ?_) (fun g219 => ?_)
        · replace h := iteT h g219
          conv => whnf
          refine splT ?_
          conv => whnf
          refine CutK.norm [1, 4, 5, 7, 61] [64, 256, 448, 1119000, 1119001] ?_
          conv => whnf
          cases h
          exact Done.of [] [] rfl rfl ⟨⟨rfl, rfl⟩, ⟨rfl, trivial⟩, rfl, trivial⟩
        · replace h := iteF h g219
          conv => whnf
          refine CutK.norm [1, 4, 5, 7, 61] [64, 256, 448, 1119000, 1119001] ?_
          conv => whnf
          cases h
          exact Done.of [] [] rfl rfl ⟨⟨rfl, rfl⟩, ⟨rfl, trivial⟩, rfl, trivial⟩
    · replace h := condT h
      conv => whnf
      refine splD (fun g220 => ?_) (fun g220 => ?_)
      · replace h := iteP h g220
        conv => whnf
        refine CutK.norm [1, 4, 5, 7, 61] [64, 256, 448, 1119000, 1119001] ?_
        conv => whnf
        cases h
        exact Done.of [] [] rfl rfl ⟨⟨rfl, rfl⟩, ⟨rfl, trivial⟩, rfl, trivial⟩
      · replace h := iteN h g220
        conv => whnf
        refine Take.all (rfl) ?_
        conv => whnf
        refine Take.all (rfl) ?_
        conv => whnf
        obtain ⟨y221, e222, h⟩ := bind_ex h
        refine CallOk.of (laws_eqWord_ct e222) ?_
        conv => whnf
        refine spl (fun g223 => ?_) (fun g223 => ?_)
        · replace h := iteT h g223
          conv => whnf
          refine splF ?_
          conv => whnf
          refine CutK.norm [1, 4, 5, 7, 61] [64, 256, 448, 1119000, 1119001] ?_
          conv => whnf
          exact CutK.piece (laws_FnExactOppositeWord_p12_ct  h) [some 64, some 256, some 448, some 1119000, some 1119001] [] ⟨⟨rfl, rfl⟩, ⟨rfl, ⟨rfl, rfl, trivial⟩, ⟨rfl, ⟨rfl, rfl⟩, trivial⟩, ⟨rfl, ⟨rfl, rfl⟩, trivial⟩, ⟨rfl, rfl, rows_same⟩, ⟨rfl, rfl, rows_same⟩, trivial⟩, ⟨rfl, rfl⟩, ⟨rfl, rfl⟩, rfl, ⟨rfl, rfl⟩, trivial⟩
        · replace h := iteF h g223
          conv => whnf
          refine CutK.norm [1, 4, 5, 7, 61] [64, 256, 448, 1119000, 1119001] ?_
          conv => whnf
          cases h
          exact Done.of [] [] rfl rfl ⟨⟨rfl, rfl⟩, ⟨rfl, trivial⟩, rfl, trivial⟩
def laws_FnExactOppositeWord_p9 (k : Nat) (a1 : Rw) (o53 : Rw) (o54 : Rw) (o55 : Rw) (v61 : Bool) (v67 : Bool) : Option Bool :=
  (cond v61 (cond v67 ((laws_markWord k o54 1).bind fun y233 => (if y233.2.length = o54.length then (laws_FnExactOppositeWord_p11 k a1 y233.1 o53 o55 true true) else none)) ((laws_markWord k o54 1).bind fun y230 => (if y230.2.length = o54.length then (laws_FnExactOppositeWord_p11 k a1 y230.1 o53 o55 false true) else none))) (cond v67 ((laws_markWord k o54 1).bind fun y227 => (if y227.2.length = o54.length then (laws_FnExactOppositeWord_p11 k a1 y227.1 o53 o55 true false) else none)) ((laws_markWord k o54 1).bind fun y224 => (if y224.2.length = o54.length then (laws_FnExactOppositeWord_p11 k a1 y224.1 o53 o55 false false) else none))))
set_option maxHeartbeats 4000000 in
set_option maxRecDepth 100000 in
theorem laws_FnExactOppositeWord_p9_ct {k : Nat} {a1 : Rw} {o53 : Rw} {o54 : Rw} {o55 : Rw} {v61 : Bool} {v67 : Bool} {r : Bool} (h : laws_FnExactOppositeWord_p9 k a1 o53 o54 o55 v61 v67 = some r) : X prog 0 (tlF f10 9) (mk 96 [(1, .ptr 64 0), (4, .ptr 256 0), (5, .d (D.bool v67)), (6, .ptr 384 0), (7, .ptr 448 0), (8, .d (D.bool v61))] [(64, .box 57 [.d (D.sl a1)]), (256, .box 61 [.os 1109000 o53.length]), (384, .box 61 [.os 1109001 o54.length]), (448, .box 61 [.os 1109002 o55.length]), (1109000, .arr 150 true o53), (1109001, .arr 150 true o54), (1109002, .arr 150 true o55)]) (finK prog f10 0 (.d (D.bool r)) (⟨[], []⟩)) := by
  rw [laws_FnExactOppositeWord_p9] at h
  cases v61
  · replace h := condF h
    cases v67
    · replace h := condF h
      conv => whnf
      refine Choice.new ?_
      conv => whnf
      refine Req.of (rfl) ?_
      conv => whnf
      obtain ⟨y224, e225, h⟩ := bind_ex h
      refine MarkOk.of (laws_markWord_ct e225) ?_
      conv => whnf
      obtain ⟨g226, h⟩ := req_ex h
      exact CutK.piece (laws_FnExactOppositeWord_p11_ct  h) [some 64, some 256, some 448, some 1109000, some 1109002] [] ⟨⟨rfl, rfl⟩, ⟨rfl, ⟨rfl, rfl, trivial⟩, ⟨rfl, ⟨rfl, rfl⟩, trivial⟩, ⟨rfl, ⟨rfl, rfl⟩, trivial⟩, ⟨rfl, rfl, rows_same⟩, ⟨rfl, rfl, rows_same⟩, trivial⟩, ⟨rfl, rfl⟩, ⟨rfl, rfl⟩, rfl, ⟨rfl, rfl⟩, rfl, rfl, trivial⟩
    · replace h := condT h
      conv => whnf
      refine Choice.new ?_
      conv => whnf
      refine Req.of (rfl) ?_
      conv => whnf
      obtain ⟨y227, e228, h⟩ := bind_ex h
      refine MarkOk.of (laws_markWord_ct e228) ?_
      conv => whnf
      obtain ⟨g229, h⟩ := req_ex h
      exact CutK.piece (laws_FnExactOppositeWord_p11_ct  h) [some 64, some 256, some 448, some 1109000, some 1109002] [] ⟨⟨rfl, rfl⟩, ⟨rfl, ⟨rfl, rfl, trivial⟩, ⟨rfl, ⟨rfl, rfl⟩, trivial⟩, ⟨rfl, ⟨rfl, rfl⟩, trivial⟩, ⟨rfl, rfl, rows_same⟩, ⟨rfl, rfl, rows_same⟩, trivial⟩, ⟨rfl, rfl⟩, ⟨rfl, rfl⟩, rfl, ⟨rfl, rfl⟩, rfl, rfl, trivial⟩
  · replace h := condT h
    cases v67
    · replace h := condF h
      conv => whnf
      refine Choice.new ?_
      conv => whnf
      refine Req.of (rfl) ?_
      conv => whnf
      obtain ⟨y230, e231, h⟩ := bind_ex h
      refine MarkOk.of (laws_markWord_ct e231) ?_
      conv => whnf
      obtain ⟨g232, h⟩ := req_ex h
      exact CutK.piece (laws_FnExactOppositeWord_p11_ct  h) [some 64, some 256, some 448, some 1109000, some 1109002] [] ⟨⟨rfl, rfl⟩, ⟨rfl, ⟨rfl, rfl, trivial⟩, ⟨rfl, ⟨rfl, rfl⟩, trivial⟩, ⟨rfl, ⟨rfl, rfl⟩, trivial⟩, ⟨rfl, rfl, rows_same⟩, ⟨rfl, rfl, rows_same⟩, trivial⟩, ⟨rfl, rfl⟩, ⟨rfl, rfl⟩, rfl, ⟨rfl, rfl⟩, rfl, rfl, trivial⟩
    · replace h := condT h
      conv => whnf
      refine Choice.new ?_
      conv => whnf
      refine Req.of (rfl) ?_
      conv => whnf
      obtain ⟨y233, e234, h⟩ := bind_ex h
      refine MarkOk.of (laws_markWord_ct e234) ?_
      conv => whnf
      obtain ⟨g235, h⟩ := req_ex h
      exact CutK.piece (laws_FnExactOppositeWord_p11_ct  h) [some 64, some 256, some 448, some 1109000, some 1109002] [] ⟨⟨rfl, rfl⟩, ⟨rfl, ⟨rfl, rfl, trivial⟩, ⟨rfl, ⟨rfl, rfl⟩, trivial⟩, ⟨rfl, ⟨rfl, rfl⟩, trivial⟩, ⟨rfl, rfl, rows_same⟩, ⟨rfl, rfl, rows_same⟩, trivial⟩, ⟨rfl, rfl⟩, ⟨rfl, rfl⟩, rfl, ⟨rfl, rfl⟩, rfl, rfl, trivial⟩
def laws_FnExactOppositeWord_p8 (k : Nat) (a1 : Rw) (o34 : Rw) (o35 : Rw) (o36 : Rw) (v46 : Bool) (v47 : Bool) : Option Bool :=
  (cond v46 (cond v47 ((laws_toWord k a1).bind fun y251 => ((laws_eqWord k o35 y251).bind fun y253 => (if y253 = true then (laws_FnExactOppositeWord_p9 k a1 o34 o35 o36 true true) else some false))) ((laws_toWord k a1).bind fun y246 => ((laws_eqWord k o35 y246).bind fun y248 => (if y248 = true then (laws_FnExactOppositeWord_p9 k a1 o34 o35 o36 false true) else some false)))) (cond v47 ((laws_toWord k a1).bind fun y241 => ((laws_eqWord k o35 y241).bind fun y243 => (if y243 = true then (laws_FnExactOppositeWord_p9 k a1 o34 o35 o36 true false) else some false))) ((laws_toWord k a1).bind fun y236 => ((laws_eqWord k o35 y236).bind fun y238 => (if y238 = true then (laws_FnExactOppositeWord_p9 k a1 o34 o35 o36 false false) else some false)))))
set_option maxHeartbeats 4000000 in
set_option maxRecDepth 100000 in
theorem laws_FnExactOppositeWord_p8_ct {k : Nat} {a1 : Rw} {o34 : Rw} {o35 : Rw} {o36 : Rw} {v46 : Bool} {v47 : Bool} {r : Bool} (h : laws_FnExactOppositeWord_p8 k a1 o34 o35 o36 v46 v47 = some r) : X prog 0 (tlF f10 8) (mk 96 [(1, .ptr 64 0), (4, .ptr 256 0), (5, .d (D.bool v46)), (6, .ptr 384 0), (7, .ptr 448 0), (8, .d (D.bool v47))] [(64, .box 57 [.d (D.sl a1)]), (256, .box 61 [.os 1104000 o34.length]), (384, .box 61 [.os 1104001 o35.length]), (448, .box 61 [.os 1104002 o36.length]), (1104000, .arr 150 true o34), (1104001, .arr 150 true o35), (1104002, .arr 150 true o36)]) (finK prog f10 0 (.d (D.bool r)) (⟨[], []⟩)) := by
  rw [laws_FnExactOppositeWord_p8] at h
  cases v46
  · replace h := condF h
    cases v47
    · replace h := condF h
      conv => whnf
      obtain ⟨y236, e237, h⟩ := bind_ex h
      refine CallOk.of (laws_toWord_ct e237) ?_
      conv => whnf
      refine Take.all (rfl) ?_
      conv => whnf
      refine Take.all (rfl) ?_
      conv => whnf
      obtain ⟨y238, e239, h⟩ := bind_ex h
      refine CallOk.of (laws_eqWord_ct e239) ?_
      conv => whnf
      refine spl (fun g240 => ?_) (fun g240 => ?_)
      · replace h := iteT h g240
        conv => whnf
        refine CutK.norm [1, 4, 5, 6, 7, 8, 45] [64, 256, 384, 448, 1104000, 1104001, 1104002] ?_
        conv => whnf
        exact CutK.piece (laws_FnExactOppositeWord_p9_ct  h) [some 64, some 256, some 384, some 448, some 1104000, some 1104001, some 1104002] [] ⟨⟨rfl, rfl⟩, ⟨rfl, ⟨rfl, rfl, trivial⟩, ⟨rfl, ⟨rfl, rfl⟩, trivial⟩, ⟨rfl, ⟨rfl, rfl⟩, trivial⟩, ⟨rfl, ⟨rfl, rfl⟩, trivial⟩, ⟨rfl, rfl, rows_same⟩, ⟨rfl, rfl, rows_same⟩, ⟨rfl, rfl, rows_same⟩, trivial⟩, ⟨rfl, rfl⟩, ⟨rfl, rfl⟩, rfl, ⟨rfl, rfl⟩, ⟨rfl, rfl⟩, rfl, trivial⟩
      · replace h := iteF h g240
        conv => whnf
        refine CutK.norm [1, 4, 5, 6, 7, 8, 45] [64, 256, 384, 448, 1104000, 1104001, 1104002] ?_
        conv => whnf
        cases h
        exact Done.of [] [] rfl rfl ⟨⟨rfl, rfl⟩, ⟨rfl, trivial⟩, rfl, trivial⟩
    · replace h := condT h
      conv => whnf
      obtain ⟨y241, e242, h⟩ := bind_ex h
      refine CallOk.of (laws_toWord_ct e242) ?_
      conv => whnf
      refine Take.all (rfl) ?_
      conv => whnf
      refine Take.all (rfl) ?_
      conv => whnf
      obtain ⟨y243, e244, h⟩ := bind_ex h
      refine CallOk.of (laws_eqWord_ct e244) ?_
      conv => whnf
      refine spl (fun g245 => ?_) (fun g245 => ?_)
      · replace h := iteT h g245
        conv => whnf
        refine CutK.norm [1, 4, 5, 6, 7, 8, 45] [64, 256, 384, 448, 1104000, 1104001, 1104002] ?_
        conv => whnf
        exact CutK.piece (laws_FnExactOppositeWord_p9_ct  h) [some 64, some 256, some 384, some 448, some 1104000, some 1104001, some 1104002] [] ⟨⟨rfl, rfl⟩, ⟨rfl, ⟨rfl, rfl, trivial⟩, ⟨rfl, ⟨rfl, rfl⟩, trivial⟩, ⟨rfl, ⟨rfl, rfl⟩, trivial⟩, ⟨rfl, ⟨rfl, rfl⟩, trivial⟩, ⟨rfl, rfl, rows_same⟩, ⟨rfl, rfl, rows_same⟩, ⟨rfl, rfl, rows_same⟩, trivial⟩, ⟨rfl, rfl⟩, ⟨rfl, rfl⟩, rfl, ⟨rfl, rfl⟩, ⟨rfl, rfl⟩, rfl, trivial⟩
      · replace h := iteF h g245
        conv => whnf
        refine CutK.norm [1, 4, 5, 6, 7, 8, 45] [64, 256, 384, 448, 1104000, 1104001, 1104002] ?_
        conv => whnf
        cases h
        exact Done.of [] [] rfl rfl ⟨⟨rfl, rfl⟩, ⟨rfl, trivial⟩, rfl, trivial⟩
  · replace h := condT h
    cases v47
    · replace h := condF h
      conv => whnf
      obtain ⟨y246, e247, h⟩ := bind_ex h
      refine CallOk.of (laws_toWord_ct e247) ?_
      conv => whnf
      refine Take.all (rfl) ?_
      conv => whnf
      refine Take.all (rfl) ?_
      conv => whnf
      obtain ⟨y248, e249, h⟩ := bind_ex h
      refine CallOk.of (laws_eqWord_ct e249) ?_
      conv => whnf
      refine spl (fun g250 => ?_) (fun g250 => ?_)
      · replace h := iteT h g250
        conv => whnf
        refine CutK.norm [1, 4, 5, 6, 7, 8, 45] [64, 256, 384, 448, 1104000, 1104001, 1104002] ?_
        conv => whnf
        exact CutK.piece (laws_FnExactOppositeWord_p9_ct  h) [some 64, some 256, some 384, some 448, some 1104000, some 1104001, some 1104002] [] ⟨⟨rfl, rfl⟩, ⟨rfl, ⟨rfl, rfl, trivial⟩, ⟨rfl, ⟨rfl, rfl⟩, trivial⟩, ⟨rfl, ⟨rfl, rfl⟩, trivial⟩, ⟨rfl, ⟨rfl, rfl⟩, trivial⟩, ⟨rfl, rfl, rows_same⟩, ⟨rfl, rfl, rows_same⟩, ⟨rfl, rfl, rows_same⟩, trivial⟩, ⟨rfl, rfl⟩, ⟨rfl, rfl⟩, rfl, ⟨rfl, rfl⟩, ⟨rfl, rfl⟩, rfl, trivial⟩
      · replace h := iteF h g250
        conv => whnf
        refine CutK.norm [1, 4, 5, 6, 7, 8, 45] [64, 256, 384, 448, 1104000, 1104001, 1104002] ?_
        conv => whnf
        cases h
        exact Done.of [] [] rfl rfl ⟨⟨rfl, rfl⟩, ⟨rfl, trivial⟩, rfl, trivial⟩
    · replace h := condT h
      conv => whnf
      obtain ⟨y251, e252, h⟩ := bind_ex h
      refine CallOk.of (laws_toWord_ct e252) ?_
      conv => whnf
      refine Take.all (rfl) ?_
      conv => whnf
      refine Take.all (rfl) ?_
      conv => whnf
      obtain ⟨y253, e254, h⟩ := bind_ex h
      refine CallOk.of (laws_eqWord_ct e254) ?_
      conv => whnf
      refine spl (fun g255 => ?_) (fun g255 => ?_)
      · replace h := iteT h g255
        conv => whnf
        refine CutK.norm [1, 4, 5, 6, 7, 8, 45] [64, 256, 384, 448, 1104000, 1104001, 1104002] ?_
        conv => whnf
        exact CutK.piece (laws_FnExactOppositeWord_p9_ct  h) [some 64, some 256, some 384, some 448, some 1104000, some 1104001, some 1104002] [] ⟨⟨rfl, rfl⟩, ⟨rfl, ⟨rfl, rfl, trivial⟩, ⟨rfl, ⟨rfl, rfl⟩, trivial⟩, ⟨rfl, ⟨rfl, rfl⟩, trivial⟩, ⟨rfl, ⟨rfl, rfl⟩, trivial⟩, ⟨rfl, rfl, rows_same⟩, ⟨rfl, rfl, rows_same⟩, ⟨rfl, rfl, rows_same⟩, trivial⟩, ⟨rfl, rfl⟩, ⟨rfl, rfl⟩, rfl, ⟨rfl, rfl⟩, ⟨rfl, rfl⟩, rfl, trivial⟩
      · replace h := iteF h g255
        conv => whnf
        refine CutK.norm [1, 4, 5, 6, 7, 8, 45] [64, 256, 384, 448, 1104000, 1104001, 1104002] ?_
        conv => whnf
        cases h
        exact Done.of [] [] rfl rfl ⟨⟨rfl, rfl⟩, ⟨rfl, trivial⟩, rfl, trivial⟩
def laws_FnExactOppositeWord_p7 (k : Nat) (a1 : Rw) (o23 : Rw) (o24 : Rw) (o25 : Rw) (v26 : Bool) (v30 : Bool) : Option Bool :=
  (cond v26 (cond v30 ((laws_eqWord k o25 o23).bind fun y265 => (if y265 = true then (laws_FnExactOppositeWord_p8 k a1 o23 o24 o25 true true) else some false)) ((laws_eqWord k o25 o23).bind fun y262 => (if y262 = true then some false else some false))) (cond v30 ((laws_eqWord k o25 o23).bind fun y259 => (if y259 = true then some false else some false)) ((laws_eqWord k o25 o23).bind fun y256 => (if y256 = true then (laws_FnExactOppositeWord_p8 k a1 o23 o24 o25 false false) else some false))))
set_option maxHeartbeats 4000000 in
set_option maxRecDepth 100000 in
theorem laws_FnExactOppositeWord_p7_ct {k : Nat} {a1 : Rw} {o23 : Rw} {o24 : Rw} {o25 : Rw} {v26 : Bool} {v30 : Bool} {r : Bool} (h : laws_FnExactOppositeWord_p7 k a1 o23 o24 o25 v26 v30 = some r) : X prog 0 (tlF f10 7) (mk 96 [(1, .ptr 64 0), (4, .ptr 256 0), (5, .d (D.bool v30)), (6, .ptr 384 0), (7, .ptr 448 0), (8, .d (D.bool v26))] [(64, .box 57 [.d (D.sl a1)]), (256, .box 61 [.os 1099000 o23.length]), (384, .box 61 [.os 1099001 o24.length]), (448, .box 61 [.os 1099002 o25.length]), (1099000, .arr 150 true o23), (1099001, .arr 150 true o24), (1099002, .arr 150 true o25)]) (finK prog f10 0 (.d (D.bool r)) (⟨[], []⟩)) := by
  rw [laws_FnExactOppositeWord_p7] at h
  cases v26
  · replace h := condF h
    cases v30
    · replace h := condF h
      conv => whnf
      refine Take.all (rfl) ?_
      conv => whnf
      refine Take.all (rfl) ?_
      conv => whnf
      obtain ⟨y256, e257, h⟩ := bind_ex h
      refine CallOk.of (laws_eqWord_ct e257) ?_
      conv => whnf
      refine spl (fun g258 => ?_) (fun g258 => ?_)
      · replace h := iteT h g258
        conv => whnf
        refine splF ?_
        conv => whnf
        refine CutK.norm [1, 4, 5, 6, 7, 8, 40] [64, 256, 384, 448, 1099000, 1099001, 1099002] ?_
        conv => whnf
        exact CutK.piece (laws_FnExactOppositeWord_p8_ct  h) [some 64, some 256, some 384, some 448, some 1099000, some 1099001, some 1099002] [] ⟨⟨rfl, rfl⟩, ⟨rfl, ⟨rfl, rfl, trivial⟩, ⟨rfl, ⟨rfl, rfl⟩, trivial⟩, ⟨rfl, ⟨rfl, rfl⟩, trivial⟩, ⟨rfl, ⟨rfl, rfl⟩, trivial⟩, ⟨rfl, rfl, rows_same⟩, ⟨rfl, rfl, rows_same⟩, ⟨rfl, rfl, rows_same⟩, trivial⟩, ⟨rfl, rfl⟩, ⟨rfl, rfl⟩, rfl, ⟨rfl, rfl⟩, ⟨rfl, rfl⟩, rfl, trivial⟩
      · replace h := iteF h g258
        conv => whnf
        refine CutK.norm [1, 4, 5, 6, 7, 8, 40] [64, 256, 384, 448, 1099000, 1099001, 1099002] ?_
        conv => whnf
        cases h
        exact Done.of [] [] rfl rfl ⟨⟨rfl, rfl⟩, ⟨rfl, trivial⟩, rfl, trivial⟩
    · replace h := condT h
      conv => whnf
      refine Take.all (rfl) ?_
      conv => whnf
      refine Take.all (rfl) ?_
      conv => whnf
      obtain ⟨y259, e260, h⟩ := bind_ex h
      refine CallOk.of (laws_eqWord_ct e260) ?_
      conv => whnf
      refine spl (fun g261 => ?_) (fun g261 => ?_)
      · replace h := iteT h g261
        conv => whnf
        refine splT ?_
        conv => whnf
        refine CutK.norm [1, 4, 5, 6, 7, 8, 40] [64, 256, 384, 448, 1099000, 1099001, 1099002] ?_
        conv => whnf
        cases h
        exact Done.of [] [] rfl rfl ⟨⟨rfl, rfl⟩, ⟨rfl, trivial⟩, rfl, trivial⟩
      · replace h := iteF h g261
        conv => whnf
        refine CutK.norm [1, 4, 5, 6, 7, 8, 40] [64, 256, 384, 448, 1099000, 1099001, 1099002] ?_
        conv => whnf
        cases h
        exact Done.of [] [] rfl rfl ⟨⟨rfl, rfl⟩, ⟨rfl, trivial⟩, rfl, trivial⟩
  · replace h := condT h
    cases v30
    · replace h := condF h
      conv => whnf
      refine Take.all (rfl) ?_
      conv => whnf
      refine Take.all (rfl) ?_
      conv => whnf
      obtain ⟨y262, e263, h⟩ := bind_ex h
      refine CallOk.of (laws_eqWord_ct e263) ?_
      conv => whnf
      refine spl (fun g264 => ?_) (fun g264 => ?_)
      · replace h := iteT h g264
        conv => whnf
        refine splT ?_
        conv => whnf
        refine CutK.norm [1, 4, 5, 6, 7, 8, 40] [64, 256, 384, 448, 1099000, 1099001, 1099002] ?_
        conv => whnf
        cases h
        exact Done.of [] [] rfl rfl ⟨⟨rfl, rfl⟩, ⟨rfl, trivial⟩, rfl, trivial⟩
      · replace h := iteF h g264
        conv => whnf
        refine CutK.norm [1, 4, 5, 6, 7, 8, 40] [64, 256, 384, 448, 1099000, 1099001, 1099002] ?_
        conv => whnf
        cases h
        exact Done.of [] [] rfl rfl ⟨⟨rfl, rfl⟩, ⟨rfl, trivial⟩, rfl, trivial⟩
    · replace h := condT h
      conv => whnf
      refine Take.all (rfl) ?_
      conv => whnf
      refine Take.all (rfl) ?_
      conv => whnf
      obtain ⟨y265, e266, h⟩ := bind_ex h
      refine CallOk.of (laws_eqWord_ct e266) ?_
      conv => whnf
      refine spl (fun g267 => ?_) (fun g267 => ?_)
      · replace h := iteT h g267
        conv => whnf
        refine splF ?_
        conv => whnf
        refine CutK.norm [1, 4, 5, 6, 7, 8, 40] [64, 256, 384, 448, 1099000, 1099001, 1099002] ?_
        conv => whnf
        exact CutK.piece (laws_FnExactOppositeWord_p8_ct  h) [some 64, some 256, some 384, some 448, some 1099000, some 1099001, some 1099002] [] ⟨⟨rfl, rfl⟩, ⟨rfl, ⟨rfl, rfl, trivial⟩, ⟨rfl, ⟨rfl, rfl⟩, trivial⟩, ⟨rfl, ⟨rfl, rfl⟩, trivial⟩, ⟨rfl, ⟨rfl, rfl⟩, trivial⟩, ⟨rfl, rfl, rows_same⟩, ⟨rfl, rfl, rows_same⟩, ⟨rfl, rfl, rows_same⟩, trivial⟩, ⟨rfl, rfl⟩, ⟨rfl, rfl⟩, rfl, ⟨rfl, rfl⟩, ⟨rfl, rfl⟩, rfl, trivial⟩
      · replace h := iteF h g267
        conv => whnf
        refine CutK.norm [1, 4, 5, 6, 7, 8, 40] [64, 256, 384, 448, 1099000, 1099001, 1099002] ?_
        conv => whnf
        cases h
        exact Done.of [] [] rfl rfl ⟨⟨rfl, rfl⟩, ⟨rfl, trivial⟩, rfl, trivial⟩
def laws_FnExactOppositeWord_p6 (k : Nat) (a1 : Rw) (o15 : Rw) (o16 : Rw) (v19 : Bool) : Option Bool :=
  (cond v19 ((impl_OppositeWord k o16).bind fun y271 => (if y271.2 = true then (laws_FnExactOppositeWord_p7 k a1 o15 o16 y271.1 true true) else (laws_FnExactOppositeWord_p7 k a1 o15 o16 y271.1 false true))) ((impl_OppositeWord k o16).bind fun y268 => (if y268.2 = true then (laws_FnExactOppositeWord_p7 k a1 o15 o16 y268.1 true false) else (laws_FnExactOppositeWord_p7 k a1 o15 o16 y268.1 false false))))
set_option maxHeartbeats 4000000 in
set_option maxRecDepth 100000 in
theorem laws_FnExactOppositeWord_p6_ct {k : Nat} {a1 : Rw} {o15 : Rw} {o16 : Rw} {v19 : Bool} {r : Bool} (h : laws_FnExactOppositeWord_p6 k a1 o15 o16 v19 = some r) : X prog 0 (tlF f10 6) (mk 96 [(1, .ptr 64 0), (4, .ptr 256 0), (5, .d (D.bool v19)), (6, .ptr 384 0)] [(64, .box 57 [.d (D.sl a1)]), (256, .box 61 [.os 1094000 o15.length]), (384, .box 61 [.os 1094001 o16.length]), (1094000, .arr 150 true o15), (1094001, .arr 150 true o16)]) (finK prog f10 0 (.d (D.bool r)) (⟨[], []⟩)) := by
  rw [laws_FnExactOppositeWord_p6] at h
  cases v19
  · replace h := condF h
    conv => whnf
    refine Take.all (rfl) ?_
    conv => whnf
    obtain ⟨y268, e269, h⟩ := bind_ex h
    refine CallOk.of (impl_OppositeWord_ct e269) ?_
    conv => whnf
    refine spl (fun g270 => ?_) (fun g270 => ?_)
    · replace h := iteT h g270
      conv => whnf
      exact CutK.piece (laws_FnExactOppositeWord_p7_ct  h) [some 64, some 256, some 384, some 448, some 1094000, some 1094001, some 1856] [] ⟨⟨rfl, rfl⟩, ⟨rfl, ⟨rfl, rfl, trivial⟩, ⟨rfl, ⟨rfl, rfl⟩, trivial⟩, ⟨rfl, ⟨rfl, rfl⟩, trivial⟩, ⟨rfl, ⟨rfl, rfl⟩, trivial⟩, ⟨rfl, rfl, rows_same⟩, ⟨rfl, rfl, rows_same⟩, ⟨rfl, rfl, rows_same⟩, trivial⟩, ⟨rfl, rfl⟩, ⟨rfl, rfl⟩, rfl, ⟨rfl, rfl⟩, ⟨rfl, rfl⟩, rfl, trivial⟩
    · replace h := iteF h g270
      conv => whnf
      exact CutK.piece (laws_FnExactOppositeWord_p7_ct  h) [some 64, some 256, some 384, some 448, some 1094000, some 1094001, some 1856] [] ⟨⟨rfl, rfl⟩, ⟨rfl, ⟨rfl, rfl, trivial⟩, ⟨rfl, ⟨rfl, rfl⟩, trivial⟩, ⟨rfl, ⟨rfl, rfl⟩, trivial⟩, ⟨rfl, ⟨rfl, rfl⟩, trivial⟩, ⟨rfl, rfl, rows_same⟩, ⟨rfl, rfl, rows_same⟩, ⟨rfl, rfl, rows_same⟩, trivial⟩, ⟨rfl, rfl⟩, ⟨rfl, rfl⟩, rfl, ⟨rfl, rfl⟩, ⟨rfl, rfl⟩, rfl, trivial⟩
  · replace h := condT h
    conv => whnf
    refine Take.all (rfl) ?_
    conv => whnf
    obtain ⟨y271, e272, h⟩ := bind_ex h
    refine CallOk.of (impl_OppositeWord_ct e272) ?_
    conv => whnf
    refine spl (fun g273 => ?_) (fun g273 => ?_)
    · replace h := iteT h g273
      conv => whnf
      exact CutK.piece (laws_FnExactOppositeWord_p7_ct  h) [some 64, some 256, some 384, some 448, some 1094000, some 1094001, some 1856] [] ⟨⟨rfl, rfl⟩, ⟨rfl, ⟨rfl, rfl, trivial⟩, ⟨rfl, ⟨rfl, rfl⟩, trivial⟩, ⟨rfl, ⟨rfl, rfl⟩, trivial⟩, ⟨rfl, ⟨rfl, rfl⟩, trivial⟩, ⟨rfl, rfl, rows_same⟩, ⟨rfl, rfl, rows_same⟩, ⟨rfl, rfl, rows_same⟩, trivial⟩, ⟨rfl, rfl⟩, ⟨rfl, rfl⟩, rfl, ⟨rfl, rfl⟩, ⟨rfl, rfl⟩, rfl, trivial⟩
    · replace h := iteF h g273
      conv => whnf
      exact CutK.piece (laws_FnExactOppositeWord_p7_ct  h) [some 64, some 256, some 384, some 448, some 1094000, some 1094001, some 1856] [] ⟨⟨rfl, rfl⟩, ⟨rfl, ⟨rfl, rfl, trivial⟩, ⟨rfl, ⟨rfl, rfl⟩, trivial⟩, ⟨rfl, ⟨rfl, rfl⟩, trivial⟩, ⟨rfl, ⟨rfl, rfl⟩, trivial⟩, ⟨rfl, rfl, rows_same⟩, ⟨rfl, rfl, rows_same⟩, ⟨rfl, rfl, rows_same⟩, trivial⟩, ⟨rfl, rfl⟩, ⟨rfl, rfl⟩, rfl, ⟨rfl, rfl⟩, ⟨rfl, rfl⟩, rfl, trivial⟩
def laws_FnExactOppositeWord_p5 (k : Nat) (a1 : Rw) (o11 : Rw) (v12 : Bool) : Option Bool :=
  (cond v12 ((laws_toWord k a1).bind fun y276 => (laws_FnExactOppositeWord_p6 k a1 o11 y276 true)) ((laws_toWord k a1).bind fun y274 => (laws_FnExactOppositeWord_p6 k a1 o11 y274 false)))
set_option maxHeartbeats 4000000 in
set_option maxRecDepth 100000 in
theorem laws_FnExactOppositeWord_p5_ct {k : Nat} {a1 : Rw} {o11 : Rw} {v12 : Bool} {r : Bool} (h : laws_FnExactOppositeWord_p5 k a1 o11 v12 = some r) : X prog 0 (tlF f10 5) (mk 96 [(1, .ptr 64 0), (4, .ptr 256 0), (5, .d (D.bool v12))] [(64, .box 57 [.d (D.sl a1)]), (256, .box 61 [.os 1089000 o11.length]), (1089000, .arr 150 true o11)]) (finK prog f10 0 (.d (D.bool r)) (⟨[], []⟩)) := by
  rw [laws_FnExactOppositeWord_p5] at h
  cases v12
  · replace h := condF h
    conv => whnf
    obtain ⟨y274, e275, h⟩ := bind_ex h
    refine CallOk.of (laws_toWord_ct e275) ?_
    conv => whnf
    exact CutK.piece (laws_FnExactOppositeWord_p6_ct  h) [some 64, some 256, some 384, some 1089000, some 1664] [] ⟨⟨rfl, rfl⟩, ⟨rfl, ⟨rfl, rfl, trivial⟩, ⟨rfl, ⟨rfl, rfl⟩, trivial⟩, ⟨rfl, ⟨rfl, rfl⟩, trivial⟩, ⟨rfl, rfl, rows_same⟩, ⟨rfl, rfl, rows_same⟩, trivial⟩, ⟨rfl, rfl⟩, ⟨rfl, rfl⟩, rfl, ⟨rfl, rfl⟩, trivial⟩
  · replace h := condT h
    conv => whnf
    obtain ⟨y276, e277, h⟩ := bind_ex h
    refine CallOk.of (laws_toWord_ct e277) ?_
    conv => whnf
    exact CutK.piece (laws_FnExactOppositeWord_p6_ct  h) [some 64, some 256, some 384, some 1089000, some 1664] [] ⟨⟨rfl, rfl⟩, ⟨rfl, ⟨rfl, rfl, trivial⟩, ⟨rfl, ⟨rfl, rfl⟩, trivial⟩, ⟨rfl, ⟨rfl, rfl⟩, trivial⟩, ⟨rfl, rfl, rows_same⟩, ⟨rfl, rfl, rows_same⟩, trivial⟩, ⟨rfl, rfl⟩, ⟨rfl, rfl⟩, rfl, ⟨rfl, rfl⟩, trivial⟩
def laws_FnExactOppositeWord_p3 (k : Nat) (a1 : Rw) (o4 : Int) : Option Bool :=
  (if o4 < (0 : Int) then some true else ((laws_toWord k a1).bind fun y279 => ((spec_OppositeWord k y279).bind fun y281 => (if y281.2 = true then (laws_FnExactOppositeWord_p5 k a1 y281.1 true) else (laws_FnExactOppositeWord_p5 k a1 y281.1 false)))))
set_option maxHeartbeats 4000000 in
set_option maxRecDepth 100000 in
theorem laws_FnExactOppositeWord_p3_ct {k : Nat} {a1 : Rw} {o4 : Int} {r : Bool} (h : laws_FnExactOppositeWord_p3 k a1 o4 = some r) : X prog 0 (tlF f10 3) (mk 96 [(1, .ptr 64 0), (3, .d (D.int .i64 o4))] [(64, .box 57 [.d (D.sl a1)])]) (finK prog f10 0 (.d (D.bool r)) (⟨[], []⟩)) := by
  rw [laws_FnExactOppositeWord_p3] at h
  conv => whnf
  refine splD (fun g278 => ?_) (fun g278 => ?_)
  · replace h := iteP h g278
    conv => whnf
    cases h
    exact Done.of [] [] rfl rfl ⟨⟨rfl, rfl⟩, ⟨rfl, trivial⟩, rfl, trivial⟩
  · replace h := iteN h g278
    conv => whnf
    obtain ⟨y279, e280, h⟩ := bind_ex h
    refine CallOk.of (laws_toWord_ct e280) ?_
    conv => whnf
    refine Take.all (rfl) ?_
    conv => whnf
    obtain ⟨y281, e282, h⟩ := bind_ex h
    refine CallOk.of (spec_OppositeWord_ct e282) ?_
    conv => whnf
    refine spl (fun g283 => ?_) (fun g283 => ?_)
    · replace h := iteT h g283
      conv => whnf
      exact CutK.piece (laws_FnExactOppositeWord_p5_ct  h) [some 64, some 256, some 1408] [] ⟨⟨rfl, rfl⟩, ⟨rfl, ⟨rfl, rfl, trivial⟩, ⟨rfl, ⟨rfl, rfl⟩, trivial⟩, ⟨rfl, rfl, rows_same⟩, trivial⟩, ⟨rfl, rfl⟩, ⟨rfl, rfl⟩, rfl, trivial⟩
    · replace h := iteF h g283
      conv => whnf
      exact CutK.piece (laws_FnExactOppositeWord_p5_ct  h) [some 64, some 256, some 1408] [] ⟨⟨rfl, rfl⟩, ⟨rfl, ⟨rfl, rfl, trivial⟩, ⟨rfl, ⟨rfl, rfl⟩, trivial⟩, ⟨rfl, rfl, rows_same⟩, trivial⟩, ⟨rfl, rfl⟩, ⟨rfl, rfl⟩, rfl, trivial⟩
def laws_FnExactOppositeWord (k : Nat) (a1 : Rw) : Option Bool :=
  ((laws_szWord k a1 1048576).bind fun y284 => (laws_FnExactOppositeWord_p3 k a1 y284))
set_option maxHeartbeats 4000000 in
set_option maxRecDepth 100000 in
theorem laws_FnExactOppositeWord_ct {k : Nat} {a1 : Rw} {r : Bool} (h : laws_FnExactOppositeWord k a1 = some r) : Ct prog 10 [.agg [.d (D.sl a1)]] (⟨[], []⟩) (.d (D.bool r)) (⟨[], []⟩) := by
  rw [laws_FnExactOppositeWord] at h
  refine Ct.of (c := _) mixed func10 ⟨rfl, rfl, rfl⟩ ?_ rfl
  conv => whnf
  obtain ⟨y284, e285, h⟩ := bind_ex h
  refine CallOk.of (laws_szWord_ct e285) ?_
  conv => whnf
  exact CutK.piece (laws_FnExactOppositeWord_p3_ct  h) [some 64] [] ⟨⟨rfl, rfl⟩, ⟨rfl, ⟨rfl, rfl, trivial⟩, trivial⟩, ⟨rfl, rfl⟩, rfl, trivial⟩

def laws_heldOrdinal (k : Nat) (a1 : Rw) (a2 : Int) : Option Int :=
  ((laws_heldOrdinalTermS k a1 a2).bind fun y3 => (if y3 < (0 : Int) then some (-1) else some y3))
set_option maxHeartbeats 4000000 in
set_option maxRecDepth 100000 in
theorem laws_heldOrdinal_ct {k : Nat} {a1 : Rw} {a2 : Int} {r : Int} (h : laws_heldOrdinal k a1 a2 = some r) : Ct prog 33 [.agg [.d (D.sl a1)], .d (D.int .i64 a2)] (⟨[], []⟩) (.d (D.int .i64 r)) (⟨[], []⟩) := by
  rw [laws_heldOrdinal] at h
  refine Ct.of (c := _) mixed func33 ⟨rfl, rfl, rfl⟩ ?_ rfl
  conv => whnf
  obtain ⟨y3, e4, h⟩ := bind_ex h
  refine CallOk.of (laws_heldOrdinalTermS_ct e4) ?_
  conv => whnf
  refine CutK.go ?_
  conv => whnf
  refine splD (fun g5 => ?_) (fun g5 => ?_)
  · replace h := iteP h g5
    conv => whnf
    cases h
    exact Done.of [] [] rfl rfl ⟨⟨rfl, rfl⟩, ⟨rfl, trivial⟩, rfl, trivial⟩
  · replace h := iteN h g5
    conv => whnf
    cases h
    exact Done.of [] [] rfl rfl ⟨⟨rfl, rfl⟩, ⟨rfl, trivial⟩, rfl, trivial⟩

def impl_plus_p4 (a2 : Rw) (o58 : Rw) : Option Rw :=
  (if o58.length + a2.length ≤ cap ∧ (∀ cs ∈ a2, cs.length = 2) then some (o58 ++ a2) else none)
set_option maxHeartbeats 4000000 in
set_option maxRecDepth 100000 in
theorem impl_plus_p4_ct {a2 : Rw} {o58 : Rw} {r : Rw} (h : impl_plus_p4 a2 o58 = some r) : X prog 0 (tlF f80 4) (mk 69 [(3, .ptr 192 0), (4, .ptr 256 0), (5, .ptr 320 0)] [(192, .box 26 [.d (D.sl a2)]), (256, .box 26 [.es]), (320, .box 26 [.os 1084000 o58.length]), (1084000, .arr 98 false o58)]) (finK prog f80 0 (.agg [.d (D.sl r)]) (⟨[], []⟩)) := by
  rw [impl_plus_p4] at h
  conv => whnf
  refine Take.all (rfl) ?_
  conv => whnf
  obtain ⟨g60, h⟩ := req_ex h
  refine Req.of (room (b := 32) (by decide) g60.1 g60.2) ?_
  conv => whnf
  cases h
  exact Done.of [] [4224] rfl rfl ⟨⟨rfl, rfl⟩, ⟨rfl, trivial⟩, ⟨⟨rfl, Nat.le_of_eq (by first | rfl | exact List.length_append.symm | (simp; done) | omega), eq_take (by first | rfl | exact List.length_append.symm | (simp; done) | omega)⟩, trivial⟩, trivial⟩
def impl_plus_l0 (k : Nat) (a1 : Rw) (a2 : Rw) (K0 : Rw → Option Rw) : Rw → Rw → Option Rw
  | [], v74 => (K0 v74)
  | cs :: rest, v74 => (cell_si cs fun x113 x114 => (row_si a2 0 fun x116 x117 => ((impl_cmp k x113 x116).bind fun y120 => (if y120 = (1 : Int) then (if v74.length + 1 ≤ cap then (impl_plus_l0 k a1 a2 K0 rest (v74 ++ ([[D.sl x113, D.int .i64 x114]]))) else none) else (if y120 = (0 : Int) then (if v74.length + 1 ≤ cap then (if 0 ≤ (1 : Int) ∧ (1 : Int) ≤ (a2.length : Int) ∧ (∀ cs ∈ a2, cs.length = 2) then (if (v74 ++ ([[D.sl x113, D.int .i64 (IntKind.i64.wrap (x114 + x117))]])).length + (a2.drop (1 : Int).toNat).length ≤ cap ∧ (∀ cs ∈ (a2.drop (1 : Int).toNat), cs.length = 2) then some ((v74 ++ ([[D.sl x113, D.int .i64 (IntKind.i64.wrap (x114 + x117))]])) ++ (a2.drop (1 : Int).toNat)) else none) else none) else none) else (impl_plus_l0 k a1 a2 K0 rest v74))))))
set_option maxRecDepth 100000 in
theorem impl_plus_l0_ct {k : Nat} {a1 : Rw} {a2 : Rw} {K0 : Rw → Option Rw} {r : Rw} (hx : a1.length ≤ cap) : ∀ (rest : Rw) (v73n : Nat) (v74 : Rw), a1.drop v73n = rest → impl_plus_l0 k a1 a2 K0 rest v74 = some r → LoopOk prog 0 (lp f80 0) (mk 69 [(3, .ptr 192 0), (4, .ptr 256 0), (5, .ptr 320 0), (13, .d (D.sl a1)), (14, .d (D.int .i64 (a1.length : Int))), (15, .d (D.int .i64 (v73n : Int)))] [(192, .box 26 [.d (D.sl a2)]), (256, .box 26 [.es]), (320, .box 26 [.os 64000 v74.length]), (64000, .arr 98 false v74)]) (LoopEnd prog f80 0 69 (.agg [.d (D.sl r)]) (⟨[], []⟩) (fun i ts os => (i = 0 ∧ ∃ v95 : Rw, K0 v95 = some r ∧ ts = [(3, .ptr 192 0), (4, .ptr 256 0), (5, .ptr 320 0)] ∧ os = [(192, .box 26 [.d (D.sl a2)]), (256, .box 26 [.es]), (320, .box 26 [.os 67001 v95.length]), (67001, .arr 98 false v95)])))
  | [], v73n, v74, hd, h => by
      rw [impl_plus_l0] at h
      have hn := drop_nil hd
      refine LoopOk.step ?_
      conv => whnf
      refine splD (fun g => absurd g hn) (fun _ => ?_)
      conv => whnf
      exact ⟨_, _, [some 192, some 256, some 320, some 64000], [], ⟨rfl, _, h, rfl, rfl⟩, ⟨⟨rfl, rfl⟩, ⟨rfl, ⟨rfl, rfl, trivial⟩, ⟨rfl, trivial, trivial⟩, ⟨rfl, ⟨rfl, rfl⟩, trivial⟩, ⟨rfl, rfl, rows_same⟩, trivial⟩, ⟨rfl, rfl⟩, ⟨rfl, rfl⟩, ⟨rfl, rfl⟩, trivial⟩⟩
  | cs :: rest, v73n, v74, hd, h => by
      rw [impl_plus_l0] at h
      obtain ⟨hrow, hd1, hlt⟩ := drop_cons hd
      refine LoopOk.step ?_
      conv => whnf
      refine splD (fun _ => ?_) (fun g => absurd hlt g)
      conv => whnf
      obtain ⟨x113, x114, e115, h⟩ := cell_si_ex h
      rw [e115] at hrow
      refine Req.of (Int.natCast_nonneg _) ?_
      refine Row.of _ hrow ?_
      conv => whnf
      obtain ⟨g119, x116, x117, e118, h⟩ := row_si_ex h
      refine Req.of g119 ?_
      refine Row.of _ e118 ?_
      conv => whnf
      obtain ⟨y120, e121, h⟩ := bind_ex h
      refine CallOk.of (impl_cmp_ct e121) ?_
      conv => whnf
      refine CutK.norm [3, 4, 5, 7, 13, 14, 15, 26] [192, 256, 320, 448, 64000] ?_
      conv => whnf
      refine splD (fun g122 => ?_) (fun g122 => ?_)
      · replace h := iteP h g122
        conv => whnf
        refine Take.all (rfl) ?_
        conv => whnf
        refine Take.all (by first | rfl | exact List.length_append.symm | (simp; done) | omega) ?_
        conv => whnf
        obtain ⟨g123, h⟩ := req_ex h
        refine Req.of (room (b := 32) (by decide) g123 (wide1 rfl wide0)) ?_
        conv => whnf
        refine CutK.norm [3, 4, 5, 13, 14, 15] [192, 256, 320, 2112] ?_
        conv => whnf
        exact LoopOk.back (impl_plus_l0_ct hx rest (v73n + 1) _ hd1 h) [some 192, some 256, some 320, some 2112] [] ⟨⟨rfl, rfl⟩, ⟨rfl, ⟨rfl, rfl, trivial⟩, ⟨rfl, trivial, trivial⟩, ⟨rfl, ⟨(by first | rfl | exact List.length_append.symm | (simp; done) | omega), rfl⟩, trivial⟩, ⟨rfl, rfl, rows_same⟩, trivial⟩, ⟨rfl, rfl⟩, ⟨rfl, rfl⟩, ⟨rfl, rfl⟩, rfl, rfl, i64eq (wrap_up hlt hx), trivial⟩
      · replace h := iteN h g122
        conv => whnf
        refine splD (fun g124 => ?_) (fun g124 => ?_)
        · replace h := iteP h g124
          conv => whnf
          refine Req.of g119 ?_
          refine Row.of _ e118 ?_
          conv => whnf
          refine Take.all (rfl) ?_
          conv => whnf
          refine Take.all (by first | rfl | exact List.length_append.symm | (simp; done) | omega) ?_
          conv => whnf
          obtain ⟨g125, h⟩ := req_ex h
          refine Req.of (room (b := 32) (by decide) g125 (wide1 rfl wide0)) ?_
          conv => whnf
          obtain ⟨g126, h⟩ := req_ex h
          refine Req.of g126 ?_
          conv => whnf
          refine Take.all (by first | rfl | exact List.length_append.symm | (simp; done) | omega) ?_
          conv => whnf
          obtain ⟨g127, h⟩ := req_ex h
          refine Req.of (room (b := 32) (by decide) g127.1 g127.2) ?_
          conv => whnf
          cases h
          exact Done.of [] [3712] rfl rfl ⟨⟨rfl, rfl⟩, ⟨rfl, trivial⟩, ⟨⟨rfl, Nat.le_of_eq (by first | rfl | exact List.length_append.symm | (simp; done) | omega), eq_take (by first | rfl | exact List.length_append.symm | (simp; done) | omega)⟩, trivial⟩, trivial⟩
        · replace h := iteN h g124
          conv => whnf
          refine CutK.norm [3, 4, 5, 13, 14, 15] [192, 256, 320, 64000] ?_
          conv => whnf
          exact LoopOk.back (impl_plus_l0_ct hx rest (v73n + 1) _ hd1 h) [some 192, some 256, some 320, some 64000] [] ⟨⟨rfl, rfl⟩, ⟨rfl, ⟨rfl, rfl, trivial⟩, ⟨rfl, trivial, trivial⟩, ⟨rfl, ⟨rfl, rfl⟩, trivial⟩, ⟨rfl, rfl, rows_same⟩, trivial⟩, ⟨rfl, rfl⟩, ⟨rfl, rfl⟩, ⟨rfl, rfl⟩, rfl, rfl, i64eq (wrap_up hlt hx), trivial⟩
def impl_plus_p2 (k : Nat) (a1 : Rw) (a2 : Rw) : Option Rw :=
  (if a1.length ≤ cap then (impl_plus_l0 k a1 a2 (fun (v95 : Rw) => (impl_plus_p4 a2 v95)) a1 ([] : Rw)) else none)
set_option maxHeartbeats 4000000 in
set_option maxRecDepth 100000 in
theorem impl_plus_p2_ct {k : Nat} {a1 : Rw} {a2 : Rw} {r : Rw} (h : impl_plus_p2 k a1 a2 = some r) : X prog 0 (tlF f80 2) (mk 69 [(2, .ptr 128 0), (3, .ptr 192 0), (4, .ptr 256 0)] [(128, .box 26 [.d (D.sl a1)]), (192, .box 26 [.d (D.sl a2)]), (256, .box 26 [.es])]) (finK prog f80 0 (.agg [.d (D.sl r)]) (⟨[], []⟩)) := by
  rw [impl_plus_p2] at h
  conv => whnf
  obtain ⟨g128, h⟩ := req_ex h
  refine LoopOk.into (impl_plus_l0_ct  g128 _ _ _ rfl h) [some 192, some 256, some 320, none] [] ⟨⟨rfl, rfl⟩, ⟨rfl, ⟨rfl, rfl, trivial⟩, ⟨rfl, trivial, trivial⟩, ⟨rfl, ⟨rfl, rfl⟩, trivial⟩, rfl, trivial⟩, ⟨rfl, rfl⟩, ⟨rfl, rfl⟩, ⟨rfl, rfl⟩, rfl, rfl, rfl, trivial⟩ ?_ (fun _ hs => hs)
  rintro i ts os ⟨rfl, v95, h, rfl, rfl⟩
  conv => whnf
  exact CutK.piece (impl_plus_p4_ct  h) [some 192, some 256, some 320, some 67001] [] ⟨⟨rfl, rfl⟩, ⟨rfl, ⟨rfl, rfl, trivial⟩, ⟨rfl, trivial, trivial⟩, ⟨rfl, ⟨rfl, rfl⟩, trivial⟩, ⟨rfl, rfl, rows_same⟩, trivial⟩, ⟨rfl, rfl⟩, ⟨rfl, rfl⟩, ⟨rfl, rfl⟩, trivial⟩
def impl_plus (k : Nat) (a1 : Rw) (a2 : Rw) : Option Rw :=
  ((impl_isZero a2).bind fun y129 => (if y129 = true then some a1 else (impl_plus_p2 k a1 a2)))
set_option maxHeartbeats 4000000 in
set_option maxRecDepth 100000 in
theorem impl_plus_ct {k : Nat} {a1 : Rw} {a2 : Rw} {r : Rw} (h : impl_plus k a1 a2 = some r) : Ct prog 80 [.agg [.d (D.sl a1)], .agg [.d (D.sl a2)]] (⟨[], []⟩) (.agg [.d (D.sl r)]) (⟨[], []⟩) := by
  rw [impl_plus] at h
  refine Ct.of (c := _) mixed func80 ⟨rfl, rfl, rfl⟩ ?_ rfl
  conv => whnf
  obtain ⟨y129, e130, h⟩ := bind_ex h
  refine CallOk.of (impl_isZero_ct e130) ?_
  conv => whnf
  refine spl (fun g131 => ?_) (fun g131 => ?_)
  · replace h := iteT h g131
    conv => whnf
    refine CutK.norm [2, 3, 4, 9] [128, 192, 256] ?_
    conv => whnf
    cases h
    exact Done.of [] [] rfl rfl ⟨⟨rfl, rfl⟩, ⟨rfl, trivial⟩, ⟨rfl, trivial⟩, trivial⟩
  · replace h := iteF h g131
    conv => whnf
    refine CutK.norm [2, 3, 4, 9] [128, 192, 256] ?_
    conv => whnf
    exact CutK.piece (impl_plus_p2_ct  h) [some 128, some 192, some 256] [] ⟨⟨rfl, rfl⟩, ⟨rfl, ⟨rfl, rfl, trivial⟩, ⟨rfl, rfl, trivial⟩, ⟨rfl, trivial, trivial⟩, trivial⟩, ⟨rfl, rfl⟩, ⟨rfl, rfl⟩, ⟨rfl, rfl⟩, trivial⟩

def impl_lengthOf_l0 (k : Nat) (a1 : Rw) (K0 : Rw → Option Rw) : Rw → Rw → Option Rw
  | [], v12 => (K0 v12)
  | cs :: rest, v12 => (cell_bs cs fun x36 x37 => (if x36 = true then ((impl_plus k v12 x37).bind fun y40 => (impl_lengthOf_l0 k a1 K0 rest y40)) else ((impl_plus k v12 x37).bind fun y42 => (impl_lengthOf_l0 k a1 K0 rest y42))))
set_option maxRecDepth 100000 in
theorem impl_lengthOf_l0_ct {k : Nat} {a1 : Rw} {K0 : Rw → Option Rw} {r : Rw} (hx : a1.length ≤ cap) : ∀ (rest : Rw) (v11n : Nat) (v12 : Rw), a1.drop v11n = rest → impl_lengthOf_l0 k a1 K0 rest v12 = some r → LoopOk prog 0 (lp f121 0) (mk 28 [(1, .d (D.bool false)), (4, .ptr 256 0), (5, .ptr 320 0), (10, .d (D.sl a1)), (11, .d (D.int .i64 (a1.length : Int))), (12, .d (D.int .i64 (v11n : Int)))] [(256, .box 26 [.es]), (320, .box 26 [.d (D.sl v12)])]) (LoopEnd prog f121 0 28 (.agg [.d (D.sl r)]) (⟨[], []⟩) (fun i ts os => (i = 0 ∧ ∃ v25 : Rw, K0 v25 = some r ∧ ts = [(4, .ptr 256 0), (5, .ptr 320 0)] ∧ os = [(256, .box 26 [.es]), (320, .box 26 [.d (D.sl v25)])])))
  | [], v11n, v12, hd, h => by
      rw [impl_lengthOf_l0] at h
      have hn := drop_nil hd
      refine LoopOk.step ?_
      conv => whnf
      refine splD (fun g => absurd g hn) (fun _ => ?_)
      conv => whnf
      exact ⟨_, _, [some 256, some 320], [], ⟨rfl, _, h, rfl, rfl⟩, ⟨⟨rfl, rfl⟩, ⟨rfl, ⟨rfl, trivial, trivial⟩, ⟨rfl, rfl, trivial⟩, trivial⟩, ⟨rfl, rfl⟩, ⟨rfl, rfl⟩, trivial⟩⟩
  | cs :: rest, v11n, v12, hd, h => by
      rw [impl_lengthOf_l0] at h
      obtain ⟨hrow, hd1, hlt⟩ := drop_cons hd
      refine LoopOk.step ?_
      conv => whnf
      refine splD (fun _ => ?_) (fun g => absurd hlt g)
      conv => whnf
      obtain ⟨x36, x37, e38, h⟩ := cell_bs_ex h
      rw [e38] at hrow
      refine Req.of (Int.natCast_nonneg _) ?_
      refine Row.of _ hrow ?_
      conv => whnf
      refine spl (fun g39 => ?_) (fun g39 => ?_)
      · replace h := iteT h g39
        conv => whnf
        refine splT ?_
        conv => whnf
        obtain ⟨y40, e41, h⟩ := bind_ex h
        refine CallOk.of (impl_plus_ct e41) ?_
        conv => whnf
        refine CutK.go ?_
        conv => whnf
        exact LoopOk.back (impl_lengthOf_l0_ct hx rest (v11n + 1) _ hd1 h) [some 256, some 320] [] ⟨⟨rfl, rfl⟩, ⟨rfl, ⟨rfl, trivial, trivial⟩, ⟨rfl, rfl, trivial⟩, trivial⟩, rfl, ⟨rfl, rfl⟩, ⟨rfl, rfl⟩, rfl, rfl, i64eq (wrap_up hlt hx), trivial⟩
      · replace h := iteF h g39
        conv => whnf
        refine splF ?_
        conv => whnf
        obtain ⟨y42, e43, h⟩ := bind_ex h
        refine CallOk.of (impl_plus_ct e43) ?_
        conv => whnf
        refine CutK.go ?_
        conv => whnf
        exact LoopOk.back (impl_lengthOf_l0_ct hx rest (v11n + 1) _ hd1 h) [some 256, some 320] [] ⟨⟨rfl, rfl⟩, ⟨rfl, ⟨rfl, trivial, trivial⟩, ⟨rfl, rfl, trivial⟩, trivial⟩, rfl, ⟨rfl, rfl⟩, ⟨rfl, rfl⟩, rfl, rfl, i64eq (wrap_up hlt hx), trivial⟩
def impl_lengthOf_l0_2 (k : Nat) (a1 : Rw) (K0 : Rw → Option Rw) : Rw → Rw → Option Rw
  | [], v54 => (K0 v54)
  | cs :: rest, v54 => (cell_bs cs fun x72 x73 => (if x72 = true then ((impl_plus k v54 x73).bind fun y76 => (impl_lengthOf_l0_2 k a1 K0 rest y76)) else (impl_lengthOf_l0_2 k a1 K0 rest v54)))
set_option maxRecDepth 100000 in
theorem impl_lengthOf_l0_2_ct {k : Nat} {a1 : Rw} {K0 : Rw → Option Rw} {r : Rw} (hx : a1.length ≤ cap) : ∀ (rest : Rw) (v53n : Nat) (v54 : Rw), a1.drop v53n = rest → impl_lengthOf_l0_2 k a1 K0 rest v54 = some r → LoopOk prog 0 (lp f121 0) (mk 28 [(1, .d (D.bool true)), (4, .ptr 256 0), (5, .ptr 320 0), (10, .d (D.sl a1)), (11, .d (D.int .i64 (a1.length : Int))), (12, .d (D.int .i64 (v53n : Int)))] [(256, .box 26 [.es]), (320, .box 26 [.d (D.sl v54)])]) (LoopEnd prog f121 0 28 (.agg [.d (D.sl r)]) (⟨[], []⟩) (fun i ts os => (i = 0 ∧ ∃ v63 : Rw, K0 v63 = some r ∧ ts = [(4, .ptr 256 0), (5, .ptr 320 0)] ∧ os = [(256, .box 26 [.es]), (320, .box 26 [.d (D.sl v63)])])))
  | [], v53n, v54, hd, h => by
      rw [impl_lengthOf_l0_2] at h
      have hn := drop_nil hd
      refine LoopOk.step ?_
      conv => whnf
      refine splD (fun g => absurd g hn) (fun _ => ?_)
      conv => whnf
      exact ⟨_, _, [some 256, some 320], [], ⟨rfl, _, h, rfl, rfl⟩, ⟨⟨rfl, rfl⟩, ⟨rfl, ⟨rfl, trivial, trivial⟩, ⟨rfl, rfl, trivial⟩, trivial⟩, ⟨rfl, rfl⟩, ⟨rfl, rfl⟩, trivial⟩⟩
  | cs :: rest, v53n, v54, hd, h => by
      rw [impl_lengthOf_l0_2] at h
      obtain ⟨hrow, hd1, hlt⟩ := drop_cons hd
      refine LoopOk.step ?_
      conv => whnf
      refine splD (fun _ => ?_) (fun g => absurd hlt g)
      conv => whnf
      obtain ⟨x72, x73, e74, h⟩ := cell_bs_ex h
      rw [e74] at hrow
      refine Req.of (Int.natCast_nonneg _) ?_
      refine Row.of _ hrow ?_
      conv => whnf
      refine spl (fun g75 => ?_) (fun g75 => ?_)
      · replace h := iteT h g75
        conv => whnf
        refine splT ?_
        conv => whnf
        obtain ⟨y76, e77, h⟩ := bind_ex h
        refine CallOk.of (impl_plus_ct e77) ?_
        conv => whnf
        refine CutK.go ?_
        conv => whnf
        exact LoopOk.back (impl_lengthOf_l0_2_ct hx rest (v53n + 1) _ hd1 h) [some 256, some 320] [] ⟨⟨rfl, rfl⟩, ⟨rfl, ⟨rfl, trivial, trivial⟩, ⟨rfl, rfl, trivial⟩, trivial⟩, rfl, ⟨rfl, rfl⟩, ⟨rfl, rfl⟩, rfl, rfl, i64eq (wrap_up hlt hx), trivial⟩
      · replace h := iteF h g75
        conv => whnf
        refine splF ?_
        conv => whnf
        refine CutK.go ?_
        conv => whnf
        exact LoopOk.back (impl_lengthOf_l0_2_ct hx rest (v53n + 1) _ hd1 h) [some 256, some 320] [] ⟨⟨rfl, rfl⟩, ⟨rfl, ⟨rfl, trivial, trivial⟩, ⟨rfl, rfl, trivial⟩, trivial⟩, rfl, ⟨rfl, rfl⟩, ⟨rfl, rfl⟩, rfl, rfl, i64eq (wrap_up hlt hx), trivial⟩
def impl_lengthOf (k : Nat) (a1 : Rw) (a2 : Bool) : Option Rw :=
  (cond a2 (if a1.length ≤ cap then (impl_lengthOf_l0_2 k a1 (fun (v63 : Rw) => some v63) a1 ([] : Rw)) else none) (if a1.length ≤ cap then (impl_lengthOf_l0 k a1 (fun (v25 : Rw) => some v25) a1 ([] : Rw)) else none))
set_option maxHeartbeats 4000000 in
set_option maxRecDepth 100000 in
theorem impl_lengthOf_ct {k : Nat} {a1 : Rw} {a2 : Bool} {r : Rw} (h : impl_lengthOf k a1 a2 = some r) : Ct prog 121 [.agg [.d (D.sl a1)], .d (D.bool a2)] (⟨[], []⟩) (.agg [.d (D.sl r)]) (⟨[], []⟩) := by
  rw [impl_lengthOf] at h
  refine Ct.of (c := _) mixed func121 ⟨rfl, rfl, rfl⟩ ?_ rfl
  cases a2
  · replace h := condF h
    conv => whnf
    obtain ⟨g44, h⟩ := req_ex h
    refine LoopOk.into (impl_lengthOf_l0_ct  g44 _ _ _ rfl h) [some 256, some 320] [] ⟨⟨rfl, rfl⟩, ⟨rfl, ⟨rfl, trivial, trivial⟩, ⟨rfl, rfl, trivial⟩, trivial⟩, rfl, ⟨rfl, rfl⟩, ⟨rfl, rfl⟩, rfl, rfl, rfl, trivial⟩ ?_ (fun _ hs => hs)
    rintro i ts os ⟨rfl, v25, h, rfl, rfl⟩
    conv => whnf
    refine CutK.go ?_
    conv => whnf
    cases h
    exact Done.of [] [] rfl rfl ⟨⟨rfl, rfl⟩, ⟨rfl, trivial⟩, ⟨rfl, trivial⟩, trivial⟩
  · replace h := condT h
    conv => whnf
    obtain ⟨g78, h⟩ := req_ex h
    refine LoopOk.into (impl_lengthOf_l0_2_ct  g78 _ _ _ rfl h) [some 256, some 320] [] ⟨⟨rfl, rfl⟩, ⟨rfl, ⟨rfl, trivial, trivial⟩, ⟨rfl, rfl, trivial⟩, trivial⟩, rfl, ⟨rfl, rfl⟩, ⟨rfl, rfl⟩, rfl, rfl, rfl, trivial⟩ ?_ (fun _ hs => hs)
    rintro i ts os ⟨rfl, v63, h, rfl, rfl⟩
    conv => whnf
    refine CutK.go ?_
    conv => whnf
    cases h
    exact Done.of [] [] rfl rfl ⟨⟨rfl, rfl⟩, ⟨rfl, trivial⟩, ⟨rfl, trivial⟩, trivial⟩

def impl_IsOrdinal (k : Nat) (a1 : Rw) : Option Bool :=
  ((impl_ordinalAt k a1 0 0).bind fun y2 => (if y2.1 = true then some true else some false))
set_option maxHeartbeats 4000000 in
set_option maxRecDepth 100000 in
theorem impl_IsOrdinal_ct {k : Nat} {a1 : Rw} {r : Bool} (h : impl_IsOrdinal k a1 = some r) : Ct prog 87 [.agg [.d (D.sl a1)]] (⟨[], []⟩) (.d (D.bool r)) (⟨[], []⟩) := by
  rw [impl_IsOrdinal] at h
  refine Ct.of (c := _) mixed func87 ⟨rfl, rfl, rfl⟩ ?_ rfl
  conv => whnf
  obtain ⟨y2, e3, h⟩ := bind_ex h
  refine CallOk.of (impl_ordinalAt_ct e3) ?_
  conv => whnf
  refine spl (fun g4 => ?_) (fun g4 => ?_)
  · replace h := iteT h g4
    conv => whnf
    refine CutK.go ?_
    conv => whnf
    cases h
    exact Done.of [] [] rfl rfl ⟨⟨rfl, rfl⟩, ⟨rfl, trivial⟩, rfl, trivial⟩
  · replace h := iteF h g4
    conv => whnf
    refine CutK.go ?_
    conv => whnf
    cases h
    exact Done.of [] [] rfl rfl ⟨⟨rfl, rfl⟩, ⟨rfl, trivial⟩, rfl, trivial⟩

def impl_told (k : Nat) (a1 : Rw) : Option (Rw × Bool) :=
  ((impl_IsOrdinal k a1).bind fun y2 => (if y2 = true then ((impl_cloneOrdinal k a1).bind fun y5 => some (y5, true)) else some (([] : Rw), false)))
set_option maxHeartbeats 4000000 in
set_option maxRecDepth 100000 in
theorem impl_told_ct {k : Nat} {a1 : Rw} {r : Rw × Bool} (h : impl_told k a1 = some r) : Ct prog 73 [.agg [.d (D.sl a1)]] (⟨[], []⟩) (.tup [.agg [.os 8 r.1.length], .d (D.bool r.2)]) (⟨[], [(98, true, r.1)]⟩) := by
  rw [impl_told] at h
  refine Ct.of (c := _) mixed func73 ⟨rfl, rfl, rfl⟩ ?_ rfl
  conv => whnf
  obtain ⟨y2, e3, h⟩ := bind_ex h
  refine CallOk.of (impl_IsOrdinal_ct e3) ?_
  conv => whnf
  refine spl (fun g4 => ?_) (fun g4 => ?_)
  · replace h := iteT h g4
    conv => whnf
    refine CutK.go ?_
    conv => whnf
    refine CutK.go ?_
    conv => whnf
    obtain ⟨y5, e6, h⟩ := bind_ex h
    refine CallOk.of (impl_cloneOrdinal_ct e6) ?_
    conv => whnf
    refine CutK.go ?_
    conv => whnf
    cases h
    exact Done.of [some 576] [] rfl rfl ⟨⟨rfl, rfl⟩, ⟨rfl, ⟨rfl, rfl, rows_same⟩, trivial⟩, ⟨⟨⟨rfl, rfl⟩, trivial⟩, rfl, trivial⟩, trivial⟩
  · replace h := iteF h g4
    conv => whnf
    refine CutK.go ?_
    conv => whnf
    cases h
    exact Done.of [none] [] rfl rfl ⟨⟨rfl, rfl⟩, ⟨rfl, rfl, trivial⟩, ⟨⟨⟨rfl, rfl⟩, trivial⟩, rfl, trivial⟩, trivial⟩

def impl_LengthOfWord (k : Nat) (a1 : Rw) : Option (Rw × Bool) :=
  ((impl_IsWord k a1).bind fun y2 => (if y2 = true then ((impl_lengthOf k a1 false).bind fun y5 => ((impl_told k y5).bind fun y7 => (if y7.2 = true then some (y7.1, true) else some (y7.1, false)))) else some (([] : Rw), false)))
set_option maxHeartbeats 4000000 in
set_option maxRecDepth 100000 in
theorem impl_LengthOfWord_ct {k : Nat} {a1 : Rw} {r : Rw × Bool} (h : impl_LengthOfWord k a1 = some r) : Ct prog 55 [.agg [.d (D.sl a1)]] (⟨[], []⟩) (.tup [.agg [.os 8 r.1.length], .d (D.bool r.2)]) (⟨[], [(98, true, r.1)]⟩) := by
  rw [impl_LengthOfWord] at h
  refine Ct.of (c := _) mixed func55 ⟨rfl, rfl, rfl⟩ ?_ rfl
  conv => whnf
  obtain ⟨y2, e3, h⟩ := bind_ex h
  refine CallOk.of (impl_IsWord_ct e3) ?_
  conv => whnf
  refine spl (fun g4 => ?_) (fun g4 => ?_)
  · replace h := iteT h g4
    conv => whnf
    refine CutK.go ?_
    conv => whnf
    refine CutK.go ?_
    conv => whnf
    obtain ⟨y5, e6, h⟩ := bind_ex h
    refine CallOk.of (impl_lengthOf_ct e6) ?_
    conv => whnf
    obtain ⟨y7, e8, h⟩ := bind_ex h
    refine CallOk.of (impl_told_ct e8) ?_
    conv => whnf
    refine spl (fun g9 => ?_) (fun g9 => ?_)
    · replace h := iteT h g9
      conv => whnf
      refine CutK.go ?_
      conv => whnf
      cases h
      exact Done.of [some 640] [] rfl rfl ⟨⟨rfl, rfl⟩, ⟨rfl, ⟨rfl, rfl, rows_same⟩, trivial⟩, ⟨⟨⟨rfl, rfl⟩, trivial⟩, rfl, trivial⟩, trivial⟩
    · replace h := iteF h g9
      conv => whnf
      refine CutK.go ?_
      conv => whnf
      cases h
      exact Done.of [some 640] [] rfl rfl ⟨⟨rfl, rfl⟩, ⟨rfl, ⟨rfl, rfl, rows_same⟩, trivial⟩, ⟨⟨⟨rfl, rfl⟩, trivial⟩, rfl, trivial⟩, trivial⟩
  · replace h := iteF h g4
    conv => whnf
    refine CutK.go ?_
    conv => whnf
    cases h
    exact Done.of [none] [] rfl rfl ⟨⟨rfl, rfl⟩, ⟨rfl, rfl, trivial⟩, ⟨⟨⟨rfl, rfl⟩, trivial⟩, rfl, trivial⟩, trivial⟩

def laws_markOrdinal_2 (k : Nat) (a1 : Int) : Option Int :=
  ((laws_markOrdinalTermS_2 k a1).bind fun y2 => some y2)
set_option maxHeartbeats 4000000 in
set_option maxRecDepth 100000 in
theorem laws_markOrdinal_2_ct {k : Nat} {a1 : Int} {r : Int} (h : laws_markOrdinal_2 k a1 = some r) : Ct prog 32 [.agg [.d (.sl [])], .d (D.int .i64 a1)] (⟨[], []⟩) (.d (D.int .i64 r)) (⟨[], []⟩) := by
  rw [laws_markOrdinal_2] at h
  refine Ct.of (c := _) mixed func32 ⟨rfl, rfl, rfl⟩ ?_ rfl
  conv => whnf
  obtain ⟨y2, e3, h⟩ := bind_ex h
  refine CallOk.of (laws_markOrdinalTermS_2_ct e3) ?_
  conv => whnf
  refine CutK.go ?_
  conv => whnf
  cases h
  exact Done.of [] [] rfl rfl ⟨⟨rfl, rfl⟩, ⟨rfl, trivial⟩, rfl, trivial⟩

def laws_markOrdinal (k : Nat) (a1 : Rw) (a2 : Int) : Option (Int × Rw) :=
  (if a1.isEmpty = true then ((laws_markOrdinal_2 k a2).bind fun y => some (y, ([] : Rw))) else ((laws_markOrdinalTermS k a1 a2).bind fun y3 => (if y3.2.length = a1.length then some (y3.1, y3.2) else none)))
set_option maxHeartbeats 4000000 in
set_option maxRecDepth 100000 in
theorem laws_markOrdinal_ct {k : Nat} {a1 : Rw} {a2 : Int} {r : Int × Rw} (h : laws_markOrdinal k a1 a2 = some r) : CtM prog 32 true [.int .i64 a2] a1 (.int .i64 r.1) r.2 := by
  rw [laws_markOrdinal] at h
  refine CtM.of (c := _) mixed func32 ⟨rfl, rfl, rfl⟩ rfl (fun hne T => ?_) (fun h0 => ?_)
  · replace h := iteF h (by cases a1 with | nil => exact absurd rfl hne | cons _ _ => rfl)
    conv => whnf
    refine Choice.new ?_
    conv => whnf
    refine Req.of (rfl) ?_
    conv => whnf
    obtain ⟨y3, e4, h⟩ := bind_ex h
    refine MarkOk.of (laws_markOrdinalTermS_ct e4) ?_
    conv => whnf
    refine CutK.go ?_
    conv => whnf
    obtain ⟨g5, h⟩ := req_ex h
    cases h
    exact DoneM.of [some 0] [] rfl g5 ⟨⟨rfl, rfl⟩, ⟨rfl, ⟨rfl, rfl, rows_same⟩, trivial⟩, rfl, trivial⟩
  · subst h0
    replace h := iteT h rfl
    obtain ⟨y, e, h⟩ := bind_ex h
    cases h
    exact ⟨rfl, laws_markOrdinal_2_ct e⟩

def spec_odPlus_p3 (o151 : Rw) : Option Rw :=
  some o151
set_option maxHeartbeats 4000000 in
set_option maxRecDepth 100000 in
theorem spec_odPlus_p3_ct {o151 : Rw} {r : Rw} (h : spec_odPlus_p3 o151 = some r) : X prog 0 (tlF f70 3) (mk 85 [(4, .ptr 256 0), (5, .ptr 320 0)] [(256, .box 26 [.es]), (320, .box 26 [.os 1079000 o151.length]), (1079000, .arr 98 false o151)]) (finK prog f70 0 (.agg [.os 8 r.length]) (⟨[], [(98, false, r)]⟩)) := by
  rw [spec_odPlus_p3] at h
  conv => whnf
  cases h
  exact Done.of [some 1079000] [] rfl rfl ⟨⟨rfl, rfl⟩, ⟨rfl, ⟨rfl, rfl, rows_same⟩, trivial⟩, ⟨⟨rfl, rfl⟩, trivial⟩, trivial⟩
def spec_odPlus_l1 (k : Nat) (a2 : Rw) (v199n : Nat) (x300 : Rw) (x301 : Int) (K2 : Rw → Option Rw) : Nat → Rw → Option Rw
  | 0, _ => none
  | n + 1, v313 => (if (0 : Int) < (v313.length : Int) then (if 0 ≤ (IntKind.i64.wrap ((v313.length : Int) - 1)) ∧ (IntKind.i64.wrap ((v313.length : Int) - 1)) < (v313.length : Int) then (row_si v313 (IntKind.i64.wrap ((v313.length : Int) - 1)) fun x337 x338 => ((spec_odCmp k x337 x300).bind fun y341 => (if y341 < (0 : Int) then (if 0 ≤ (IntKind.i64.wrap ((v313.length : Int) - 1)) ∧ (IntKind.i64.wrap ((v313.length : Int) - 1)) ≤ (v313.length : Int) then (if (IntKind.i64.wrap ((v313.length : Int) - 1) : Int).toNat ≤ v313.length then (spec_odPlus_l1 k a2 v199n x300 x301 K2 n (v313.take ((IntKind.i64.wrap ((v313.length : Int) - 1) : Int).toNat))) else none) else none) else (K2 v313)))) else none) else (K2 v313))
set_option maxRecDepth 100000 in
theorem spec_odPlus_l1_ct {k : Nat} {a2 : Rw} {v199n : Nat} {x300 : Rw} {x301 : Int} {K2 : Rw → Option Rw} {r : Rw} : ∀ (n : Nat) (v313 : Rw), spec_odPlus_l1 k a2 v199n x300 x301 K2 n v313 = some r → LoopOk prog 0 (lp f70 1) (mk 85 [(4, .ptr 256 0), (5, .ptr 320 0), (7, .ptr 448 0), (15, .d (D.sl a2)), (16, .d (D.int .i64 (a2.length : Int))), (17, .d (D.int .i64 (v199n : Int)))] [(256, .box 26 [.es]), (320, .box 26 [.os 76800 v313.length]), (448, .box 98 [.d (D.sl x300), .d (D.int .i64 x301)]), (76800, .arr 98 false v313)]) (LoopEnd prog f70 0 85 (.agg [.os 8 r.length]) (⟨[], [(98, false, r)]⟩) (fun i ts os => (i = 2 ∧ ∃ v324 : Rw, K2 v324 = some r ∧ ts = [(4, .ptr 256 0), (5, .ptr 320 0), (7, .ptr 448 0), (15, .d (D.sl a2)), (16, .d (D.int .i64 (a2.length : Int))), (17, .d (D.int .i64 (v199n : Int)))] ∧ os = [(256, .box 26 [.es]), (320, .box 26 [.os 79801 v324.length]), (448, .box 98 [.d (D.sl x300), .d (D.int .i64 x301)]), (79801, .arr 98 false v324)])))
  | 0, _, h => by
      rw [spec_odPlus_l1] at h; cases h
  | n + 1, v313, h => by
      rw [spec_odPlus_l1] at h
      refine LoopOk.step ?_
      conv => whnf
      refine splD (fun g335 => ?_) (fun g335 => ?_)
      · replace h := iteP h g335
        conv => whnf
        obtain ⟨g336, h⟩ := req_ex h
        refine Req.of g336 ?_
        conv => whnf
        obtain ⟨g340, x337, x338, e339, h⟩ := row_si_ex h
        refine Row.of _ e339 ?_
        conv => whnf
        obtain ⟨y341, e342, h⟩ := bind_ex h
        refine CallOk.of (spec_odCmp_ct e342) ?_
        conv => whnf
        refine splD (fun g343 => ?_) (fun g343 => ?_)
        · replace h := iteP h g343
          conv => whnf
          refine CutK.norm [4, 5, 7, 15, 16, 17, 39] [256, 320, 448, 76800] ?_
          conv => whnf
          refine CutK.norm [4, 5, 7, 15, 16, 17] [256, 320, 448, 76800] ?_
          conv => whnf
          obtain ⟨g344, h⟩ := req_ex h
          refine Req.of (⟨rfl, g344⟩) ?_
          conv => whnf
          obtain ⟨g345, h⟩ := req_ex h
          exact LoopOk.back (spec_odPlus_l1_ct  n _ h) [some 256, some 320, some 448, some 76800] [] ⟨⟨rfl, rfl⟩, ⟨rfl, ⟨rfl, trivial, trivial⟩, ⟨rfl, ⟨take_len g345, rfl⟩, trivial⟩, ⟨rfl, rfl, rfl, trivial⟩, ⟨rfl, rfl, _, rfl⟩, trivial⟩, ⟨rfl, rfl⟩, ⟨rfl, rfl⟩, ⟨rfl, rfl⟩, rfl, rfl, rfl, trivial⟩
        · replace h := iteN h g343
          conv => whnf
          refine CutK.norm [4, 5, 7, 15, 16, 17, 39] [256, 320, 448, 76800] ?_
          conv => whnf
          exact ⟨_, _, [some 256, some 320, some 448, some 76800], [], ⟨rfl, _, h, rfl, rfl⟩, ⟨⟨rfl, rfl⟩, ⟨rfl, ⟨rfl, trivial, trivial⟩, ⟨rfl, ⟨rfl, rfl⟩, trivial⟩, ⟨rfl, rfl, rfl, trivial⟩, ⟨rfl, rfl, rows_same⟩, trivial⟩, ⟨rfl, rfl⟩, ⟨rfl, rfl⟩, ⟨rfl, rfl⟩, rfl, rfl, rfl, trivial⟩⟩
      · replace h := iteN h g335
        conv => whnf
        refine CutK.norm [4, 5, 7, 15, 16, 17, 39] [256, 320, 448, 76800] ?_
        conv => whnf
        exact ⟨_, _, [some 256, some 320, some 448, some 76800], [], ⟨rfl, _, h, rfl, rfl⟩, ⟨⟨rfl, rfl⟩, ⟨rfl, ⟨rfl, trivial, trivial⟩, ⟨rfl, ⟨rfl, rfl⟩, trivial⟩, ⟨rfl, rfl, rfl, trivial⟩, ⟨rfl, rfl, rows_same⟩, trivial⟩, ⟨rfl, rfl⟩, ⟨rfl, rfl⟩, ⟨rfl, rfl⟩, rfl, rfl, rfl, trivial⟩⟩
def spec_odPlus_l0 (k : Nat) (a2 : Rw) (K0 : Rw → Option Rw) : Rw → Nat → Rw → Option Rw
  | [], v199n, v200 => (K0 v200)
  | cs :: rest, v199n, v200 => (cell_si cs fun x300 x301 => (spec_odPlus_l1 k a2 v199n x300 x301 (fun (v324 : Rw) => (if (0 : Int) ≤ (IntKind.i64.wrap ((v324.length : Int) - 1)) then (if 0 ≤ (IntKind.i64.wrap ((v324.length : Int) - 1)) ∧ (IntKind.i64.wrap ((v324.length : Int) - 1)) < (v324.length : Int) then (row_si v324 (IntKind.i64.wrap ((v324.length : Int) - 1)) fun x348 x349 => ((spec_odCmp k x348 x300).bind fun y352 => (if y352 = (0 : Int) then (spec_odPlus_l0 k a2 K0 rest (v199n + 1) (v324.set ((IntKind.i64.wrap ((v324.length : Int) - 1) : Int).toNat) [D.sl x348, D.int .i64 (IntKind.i64.wrap (x349 + x301))])) else (if v324.length + 1 ≤ cap then (spec_odPlus_l0 k a2 K0 rest (v199n + 1) (v324 ++ ([[D.sl x300, D.int .i64 x301]]))) else none)))) else none) else (if v324.length + 1 ≤ cap then (spec_odPlus_l0 k a2 K0 rest (v199n + 1) (v324 ++ ([[D.sl x300, D.int .i64 x301]]))) else none))) k v200))
set_option maxRecDepth 100000 in
theorem spec_odPlus_l0_ct {k : Nat} {a2 : Rw} {K0 : Rw → Option Rw} {r : Rw} (hx : a2.length ≤ cap) : ∀ (rest : Rw) (v199n : Nat) (v200 : Rw), a2.drop v199n = rest → spec_odPlus_l0 k a2 K0 rest v199n v200 = some r → LoopOk prog 0 (lp f70 0) (mk 85 [(4, .ptr 256 0), (5, .ptr 320 0), (15, .d (D.sl a2)), (16, .d (D.int .i64 (a2.length : Int))), (17, .d (D.int .i64 (v199n : Int)))] [(256, .box 26 [.es]), (320, .box 26 [.os 64000 v200.length]), (64000, .arr 98 false v200)]) (LoopEnd prog f70 0 85 (.agg [.os 8 r.length]) (⟨[], [(98, false, r)]⟩) (fun i ts os => (i = 0 ∧ ∃ v251 : Rw, K0 v251 = some r ∧ ts = [(4, .ptr 256 0), (5, .ptr 320 0)] ∧ os = [(256, .box 26 [.es]), (320, .box 26 [.os 67001 v251.length]), (67001, .arr 98 false v251)])))
  | [], v199n, v200, hd, h => by
      rw [spec_odPlus_l0] at h
      have hn := drop_nil hd
      refine LoopOk.step ?_
      conv => whnf
      refine splD (fun g => absurd g hn) (fun _ => ?_)
      conv => whnf
      exact ⟨_, _, [some 256, some 320, some 64000], [], ⟨rfl, _, h, rfl, rfl⟩, ⟨⟨rfl, rfl⟩, ⟨rfl, ⟨rfl, trivial, trivial⟩, ⟨rfl, ⟨rfl, rfl⟩, trivial⟩, ⟨rfl, rfl, rows_same⟩, trivial⟩, ⟨rfl, rfl⟩, ⟨rfl, rfl⟩, trivial⟩⟩
  | cs :: rest, v199n, v200, hd, h => by
      rw [spec_odPlus_l0] at h
      obtain ⟨hrow, hd1, hlt⟩ := drop_cons hd
      refine LoopOk.step ?_
      conv => whnf
      refine splD (fun _ => ?_) (fun g => absurd hlt g)
      conv => whnf
      obtain ⟨x300, x301, e302, h⟩ := cell_si_ex h
      rw [e302] at hrow
      refine Req.of (Int.natCast_nonneg _) ?_
      refine Row.of _ hrow ?_
      conv => whnf
      refine LoopOk.into (spec_odPlus_l1_ct  _ _ h) [some 256, some 320, some 448, some 64000] [] ⟨⟨rfl, rfl⟩, ⟨rfl, ⟨rfl, trivial, trivial⟩, ⟨rfl, ⟨rfl, rfl⟩, trivial⟩, ⟨rfl, rfl, rfl, trivial⟩, ⟨rfl, rfl, rows_same⟩, trivial⟩, ⟨rfl, rfl⟩, ⟨rfl, rfl⟩, ⟨rfl, rfl⟩, rfl, rfl, rfl, trivial⟩ ?_ (fun _ hs => hs)
      rintro i ts os ⟨rfl, v324, h, rfl, rfl⟩
      conv => whnf
      refine CutK.norm [4, 5, 7, 15, 16, 17] [256, 320, 448, 79801] ?_
      conv => whnf
      refine splD (fun g346 => ?_) (fun g346 => ?_)
      · replace h := iteP h g346
        conv => whnf
        obtain ⟨g347, h⟩ := req_ex h
        refine Req.of g347 ?_
        conv => whnf
        obtain ⟨g351, x348, x349, e350, h⟩ := row_si_ex h
        refine Row.of _ e350 ?_
        conv => whnf
        obtain ⟨y352, e353, h⟩ := bind_ex h
        refine CallOk.of (spec_odCmp_ct e353) ?_
        conv => whnf
        refine splD (fun g354 => ?_) (fun g354 => ?_)
        · replace h := iteP h g354
          conv => whnf
          refine CutK.norm [4, 5, 7, 8, 15, 16, 17, 65] [256, 320, 448, 79801] ?_
          conv => whnf
          refine Req.of g347 ?_
          conv => whnf
          refine Row.of _ e350 ?_
          conv => whnf
          refine Req.of g347 ?_
          conv => whnf
          refine Row.of _ e350 ?_
          conv => whnf
          refine CutK.norm [4, 5, 15, 16, 17] [256, 320, 79801] ?_
          conv => whnf
          exact LoopOk.back (spec_odPlus_l0_ct hx rest (v199n + 1) _ hd1 h) [some 256, some 320, some 79801] [] ⟨⟨rfl, rfl⟩, ⟨rfl, ⟨rfl, trivial, trivial⟩, ⟨rfl, ⟨(by first | rfl | exact List.length_append.symm | (simp; done) | omega), rfl⟩, trivial⟩, ⟨rfl, rfl, rows_same⟩, trivial⟩, ⟨rfl, rfl⟩, ⟨rfl, rfl⟩, rfl, rfl, i64eq (wrap_up hlt hx), trivial⟩
        · replace h := iteN h g354
          conv => whnf
          refine CutK.norm [4, 5, 7, 8, 15, 16, 17, 65] [256, 320, 448, 79801] ?_
          conv => whnf
          refine Take.all (rfl) ?_
          conv => whnf
          refine Take.all (by first | rfl | exact List.length_append.symm | (simp; done) | omega) ?_
          conv => whnf
          obtain ⟨g355, h⟩ := req_ex h
          refine Req.of (room (b := 32) (by decide) g355 (wide1 rfl wide0)) ?_
          conv => whnf
          refine CutK.norm [4, 5, 15, 16, 17] [256, 320, 5184] ?_
          conv => whnf
          exact LoopOk.back (spec_odPlus_l0_ct hx rest (v199n + 1) _ hd1 h) [some 256, some 320, some 5184] [] ⟨⟨rfl, rfl⟩, ⟨rfl, ⟨rfl, trivial, trivial⟩, ⟨rfl, ⟨(by first | rfl | exact List.length_append.symm | (simp; done) | omega), rfl⟩, trivial⟩, ⟨rfl, rfl, rows_same⟩, trivial⟩, ⟨rfl, rfl⟩, ⟨rfl, rfl⟩, rfl, rfl, i64eq (wrap_up hlt hx), trivial⟩
      · replace h := iteN h g346
        conv => whnf
        refine CutK.norm [4, 5, 7, 8, 15, 16, 17, 65] [256, 320, 448, 79801] ?_
        conv => whnf
        refine Take.all (rfl) ?_
        conv => whnf
        refine Take.all (by first | rfl | exact List.length_append.symm | (simp; done) | omega) ?_
        conv => whnf
        obtain ⟨g356, h⟩ := req_ex h
        refine Req.of (room (b := 32) (by decide) g356 (wide1 rfl wide0)) ?_
        conv => whnf
        refine CutK.norm [4, 5, 15, 16, 17] [256, 320, 5184] ?_
        conv => whnf
        exact LoopOk.back (spec_odPlus_l0_ct hx rest (v199n + 1) _ hd1 h) [some 256, some 320, some 5184] [] ⟨⟨rfl, rfl⟩, ⟨rfl, ⟨rfl, trivial, trivial⟩, ⟨rfl, ⟨(by first | rfl | exact List.length_append.symm | (simp; done) | omega), rfl⟩, trivial⟩, ⟨rfl, rfl, rows_same⟩, trivial⟩, ⟨rfl, rfl⟩, ⟨rfl, rfl⟩, rfl, rfl, i64eq (wrap_up hlt hx), trivial⟩
def spec_odPlus (k : Nat) (a1 : Rw) (a2 : Rw) : Option Rw :=
  (if a1.length ≤ cap ∧ (∀ cs ∈ a1, cs.length = 2) then (if a2.length ≤ cap then (spec_odPlus_l0 k a2 (fun (v251 : Rw) => (spec_odPlus_p3 v251)) a2 0 ([] ++ a1 : Rw)) else none) else none)
set_option maxHeartbeats 4000000 in
set_option maxRecDepth 100000 in
theorem spec_odPlus_ct {k : Nat} {a1 : Rw} {a2 : Rw} {r : Rw} (h : spec_odPlus k a1 a2 = some r) : Ct prog 70 [.agg [.d (D.sl a1)], .agg [.d (D.sl a2)]] (⟨[], []⟩) (.agg [.os 8 r.length]) (⟨[], [(98, false, r)]⟩) := by
  rw [spec_odPlus] at h
  refine Ct.of (c := _) mixed func70 ⟨rfl, rfl, rfl⟩ ?_ rfl
  conv => whnf
  refine Take.all (by first | rfl | exact List.length_append.symm | (simp; done) | omega) ?_
  conv => whnf
  obtain ⟨g152, h⟩ := req_ex h
  refine Req.of (room0 (b := 32) (by decide) g152.1 g152.2) ?_
  conv => whnf
  obtain ⟨g357, h⟩ := req_ex h
  refine LoopOk.into (spec_odPlus_l0_ct  g357 _ _ _ rfl h) [some 256, some 320, some 768] [] ⟨⟨rfl, rfl⟩, ⟨rfl, ⟨rfl, trivial, trivial⟩, ⟨rfl, ⟨(by first | rfl | exact List.length_append.symm | (simp; done) | omega), rfl⟩, trivial⟩, ⟨rfl, rfl, rows_same⟩, trivial⟩, ⟨rfl, rfl⟩, ⟨rfl, rfl⟩, rfl, rfl, rfl, trivial⟩ ?_ (fun _ hs => hs)
  rintro i ts os ⟨rfl, v251, h, rfl, rfl⟩
  conv => whnf
  exact CutK.piece (spec_odPlus_p3_ct  h) [some 256, some 320, some 67001] [] ⟨⟨rfl, rfl⟩, ⟨rfl, ⟨rfl, trivial, trivial⟩, ⟨rfl, ⟨rfl, rfl⟩, trivial⟩, ⟨rfl, rfl, rows_same⟩, trivial⟩, ⟨rfl, rfl⟩, ⟨rfl, rfl⟩, trivial⟩

def spec_woLength_l0 (k : Nat) (a1 : Rw) (K0 : Rw → Option Rw) : Rw → Rw → Option Rw
  | [], v11 => (K0 v11)
  | cs :: rest, v11 => (cell_bs cs fun x35 x36 => (if x35 = true then ((spec_odPlus k v11 x36).bind fun y39 => (spec_woLength_l0 k a1 K0 rest y39)) else ((spec_odPlus k v11 x36).bind fun y41 => (spec_woLength_l0 k a1 K0 rest y41))))
set_option maxRecDepth 100000 in
theorem spec_woLength_l0_ct {k : Nat} {a1 : Rw} {K0 : Rw → Option Rw} {r : Rw} (hx : a1.length ≤ cap) : ∀ (rest : Rw) (v10n : Nat) (v11 : Rw), a1.drop v10n = rest → spec_woLength_l0 k a1 K0 rest v11 = some r → LoopOk prog 0 (lp f120 0) (mk 20 [(2, .ptr 128 0), (3, .ptr 192 0), (8, .d (D.sl a1)), (9, .d (D.int .i64 (a1.length : Int))), (10, .d (D.int .i64 (v10n : Int)))] [(128, .box 26 [.es]), (192, .box 26 [.os 64000 v11.length]), (64000, .arr 98 false v11)]) (LoopEnd prog f120 0 20 (.agg [.os 8 r.length]) (⟨[], [(98, false, r)]⟩) (fun i ts os => (i = 0 ∧ ∃ v24 : Rw, K0 v24 = some r ∧ ts = [(2, .ptr 128 0), (3, .ptr 192 0)] ∧ os = [(128, .box 26 [.es]), (192, .box 26 [.os 67001 v24.length]), (67001, .arr 98 false v24)])))
  | [], v10n, v11, hd, h => by
      rw [spec_woLength_l0] at h
      have hn := drop_nil hd
      refine LoopOk.step ?_
      conv => whnf
      refine splD (fun g => absurd g hn) (fun _ => ?_)
      conv => whnf
      exact ⟨_, _, [some 128, some 192, some 64000], [], ⟨rfl, _, h, rfl, rfl⟩, ⟨⟨rfl, rfl⟩, ⟨rfl, ⟨rfl, trivial, trivial⟩, ⟨rfl, ⟨rfl, rfl⟩, trivial⟩, ⟨rfl, rfl, rows_same⟩, trivial⟩, ⟨rfl, rfl⟩, ⟨rfl, rfl⟩, trivial⟩⟩
  | cs :: rest, v10n, v11, hd, h => by
      rw [spec_woLength_l0] at h
      obtain ⟨hrow, hd1, hlt⟩ := drop_cons hd
      refine LoopOk.step ?_
      conv => whnf
      refine splD (fun _ => ?_) (fun g => absurd hlt g)
      conv => whnf
      obtain ⟨x35, x36, e37, h⟩ := cell_bs_ex h
      rw [e37] at hrow
      refine Req.of (Int.natCast_nonneg _) ?_
      refine Row.of _ hrow ?_
      conv => whnf
      refine spl (fun g38 => ?_) (fun g38 => ?_)
      · replace h := iteT h g38
        conv => whnf
        refine Take.all (rfl) ?_
        conv => whnf
        obtain ⟨y39, e40, h⟩ := bind_ex h
        refine CallOk.of (spec_odPlus_ct e40) ?_
        conv => whnf
        refine CutK.go ?_
        conv => whnf
        exact LoopOk.back (spec_woLength_l0_ct hx rest (v10n + 1) _ hd1 h) [some 128, some 192, some 1088] [] ⟨⟨rfl, rfl⟩, ⟨rfl, ⟨rfl, trivial, trivial⟩, ⟨rfl, ⟨rfl, rfl⟩, trivial⟩, ⟨rfl, rfl, rows_same⟩, trivial⟩, ⟨rfl, rfl⟩, ⟨rfl, rfl⟩, rfl, rfl, i64eq (wrap_up hlt hx), trivial⟩
      · replace h := iteF h g38
        conv => whnf
        refine Take.all (rfl) ?_
        conv => whnf
        obtain ⟨y41, e42, h⟩ := bind_ex h
        refine CallOk.of (spec_odPlus_ct e42) ?_
        conv => whnf
        refine CutK.go ?_
        conv => whnf
        exact LoopOk.back (spec_woLength_l0_ct hx rest (v10n + 1) _ hd1 h) [some 128, some 192, some 1088] [] ⟨⟨rfl, rfl⟩, ⟨rfl, ⟨rfl, trivial, trivial⟩, ⟨rfl, ⟨rfl, rfl⟩, trivial⟩, ⟨rfl, rfl, rows_same⟩, trivial⟩, ⟨rfl, rfl⟩, ⟨rfl, rfl⟩, rfl, rfl, i64eq (wrap_up hlt hx), trivial⟩
def spec_woLength (k : Nat) (a1 : Rw) : Option Rw :=
  (if a1.length ≤ cap then (spec_woLength_l0 k a1 (fun (v24 : Rw) => some v24) a1 ([] : Rw)) else none)
set_option maxHeartbeats 4000000 in
set_option maxRecDepth 100000 in
theorem spec_woLength_ct {k : Nat} {a1 : Rw} {r : Rw} (h : spec_woLength k a1 = some r) : Ct prog 120 [.agg [.d (D.sl a1)]] (⟨[], []⟩) (.agg [.os 8 r.length]) (⟨[], [(98, false, r)]⟩) := by
  rw [spec_woLength] at h
  refine Ct.of (c := _) mixed func120 ⟨rfl, rfl, rfl⟩ ?_ rfl
  conv => whnf
  obtain ⟨g43, h⟩ := req_ex h
  refine LoopOk.into (spec_woLength_l0_ct  g43 _ _ _ rfl h) [some 128, some 192, none] [] ⟨⟨rfl, rfl⟩, ⟨rfl, ⟨rfl, trivial, trivial⟩, ⟨rfl, ⟨rfl, rfl⟩, trivial⟩, rfl, trivial⟩, ⟨rfl, rfl⟩, ⟨rfl, rfl⟩, rfl, rfl, rfl, trivial⟩ ?_ (fun _ hs => hs)
  rintro i ts os ⟨rfl, v24, h, rfl, rfl⟩
  conv => whnf
  refine CutK.go ?_
  conv => whnf
  cases h
  exact Done.of [some 67001] [] rfl rfl ⟨⟨rfl, rfl⟩, ⟨rfl, ⟨rfl, rfl, rows_same⟩, trivial⟩, ⟨⟨rfl, rfl⟩, trivial⟩, trivial⟩

def spec_odIf (k : Nat) (a1 : Rw) : Option (Rw × Bool) :=
  ((spec_odGood k a1).bind fun y2 => (if y2 = true then ((spec_odOwn k a1).bind fun y5 => some (y5, true)) else some (([] : Rw), false)))
set_option maxHeartbeats 4000000 in
set_option maxRecDepth 100000 in
theorem spec_odIf_ct {k : Nat} {a1 : Rw} {r : Rw × Bool} (h : spec_odIf k a1 = some r) : Ct prog 76 [.agg [.d (D.sl a1)]] (⟨[], []⟩) (.tup [.agg [.os 8 r.1.length], .d (D.bool r.2)]) (⟨[], [(98, true, r.1)]⟩) := by
  rw [spec_odIf] at h
  refine Ct.of (c := _) mixed func76 ⟨rfl, rfl, rfl⟩ ?_ rfl
  conv => whnf
  obtain ⟨y2, e3, h⟩ := bind_ex h
  refine CallOk.of (spec_odGood_ct e3) ?_
  conv => whnf
  refine spl (fun g4 => ?_) (fun g4 => ?_)
  · replace h := iteT h g4
    conv => whnf
    refine CutK.go ?_
    conv => whnf
    refine CutK.go ?_
    conv => whnf
    obtain ⟨y5, e6, h⟩ := bind_ex h
    refine CallOk.of (spec_odOwn_ct e6) ?_
    conv => whnf
    refine CutK.go ?_
    conv => whnf
    cases h
    exact Done.of [some 576] [] rfl rfl ⟨⟨rfl, rfl⟩, ⟨rfl, ⟨rfl, rfl, rows_same⟩, trivial⟩, ⟨⟨⟨rfl, rfl⟩, trivial⟩, rfl, trivial⟩, trivial⟩
  · replace h := iteF h g4
    conv => whnf
    refine CutK.go ?_
    conv => whnf
    cases h
    exact Done.of [none] [] rfl rfl ⟨⟨rfl, rfl⟩, ⟨rfl, rfl, trivial⟩, ⟨⟨⟨rfl, rfl⟩, trivial⟩, rfl, trivial⟩, trivial⟩

def spec_LengthOfWord (k : Nat) (a1 : Rw) : Option (Rw × Bool) :=
  ((spec_woGood k a1).bind fun y2 => (if y2 = true then ((spec_woLength k a1).bind fun y5 => ((spec_odIf k y5).bind fun y7 => (if y7.2 = true then some (y7.1, true) else some (y7.1, false)))) else some (([] : Rw), false)))
set_option maxHeartbeats 4000000 in
set_option maxRecDepth 100000 in
theorem spec_LengthOfWord_ct {k : Nat} {a1 : Rw} {r : Rw × Bool} (h : spec_LengthOfWord k a1 = some r) : Ct prog 54 [.agg [.d (D.sl a1)]] (⟨[], []⟩) (.tup [.agg [.os 8 r.1.length], .d (D.bool r.2)]) (⟨[], [(98, true, r.1)]⟩) := by
  rw [spec_LengthOfWord] at h
  refine Ct.of (c := _) mixed func54 ⟨rfl, rfl, rfl⟩ ?_ rfl
  conv => whnf
  obtain ⟨y2, e3, h⟩ := bind_ex h
  refine CallOk.of (spec_woGood_ct e3) ?_
  conv => whnf
  refine spl (fun g4 => ?_) (fun g4 => ?_)
  · replace h := iteT h g4
    conv => whnf
    refine CutK.go ?_
    conv => whnf
    refine CutK.go ?_
    conv => whnf
    obtain ⟨y5, e6, h⟩ := bind_ex h
    refine CallOk.of (spec_woLength_ct e6) ?_
    conv => whnf
    refine Take.all (rfl) ?_
    conv => whnf
    obtain ⟨y7, e8, h⟩ := bind_ex h
    refine CallOk.of (spec_odIf_ct e8) ?_
    conv => whnf
    refine spl (fun g9 => ?_) (fun g9 => ?_)
    · replace h := iteT h g9
      conv => whnf
      refine CutK.go ?_
      conv => whnf
      cases h
      exact Done.of [some 640] [] rfl rfl ⟨⟨rfl, rfl⟩, ⟨rfl, ⟨rfl, rfl, rows_same⟩, trivial⟩, ⟨⟨⟨rfl, rfl⟩, trivial⟩, rfl, trivial⟩, trivial⟩
    · replace h := iteF h g9
      conv => whnf
      refine CutK.go ?_
      conv => whnf
      cases h
      exact Done.of [some 640] [] rfl rfl ⟨⟨rfl, rfl⟩, ⟨rfl, ⟨rfl, rfl, rows_same⟩, trivial⟩, ⟨⟨⟨rfl, rfl⟩, trivial⟩, rfl, trivial⟩, trivial⟩
  · replace h := iteF h g4
    conv => whnf
    refine CutK.go ?_
    conv => whnf
    cases h
    exact Done.of [none] [] rfl rfl ⟨⟨rfl, rfl⟩, ⟨rfl, rfl, trivial⟩, ⟨⟨⟨rfl, rfl⟩, trivial⟩, rfl, trivial⟩, trivial⟩

def laws_FnExactLengthOfWord_p22 (o164 : Int) (o165 : Int) : Option Bool :=
  (if o165 < (0 : Int) then some false else (if o165 = o164 then some true else some false))
set_option maxHeartbeats 4000000 in
set_option maxRecDepth 100000 in
theorem laws_FnExactLengthOfWord_p22_ct {o164 : Int} {o165 : Int} {r : Bool} (h : laws_FnExactLengthOfWord_p22 o164 o165 = some r) : X prog 0 (tlF f11 22) (mk 96 [(10, .d (D.int .i64 o164)), (11, .d (D.int .i64 o165))] []) (finK prog f11 0 (.d (D.bool r)) (⟨[], []⟩)) := by
  rw [laws_FnExactLengthOfWord_p22] at h
  conv => whnf
  refine splD (fun g168 => ?_) (fun g168 => ?_)
  · replace h := iteP h g168
    conv => whnf
    cases h
    exact Done.of [] [] rfl rfl ⟨⟨rfl, rfl⟩, ⟨rfl, trivial⟩, rfl, trivial⟩
  · replace h := iteN h g168
    conv => whnf
    refine splN (fun g169 => ?_) (fun g169 => ?_)
    · replace h := iteN h g169
      conv => whnf
      cases h
      exact Done.of [] [] rfl rfl ⟨⟨rfl, rfl⟩, ⟨rfl, trivial⟩, rfl, trivial⟩
    · replace h := iteP h g169
      conv => whnf
      cases h
      exact Done.of [] [] rfl rfl ⟨⟨rfl, rfl⟩, ⟨rfl, trivial⟩, rfl, trivial⟩
def laws_FnExactLengthOfWord_p20 (k : Nat) (o151 : Int) (o152 : Rw) : Option Bool :=
  ((laws_heldOrdinal k o152 1).bind fun y170 => (laws_FnExactLengthOfWord_p22 o151 y170))
set_option maxHeartbeats 4000000 in
set_option maxRecDepth 100000 in
theorem laws_FnExactLengthOfWord_p20_ct {k : Nat} {o151 : Int} {o152 : Rw} {r : Bool} (h : laws_FnExactLengthOfWord_p20 k o151 o152 = some r) : X prog 0 (tlF f11 20) (mk 96 [(7, .ptr 448 0), (10, .d (D.int .i64 o151))] [(448, .box 26 [.os 1164000 o152.length]), (1164000, .arr 98 true o152)]) (finK prog f11 0 (.d (D.bool r)) (⟨[], []⟩)) := by
  rw [laws_FnExactLengthOfWord_p20] at h
  conv => whnf
  refine Choice.old ?_
  conv => whnf
  refine Take.all (rfl) ?_
  conv => whnf
  obtain ⟨y170, e171, h⟩ := bind_ex h
  refine CallOk.of (laws_heldOrdinal_ct e171) ?_
  conv => whnf
  exact CutK.piece (laws_FnExactLengthOfWord_p22_ct  h) [] [] ⟨⟨rfl, rfl⟩, ⟨rfl, trivial⟩, rfl, rfl, trivial⟩
def laws_FnExactLengthOfWord_p19 (k : Nat) (o135 : Int) (o136 : Rw) (o137 : Rw) (o138 : Rw) (v139 : Bool) (v147 : Bool) : Option Bool :=
  (cond v139 (cond v147 ((laws_eqOrdinal k o138 o136).bind fun y181 => (if y181 = true then (laws_FnExactLengthOfWord_p20 k o135 o137) else some false)) ((laws_eqOrdinal k o138 o136).bind fun y178 => (if y178 = true then some false else some false))) (cond v147 ((laws_eqOrdinal k o138 o136).bind fun y175 => (if y175 = true then some false else some false)) ((laws_eqOrdinal k o138 o136).bind fun y172 => (if y172 = true then (laws_FnExactLengthOfWord_p20 k o135 o137) else some false))))
set_option maxHeartbeats 4000000 in
set_option maxRecDepth 100000 in
theorem laws_FnExactLengthOfWord_p19_ct {k : Nat} {o135 : Int} {o136 : Rw} {o137 : Rw} {o138 : Rw} {v139 : Bool} {v147 : Bool} {r : Bool} (h : laws_FnExactLengthOfWord_p19 k o135 o136 o137 o138 v139 v147 = some r) : X prog 0 (tlF f11 19) (mk 96 [(4, .ptr 256 0), (5, .d (D.bool v147)), (7, .ptr 448 0), (10, .d (D.int .i64 o135)), (12, .ptr 768 0), (13, .d (D.bool v139))] [(256, .box 26 [.os 1159000 o136.length]), (448, .box 26 [.os 1159001 o137.length]), (768, .box 26 [.os 1159002 o138.length]), (1159000, .arr 98 true o136), (1159001, .arr 98 true o137), (1159002, .arr 98 true o138)]) (finK prog f11 0 (.d (D.bool r)) (⟨[], []⟩)) := by
  rw [laws_FnExactLengthOfWord_p19] at h
  cases v139
  · replace h := condF h
    cases v147
    · replace h := condF h
      conv => whnf
      refine Take.all (rfl) ?_
      conv => whnf
      refine Take.all (rfl) ?_
      conv => whnf
      obtain ⟨y172, e173, h⟩ := bind_ex h
      refine CallOk.of (laws_eqOrdinal_ct e173) ?_
      conv => whnf
      refine spl (fun g174 => ?_) (fun g174 => ?_)
      · replace h := iteT h g174
        conv => whnf
        refine splF ?_
        conv => whnf
        refine CutK.norm [7, 10, 87] [448, 1159001] ?_
        conv => whnf
        exact CutK.piece (laws_FnExactLengthOfWord_p20_ct  h) [some 448, some 1159001] [] ⟨⟨rfl, rfl⟩, ⟨rfl, ⟨rfl, ⟨rfl, rfl⟩, trivial⟩, ⟨rfl, rfl, rows_same⟩, trivial⟩, ⟨rfl, rfl⟩, rfl, trivial⟩
      · replace h := iteF h g174
        conv => whnf
        refine CutK.norm [7, 10, 87] [448, 1159001] ?_
        conv => whnf
        cases h
        exact Done.of [] [] rfl rfl ⟨⟨rfl, rfl⟩, ⟨rfl, trivial⟩, rfl, trivial⟩
    · replace h := condT h
      conv => whnf
      refine Take.all (rfl) ?_
      conv => whnf
      refine Take.all (rfl) ?_
      conv => whnf
      obtain ⟨y175, e176, h⟩ := bind_ex h
      refine CallOk.of (laws_eqOrdinal_ct e176) ?_
      conv => whnf
      refine spl (fun g177 => ?_) (fun g177 => ?_)
      · replace h := iteT h g177
        conv => whnf
        refine splT ?_
        conv => whnf
        refine CutK.norm [7, 10, 87] [448, 1159001] ?_
        conv => whnf
        cases h
        exact Done.of [] [] rfl rfl ⟨⟨rfl, rfl⟩, ⟨rfl, trivial⟩, rfl, trivial⟩
      · replace h := iteF h g177
        conv => whnf
        refine CutK.norm [7, 10, 87] [448, 1159001] ?_
        conv => whnf
        cases h
        exact Done.of [] [] rfl rfl ⟨⟨rfl, rfl⟩, ⟨rfl, trivial⟩, rfl, trivial⟩
  · replace h := condT h
    cases v147
    · replace h := condF h
      conv => whnf
      refine Take.all (rfl) ?_
      conv => whnf
      refine Take.all (rfl) ?_
      conv => whnf
      obtain ⟨y178, e179, h⟩ := bind_ex h
      refine CallOk.of (laws_eqOrdinal_ct e179) ?_
      conv => whnf
      refine spl (fun g180 => ?_) (fun g180 => ?_)
      · replace h := iteT h g180
        conv => whnf
        refine splT ?_
        conv => whnf
        refine CutK.norm [7, 10, 87] [448, 1159001] ?_
        conv => whnf
        cases h
        exact Done.of [] [] rfl rfl ⟨⟨rfl, rfl⟩, ⟨rfl, trivial⟩, rfl, trivial⟩
      · replace h := iteF h g180
        conv => whnf
        refine CutK.norm [7, 10, 87] [448, 1159001] ?_
        conv => whnf
        cases h
        exact Done.of [] [] rfl rfl ⟨⟨rfl, rfl⟩, ⟨rfl, trivial⟩, rfl, trivial⟩
    · replace h := condT h
      conv => whnf
      refine Take.all (rfl) ?_
      conv => whnf
      refine Take.all (rfl) ?_
      conv => whnf
      obtain ⟨y181, e182, h⟩ := bind_ex h
      refine CallOk.of (laws_eqOrdinal_ct e182) ?_
      conv => whnf
      refine spl (fun g183 => ?_) (fun g183 => ?_)
      · replace h := iteT h g183
        conv => whnf
        refine splF ?_
        conv => whnf
        refine CutK.norm [7, 10, 87] [448, 1159001] ?_
        conv => whnf
        exact CutK.piece (laws_FnExactLengthOfWord_p20_ct  h) [some 448, some 1159001] [] ⟨⟨rfl, rfl⟩, ⟨rfl, ⟨rfl, ⟨rfl, rfl⟩, trivial⟩, ⟨rfl, rfl, rows_same⟩, trivial⟩, ⟨rfl, rfl⟩, rfl, trivial⟩
      · replace h := iteF h g183
        conv => whnf
        refine CutK.norm [7, 10, 87] [448, 1159001] ?_
        conv => whnf
        cases h
        exact Done.of [] [] rfl rfl ⟨⟨rfl, rfl⟩, ⟨rfl, trivial⟩, rfl, trivial⟩
def laws_FnExactLengthOfWord_p16 (k : Nat) (a1 : Rw) (o121 : Int) (o122 : Int) (o123 : Rw) (o124 : Rw) (v127 : Bool) : Option Bool :=
  (cond v127 (if o122 < (0 : Int) then some false else (if o122 = o121 then ((laws_toWord k a1).bind fun y193 => ((impl_LengthOfWord k y193).bind fun y195 => (if y195.2 = true then (laws_FnExactLengthOfWord_p19 k o121 o123 o124 y195.1 true true) else (laws_FnExactLengthOfWord_p19 k o121 o123 o124 y195.1 false true)))) else some false)) (if o122 < (0 : Int) then some false else (if o122 = o121 then ((laws_toWord k a1).bind fun y186 => ((impl_LengthOfWord k y186).bind fun y188 => (if y188.2 = true then (laws_FnExactLengthOfWord_p19 k o121 o123 o124 y188.1 true false) else (laws_FnExactLengthOfWord_p19 k o121 o123 o124 y188.1 false false)))) else some false)))
set_option maxHeartbeats 4000000 in
set_option maxRecDepth 100000 in
theorem laws_FnExactLengthOfWord_p16_ct {k : Nat} {a1 : Rw} {o121 : Int} {o122 : Int} {o123 : Rw} {o124 : Rw} {v127 : Bool} {r : Bool} (h : laws_FnExactLengthOfWord_p16 k a1 o121 o122 o123 o124 v127 = some r) : X prog 0 (tlF f11 16) (mk 96 [(1, .ptr 64 0), (4, .ptr 256 0), (5, .d (D.bool v127)), (7, .ptr 448 0), (10, .d (D.int .i64 o121)), (11, .d (D.int .i64 o122))] [(64, .box 57 [.d (D.sl a1)]), (256, .box 26 [.os 1144000 o123.length]), (448, .box 26 [.os 1144001 o124.length]), (1144000, .arr 98 true o123), (1144001, .arr 98 true o124)]) (finK prog f11 0 (.d (D.bool r)) (⟨[], []⟩)) := by
  rw [laws_FnExactLengthOfWord_p16] at h
  cases v127
  · replace h := condF h
    conv => whnf
    refine splD (fun g184 => ?_) (fun g184 => ?_)
    · replace h := iteP h g184
      conv => whnf
      cases h
      exact Done.of [] [] rfl rfl ⟨⟨rfl, rfl⟩, ⟨rfl, trivial⟩, rfl, trivial⟩
    · replace h := iteN h g184
      conv => whnf
      refine splN (fun g185 => ?_) (fun g185 => ?_)
      · replace h := iteN h g185
        conv => whnf
        cases h
        exact Done.of [] [] rfl rfl ⟨⟨rfl, rfl⟩, ⟨rfl, trivial⟩, rfl, trivial⟩
      · replace h := iteP h g185
        conv => whnf
        obtain ⟨y186, e187, h⟩ := bind_ex h
        refine CallOk.of (laws_toWord_ct e187) ?_
        conv => whnf
        refine Take.all (rfl) ?_
        conv => whnf
        obtain ⟨y188, e189, h⟩ := bind_ex h
        refine CallOk.of (impl_LengthOfWord_ct e189) ?_
        conv => whnf
        refine spl (fun g190 => ?_) (fun g190 => ?_)
        · replace h := iteT h g190
          conv => whnf
          exact CutK.piece (laws_FnExactLengthOfWord_p19_ct  h) [some 256, some 448, some 768, some 1144000, some 1144001, some 4864] [] ⟨⟨rfl, rfl⟩, ⟨rfl, ⟨rfl, ⟨rfl, rfl⟩, trivial⟩, ⟨rfl, ⟨rfl, rfl⟩, trivial⟩, ⟨rfl, ⟨rfl, rfl⟩, trivial⟩, ⟨rfl, rfl, rows_same⟩, ⟨rfl, rfl, rows_same⟩, ⟨rfl, rfl, rows_same⟩, trivial⟩, ⟨rfl, rfl⟩, rfl, ⟨rfl, rfl⟩, rfl, ⟨rfl, rfl⟩, rfl, trivial⟩
        · replace h := iteF h g190
          conv => whnf
          exact CutK.piece (laws_FnExactLengthOfWord_p19_ct  h) [some 256, some 448, some 768, some 1144000, some 1144001, some 4864] [] ⟨⟨rfl, rfl⟩, ⟨rfl, ⟨rfl, ⟨rfl, rfl⟩, trivial⟩, ⟨rfl, ⟨rfl, rfl⟩, trivial⟩, ⟨rfl, ⟨rfl, rfl⟩, trivial⟩, ⟨rfl, rfl, rows_same⟩, ⟨rfl, rfl, rows_same⟩, ⟨rfl, rfl, rows_same⟩, trivial⟩, ⟨rfl, rfl⟩, rfl, ⟨rfl, rfl⟩, rfl, ⟨rfl, rfl⟩, rfl, trivial⟩
  · replace h := condT h
    conv => whnf
    refine splD (fun g191 => ?_) (fun g191 => ?_)
    · replace h := iteP h g191
      conv => whnf
      cases h
      exact Done.of [] [] rfl rfl ⟨⟨rfl, rfl⟩, ⟨rfl, trivial⟩, rfl, trivial⟩
    · replace h := iteN h g191
      conv => whnf
      refine splN (fun g192 => ?_) (fun g192 => ?_)
      · replace h := iteN h g192
        conv => whnf
        cases h
        exact Done.of [] [] rfl rfl ⟨⟨rfl, rfl⟩, ⟨rfl, trivial⟩, rfl, trivial⟩
      · replace h := iteP h g192
        conv => whnf
        obtain ⟨y193, e194, h⟩ := bind_ex h
        refine CallOk.of (laws_toWord_ct e194) ?_
        conv => whnf
        refine Take.all (rfl) ?_
        conv => whnf
        obtain ⟨y195, e196, h⟩ := bind_ex h
        refine CallOk.of (impl_LengthOfWord_ct e196) ?_
        conv => whnf
        refine spl (fun g197 => ?_) (fun g197 => ?_)
        · replace h := iteT h g197
          conv => whnf
          exact CutK.piece (laws_FnExactLengthOfWord_p19_ct  h) [some 256, some 448, some 768, some 1144000, some 1144001, some 4864] [] ⟨⟨rfl, rfl⟩, ⟨rfl, ⟨rfl, ⟨rfl, rfl⟩, trivial⟩, ⟨rfl, ⟨rfl, rfl⟩, trivial⟩, ⟨rfl, ⟨rfl, rfl⟩, trivial⟩, ⟨rfl, rfl, rows_same⟩, ⟨rfl, rfl, rows_same⟩, ⟨rfl, rfl, rows_same⟩, trivial⟩, ⟨rfl, rfl⟩, rfl, ⟨rfl, rfl⟩, rfl, ⟨rfl, rfl⟩, rfl, trivial⟩
        · replace h := iteF h g197
          conv => whnf
          exact CutK.piece (laws_FnExactLengthOfWord_p19_ct  h) [some 256, some 448, some 768, some 1144000, some 1144001, some 4864] [] ⟨⟨rfl, rfl⟩, ⟨rfl, ⟨rfl, ⟨rfl, rfl⟩, trivial⟩, ⟨rfl, ⟨rfl, rfl⟩, trivial⟩, ⟨rfl, ⟨rfl, rfl⟩, trivial⟩, ⟨rfl, rfl, rows_same⟩, ⟨rfl, rfl, rows_same⟩, ⟨rfl, rfl, rows_same⟩, trivial⟩, ⟨rfl, rfl⟩, rfl, ⟨rfl, rfl⟩, rfl, ⟨rfl, rfl⟩, rfl, trivial⟩
def laws_FnExactLengthOfWord_p14 (k : Nat) (a1 : Rw) (o112 : Int) (o113 : Rw) (o114 : Rw) (v118 : Bool) : Option Bool :=
  (cond v118 ((laws_heldOrdinal k o114 1).bind fun y200 => (laws_FnExactLengthOfWord_p16 k a1 o112 y200 o113 o114 true)) ((laws_heldOrdinal k o114 1).bind fun y198 => (laws_FnExactLengthOfWord_p16 k a1 o112 y198 o113 o114 false)))
set_option maxHeartbeats 4000000 in
set_option maxRecDepth 100000 in
theorem laws_FnExactLengthOfWord_p14_ct {k : Nat} {a1 : Rw} {o112 : Int} {o113 : Rw} {o114 : Rw} {v118 : Bool} {r : Bool} (h : laws_FnExactLengthOfWord_p14 k a1 o112 o113 o114 v118 = some r) : X prog 0 (tlF f11 14) (mk 96 [(1, .ptr 64 0), (4, .ptr 256 0), (5, .d (D.bool v118)), (7, .ptr 448 0), (10, .d (D.int .i64 o112))] [(64, .box 57 [.d (D.sl a1)]), (256, .box 26 [.os 1134000 o113.length]), (448, .box 26 [.os 1134001 o114.length]), (1134000, .arr 98 true o113), (1134001, .arr 98 true o114)]) (finK prog f11 0 (.d (D.bool r)) (⟨[], []⟩)) := by
  rw [laws_FnExactLengthOfWord_p14] at h
  cases v118
  · replace h := condF h
    conv => whnf
    refine Choice.old ?_
    conv => whnf
    refine Take.all (rfl) ?_
    conv => whnf
    obtain ⟨y198, e199, h⟩ := bind_ex h
    refine CallOk.of (laws_heldOrdinal_ct e199) ?_
    conv => whnf
    exact CutK.piece (laws_FnExactLengthOfWord_p16_ct  h) [some 64, some 256, some 448, some 1134000, some 1134001] [] ⟨⟨rfl, rfl⟩, ⟨rfl, ⟨rfl, rfl, trivial⟩, ⟨rfl, ⟨rfl, rfl⟩, trivial⟩, ⟨rfl, ⟨rfl, rfl⟩, trivial⟩, ⟨rfl, rfl, rows_same⟩, ⟨rfl, rfl, rows_same⟩, trivial⟩, ⟨rfl, rfl⟩, ⟨rfl, rfl⟩, rfl, ⟨rfl, rfl⟩, rfl, rfl, trivial⟩
  · replace h := condT h
    conv => whnf
    refine Choice.old ?_
    conv => whnf
    refine Take.all (rfl) ?_
    conv => whnf
    obtain ⟨y200, e201, h⟩ := bind_ex h
    refine CallOk.of (laws_heldOrdinal_ct e201) ?_
    conv => whnf
    exact CutK.piece (laws_FnExactLengthOfWord_p16_ct  h) [some 64, some 256, some 448, some 1134000, some 1134001] [] ⟨⟨rfl, rfl⟩, ⟨rfl, ⟨rfl, rfl, trivial⟩, ⟨rfl, ⟨rfl, rfl⟩, trivial⟩, ⟨rfl, ⟨rfl, rfl⟩, trivial⟩, ⟨rfl, rfl, rows_same⟩, ⟨rfl, rfl, rows_same⟩, trivial⟩, ⟨rfl, rfl⟩, ⟨rfl, rfl⟩, rfl, ⟨rfl, rfl⟩, rfl, rfl, trivial⟩
def laws_FnExactLengthOfWord_p12 (k : Nat) (a1 : Rw) (o94 : Rw) (o95 : Rw) (v108 : Bool) : Option Bool :=
  (cond v108 ((laws_markOrdinal k o95 1).bind fun y205 => (if y205.2.length = o95.length then (laws_FnExactLengthOfWord_p14 k a1 y205.1 o94 y205.2 true) else none)) ((laws_markOrdinal k o95 1).bind fun y202 => (if y202.2.length = o95.length then (laws_FnExactLengthOfWord_p14 k a1 y202.1 o94 y202.2 false) else none)))
set_option maxHeartbeats 4000000 in
set_option maxRecDepth 100000 in
theorem laws_FnExactLengthOfWord_p12_ct {k : Nat} {a1 : Rw} {o94 : Rw} {o95 : Rw} {v108 : Bool} {r : Bool} (h : laws_FnExactLengthOfWord_p12 k a1 o94 o95 v108 = some r) : X prog 0 (tlF f11 12) (mk 96 [(1, .ptr 64 0), (4, .ptr 256 0), (5, .d (D.bool v108)), (7, .ptr 448 0)] [(64, .box 57 [.d (D.sl a1)]), (256, .box 26 [.os 1124000 o94.length]), (448, .box 26 [.os 1124001 o95.length]), (1124000, .arr 98 true o94), (1124001, .arr 98 true o95)]) (finK prog f11 0 (.d (D.bool r)) (⟨[], []⟩)) := by
  rw [laws_FnExactLengthOfWord_p12] at h
  cases v108
  · replace h := condF h
    conv => whnf
    refine Choice.new ?_
    conv => whnf
    refine Req.of (rfl) ?_
    conv => whnf
    obtain ⟨y202, e203, h⟩ := bind_ex h
    refine MarkOk.of (laws_markOrdinal_ct e203) ?_
    conv => whnf
    obtain ⟨g204, h⟩ := req_ex h
    exact CutK.piece (laws_FnExactLengthOfWord_p14_ct  h) [some 64, some 256, some 448, some 1124000, some 1124001] [] ⟨⟨rfl, rfl⟩, ⟨rfl, ⟨rfl, rfl, trivial⟩, ⟨rfl, ⟨rfl, rfl⟩, trivial⟩, ⟨rfl, ⟨(by first | rfl | exact List.length_append.symm | (simp; done) | omega), rfl⟩, trivial⟩, ⟨rfl, rfl, rows_same⟩, ⟨rfl, rfl, rows_same⟩, trivial⟩, ⟨rfl, rfl⟩, ⟨rfl, rfl⟩, rfl, ⟨rfl, rfl⟩, rfl, trivial⟩
  · replace h := condT h
    conv => whnf
    refine Choice.new ?_
    conv => whnf
    refine Req.of (rfl) ?_
    conv => whnf
    obtain ⟨y205, e206, h⟩ := bind_ex h
    refine MarkOk.of (laws_markOrdinal_ct e206) ?_
    conv => whnf
    obtain ⟨g207, h⟩ := req_ex h
    exact CutK.piece (laws_FnExactLengthOfWord_p14_ct  h) [some 64, some 256, some 448, some 1124000, some 1124001] [] ⟨⟨rfl, rfl⟩, ⟨rfl, ⟨rfl, rfl, trivial⟩, ⟨rfl, ⟨rfl, rfl⟩, trivial⟩, ⟨rfl, ⟨(by first | rfl | exact List.length_append.symm | (simp; done) | omega), rfl⟩, trivial⟩, ⟨rfl, rfl, rows_same⟩, ⟨rfl, rfl, rows_same⟩, trivial⟩, ⟨rfl, rfl⟩, ⟨rfl, rfl⟩, rfl, ⟨rfl, rfl⟩, rfl, trivial⟩
def laws_FnExactLengthOfWord_p11 (k : Nat) (a1 : Rw) (o76 : Int) (o77 : Rw) (o78 : Rw) (v82 : Bool) (v86 : Bool) : Option Bool :=
  (cond v82 (cond v86 (if o76 < (0 : Int) then some false else ((laws_eqOrdinal k o78 o77).bind fun y221 => (if y221 = true then (laws_FnExactLengthOfWord_p12 k a1 o77 o78 true) else some false))) (if o76 < (0 : Int) then some false else ((laws_eqOrdinal k o78 o77).bind fun y217 => (if y217 = true then some false else some false)))) (cond v86 (if o76 < (0 : Int) then some false else ((laws_eqOrdinal k o78 o77).bind fun y213 => (if y213 = true then some false else some false))) (if o76 < (0 : Int) then some false else ((laws_eqOrdinal k o78 o77).bind fun y209 => (if y209 = true then (laws_FnExactLengthOfWord_p12 k a1 o77 o78 false) else some false)))))
set_option maxHeartbeats 4000000 in
set_option maxRecDepth 100000 in
theorem laws_FnExactLengthOfWord_p11_ct {k : Nat} {a1 : Rw} {o76 : Int} {o77 : Rw} {o78 : Rw} {v82 : Bool} {v86 : Bool} {r : Bool} (h : laws_FnExactLengthOfWord_p11 k a1 o76 o77 o78 v82 v86 = some r) : X prog 0 (tlF f11 11) (mk 96 [(1, .ptr 64 0), (4, .ptr 256 0), (5, .d (D.bool v82)), (7, .ptr 448 0), (8, .d (D.bool v86)), (9, .d (D.int .i64 o76))] [(64, .box 57 [.d (D.sl a1)]), (256, .box 26 [.os 1119000 o77.length]), (448, .box 26 [.os 1119001 o78.length]), (1119000, .arr 98 true o77), (1119001, .arr 98 true o78)]) (finK prog f11 0 (.d (D.bool r)) (⟨[], []⟩)) := by
  rw [laws_FnExactLengthOfWord_p11] at h
  cases v82
  · replace h := condF h
    cases v86
    · replace h := condF h
      conv => whnf
      refine splD (fun g208 => ?_) (fun g208 => ?_)
      · replace h := iteP h g208
        conv => whnf
        refine CutK.norm [1, 4, 5, 7, 61] [64, 256, 448, 1119000, 1119001] ?_
        conv => whnf
        cases h
        exact Done.of [] [] rfl rfl ⟨⟨rfl, rfl⟩, ⟨rfl, trivial⟩, rfl, trivial⟩
      · replace h := iteN h g208
        conv => whnf
        refine Take.all (rfl) ?_
        conv => whnf
        refine Take.all (rfl) ?_
        conv => whnf
        obtain ⟨y209, e210, h⟩ := bind_ex h
        refine CallOk.of (laws_eqOrdinal_ct e210) ?_
        conv => whnf
        refine spl (fun g211 => ?_) (fun g211 => ?_)
        · replace h := iteT h g211
          conv => whnf
          refine splF ?_
          conv => whnf
          refine CutK.norm [1, 4, 5, 7, 61] [64, 256, 448, 1119000, 1119001] ?_
          conv => whnf
          exact CutK.piece (laws_FnExactLengthOfWord_p12_ct  h) [some 64, some 256, some 448, some 1119000, some 1119001] [] ⟨⟨rfl, rfl⟩, ⟨rfl, ⟨rfl, rfl, trivial⟩, ⟨rfl, ⟨rfl, rfl⟩, trivial⟩, ⟨rfl, ⟨rfl, rfl⟩, trivial⟩, ⟨rfl, rfl, rows_same⟩, ⟨rfl, rfl, rows_same⟩, trivial⟩, ⟨rfl, rfl⟩, ⟨rfl, rfl⟩, rfl, ⟨rfl, rfl⟩, trivial⟩
        · replace h := iteF h g211
          conv => whnf
          refine CutK.norm [1, 4, 5, 7, 61] [64, 256, 448, 1119000, 1119001] ?_
          conv => whnf
          cases h
          exact Done.of [] [] rfl rfl ⟨⟨rfl, rfl⟩, ⟨rfl, trivial⟩, rfl, trivial⟩
    · replace h := condT h
      conv => whnf
      refine splD (fun g212 => ?_) (fun g212 => ?_)
      · replace h := iteP h g212
        conv => whnf
        refine CutK.norm [1, 4, 5, 7, 61] [64, 256, 448, 1119000, 1119001] ?_
        conv => whnf
        cases h
        exact Done.of [] [] rfl rfl ⟨⟨rfl, rfl⟩, ⟨rfl, trivial⟩, rfl, trivial⟩
      · replace h := iteN h g212
        conv => whnf
        refine Take.all (rfl) ?_
        conv => whnf
        refine Take.all (rfl) ?_
        conv => whnf
        obtain ⟨y213, e214, h⟩ := bind_ex h
        refine CallOk.of (laws_eqOrdinal_ct e214) ?_
        conv => whnf
        refine spl (fun g215 => ?_) (fun g215 => ?_)
        · replace h := iteT h g215
          conv => whnf
          refine splT ?_
          conv => whnf
          refine CutK.norm [1, 4, 5, 7, 61] [64, 256, 448, 1119000, 1119001] ?_
          conv => whnf
          cases h
          exact Done.of [] [] rfl rfl ⟨⟨rfl, rfl⟩, ⟨rfl, trivial⟩, rfl, trivial⟩
        · replace h := iteF h g215
          conv => whnf
          refine CutK.norm [1, 4, 5, 7, 61] [64, 256, 448, 1119000, 1119001] ?_
          conv => whnf
          cases h
          exact Done.of [] [] rfl rfl ⟨⟨rfl, rfl⟩, ⟨rfl, trivial⟩, rfl, trivial⟩
  · replace h := condT h
    cases v86
    · replace h := condF h
      conv => whnf
      refine splD (fun g216 => ?_) (fun g216 => ?_)
      · replace h := iteP h g216
        conv => whnf
        refine CutK.norm [1, 4, 5, 7, 61] [64, 256, 448, 1119000, 1119001] ?_
        conv => whnf
        cases h
        exact Done.of [] [] rfl rfl ⟨⟨rfl, rfl⟩, ⟨rfl, trivial⟩, rfl, trivial⟩
      · replace h := iteN h g216
        conv => whnf
        refine Take.all (rfl) ?_
        conv => whnf
        refine Take.all (rfl) ?_
        conv => whnf
        obtain ⟨y217, e218, h⟩ := bind_ex h
        refine CallOk.of (laws_eqOrdinal_ct e218) ?_
        conv => whnf
        refine spl (fun g219 => ?_) (fun g219 => ?_)
        · replace h := iteT h g219
          conv => whnf
          refine splT ?_
          conv => whnf
          refine CutK.norm [1, 4, 5, 7, 61] [64, 256, 448, 1119000, 1119001] ?_
          conv => whnf
          cases h
          exact Done.of [] [] rfl rfl ⟨⟨rfl, rfl⟩, ⟨rfl, trivial⟩, rfl, trivial⟩
        · replace h := iteF h g219
          conv => whnf
          refine CutK.norm [1, 4, 5, 7, 61] [64, 256, 448, 1119000, 1119001] ?_
          conv => whnf
          cases h
          exact Done.of [] [] rfl rfl ⟨⟨rfl, rfl⟩, ⟨rfl, trivial⟩, rfl, trivial⟩
    · replace h := condT h
      conv => whnf
      refine splD (fun g220 => ?_) (fun g220 => ?_)
      · replace h := iteP h g220
        conv => whnf
        refine CutK.norm [1, 4, 5, 7, 61] [64, 256, 448, 1119000, 1119001] ?_
        conv => whnf
        cases h
        exact Done.of [] [] rfl rfl ⟨⟨rfl, rfl⟩, ⟨rfl, trivial⟩, rfl, trivial⟩
      · replace h := iteN h g220
        conv => whnf
        refine Take.all (rfl) ?_
        conv => whnf
        refine Take.all (rfl) ?_
        conv => whnf
        obtain ⟨y221, e222, h⟩ := bind_ex h
        refine CallOk.of (laws_eqOrdinal_ct e222) ?_
        conv => whnf
        refine spl (fun g223 => ?_) (fun g223 => ?_)
        · replace h := iteT h g223
          conv => whnf
          refine splF ?_
          conv => whnf
          refine CutK.norm [1, 4, 5, 7, 61] [64, 256, 448, 1119000, 1119001] ?_
          conv => whnf
          exact CutK.piece (laws_FnExactLengthOfWord_p12_ct  h) [some 64, some 256, some 448, some 1119000, some 1119001] [] ⟨⟨rfl, rfl⟩, ⟨rfl, ⟨rfl, rfl, trivial⟩, ⟨rfl, ⟨rfl, rfl⟩, trivial⟩, ⟨rfl, ⟨rfl, rfl⟩, trivial⟩, ⟨rfl, rfl, rows_same⟩, ⟨rfl, rfl, rows_same⟩, trivial⟩, ⟨rfl, rfl⟩, ⟨rfl, rfl⟩, rfl, ⟨rfl, rfl⟩, trivial⟩
        · replace h := iteF h g223
          conv => whnf
          refine CutK.norm [1, 4, 5, 7, 61] [64, 256, 448, 1119000, 1119001] ?_
          conv => whnf
          cases h
          exact Done.of [] [] rfl rfl ⟨⟨rfl, rfl⟩, ⟨rfl, trivial⟩, rfl, trivial⟩
def laws_FnExactLengthOfWord_p9 (k : Nat) (a1 : Rw) (o53 : Rw) (o54 : Rw) (o55 : Rw) (v61 : Bool) (v67 : Bool) : Option Bool :=
  (cond v61 (cond v67 ((laws_markWord k o54 1).bind fun y233 => (if y233.2.length = o54.length then (laws_FnExactLengthOfWord_p11 k a1 y233.1 o53 o55 true true) else none)) ((laws_markWord k o54 1).bind fun y230 => (if y230.2.length = o54.length then (laws_FnExactLengthOfWord_p11 k a1 y230.1 o53 o55 false true) else none))) (cond v67 ((laws_markWord k o54 1).bind fun y227 => (if y227.2.length = o54.length then (laws_FnExactLengthOfWord_p11 k a1 y227.1 o53 o55 true false) else none)) ((laws_markWord k o54 1).bind fun y224 => (if y224.2.length = o54.length then (laws_FnExactLengthOfWord_p11 k a1 y224.1 o53 o55 false false) else none))))
set_option maxHeartbeats 4000000 in
set_option maxRecDepth 100000 in
theorem laws_FnExactLengthOfWord_p9_ct {k : Nat} {a1 : Rw} {o53 : Rw} {o54 : Rw} {o55 : Rw} {v61 : Bool} {v67 : Bool} {r : Bool} (h : laws_FnExactLengthOfWord_p9 k a1 o53 o54 o55 v61 v67 = some r) : X prog 0 (tlF f11 9) (mk 96 [(1, .ptr 64 0), (4, .ptr 256 0), (5, .d (D.bool v67)), (6, .ptr 384 0), (7, .ptr 448 0), (8, .d (D.bool v61))] [(64, .box 57 [.d (D.sl a1)]), (256, .box 26 [.os 1109000 o53.length]), (384, .box 61 [.os 1109001 o54.length]), (448, .box 26 [.os 1109002 o55.length]), (1109000, .arr 98 true o53), (1109001, .arr 150 true o54), (1109002, .arr 98 true o55)]) (finK prog f11 0 (.d (D.bool r)) (⟨[], []⟩)) := by
  rw [laws_FnExactLengthOfWord_p9] at h
  cases v61
  · replace h := condF h
    cases v67
    · replace h := condF h
      conv => whnf
      refine Choice.new ?_
      conv => whnf
      refine Req.of (rfl) ?_
      conv => whnf
      obtain ⟨y224, e225, h⟩ := bind_ex h
      refine MarkOk.of (laws_markWord_ct e225) ?_
      conv => whnf
      obtain ⟨g226, h⟩ := req_ex h
      exact CutK.piece (laws_FnExactLengthOfWord_p11_ct  h) [some 64, some 256, some 448, some 1109000, some 1109002] [] ⟨⟨rfl, rfl⟩, ⟨rfl, ⟨rfl, rfl, trivial⟩, ⟨rfl, ⟨rfl, rfl⟩, trivial⟩, ⟨rfl, ⟨rfl, rfl⟩, trivial⟩, ⟨rfl, rfl, rows_same⟩, ⟨rfl, rfl, rows_same⟩, trivial⟩, ⟨rfl, rfl⟩, ⟨rfl, rfl⟩, rfl, ⟨rfl, rfl⟩, rfl, rfl, trivial⟩
    · replace h := condT h
      conv => whnf
      refine Choice.new ?_
      conv => whnf
      refine Req.of (rfl) ?_
      conv => whnf
      obtain ⟨y227, e228, h⟩ := bind_ex h
      refine MarkOk.of (laws_markWord_ct e228) ?_
      conv => whnf
      obtain ⟨g229, h⟩ := req_ex h
      exact CutK.piece (laws_FnExactLengthOfWord_p11_ct  h) [some 64, some 256, some 448, some 1109000, some 1109002] [] ⟨⟨rfl, rfl⟩, ⟨rfl, ⟨rfl, rfl, trivial⟩, ⟨rfl, ⟨rfl, rfl⟩, trivial⟩, ⟨rfl, ⟨rfl, rfl⟩, trivial⟩, ⟨rfl, rfl, rows_same⟩, ⟨rfl, rfl, rows_same⟩, trivial⟩, ⟨rfl, rfl⟩, ⟨rfl, rfl⟩, rfl, ⟨rfl, rfl⟩, rfl, rfl, trivial⟩
  · replace h := condT h
    cases v67
    · replace h := condF h
      conv => whnf
      refine Choice.new ?_
      conv => whnf
      refine Req.of (rfl) ?_
      conv => whnf
      obtain ⟨y230, e231, h⟩ := bind_ex h
      refine MarkOk.of (laws_markWord_ct e231) ?_
      conv => whnf
      obtain ⟨g232, h⟩ := req_ex h
      exact CutK.piece (laws_FnExactLengthOfWord_p11_ct  h) [some 64, some 256, some 448, some 1109000, some 1109002] [] ⟨⟨rfl, rfl⟩, ⟨rfl, ⟨rfl, rfl, trivial⟩, ⟨rfl, ⟨rfl, rfl⟩, trivial⟩, ⟨rfl, ⟨rfl, rfl⟩, trivial⟩, ⟨rfl, rfl, rows_same⟩, ⟨rfl, rfl, rows_same⟩, trivial⟩, ⟨rfl, rfl⟩, ⟨rfl, rfl⟩, rfl, ⟨rfl, rfl⟩, rfl, rfl, trivial⟩
    · replace h := condT h
      conv => whnf
      refine Choice.new ?_
      conv => whnf
      refine Req.of (rfl) ?_
      conv => whnf
      obtain ⟨y233, e234, h⟩ := bind_ex h
      refine MarkOk.of (laws_markWord_ct e234) ?_
      conv => whnf
      obtain ⟨g235, h⟩ := req_ex h
      exact CutK.piece (laws_FnExactLengthOfWord_p11_ct  h) [some 64, some 256, some 448, some 1109000, some 1109002] [] ⟨⟨rfl, rfl⟩, ⟨rfl, ⟨rfl, rfl, trivial⟩, ⟨rfl, ⟨rfl, rfl⟩, trivial⟩, ⟨rfl, ⟨rfl, rfl⟩, trivial⟩, ⟨rfl, rfl, rows_same⟩, ⟨rfl, rfl, rows_same⟩, trivial⟩, ⟨rfl, rfl⟩, ⟨rfl, rfl⟩, rfl, ⟨rfl, rfl⟩, rfl, rfl, trivial⟩
def laws_FnExactLengthOfWord_p8 (k : Nat) (a1 : Rw) (o34 : Rw) (o35 : Rw) (o36 : Rw) (v46 : Bool) (v47 : Bool) : Option Bool :=
  (cond v46 (cond v47 ((laws_toWord k a1).bind fun y251 => ((laws_eqWord k o35 y251).bind fun y253 => (if y253 = true then (laws_FnExactLengthOfWord_p9 k a1 o34 o35 o36 true true) else some false))) ((laws_toWord k a1).bind fun y246 => ((laws_eqWord k o35 y246).bind fun y248 => (if y248 = true then (laws_FnExactLengthOfWord_p9 k a1 o34 o35 o36 false true) else some false)))) (cond v47 ((laws_toWord k a1).bind fun y241 => ((laws_eqWord k o35 y241).bind fun y243 => (if y243 = true then (laws_FnExactLengthOfWord_p9 k a1 o34 o35 o36 true false) else some false))) ((laws_toWord k a1).bind fun y236 => ((laws_eqWord k o35 y236).bind fun y238 => (if y238 = true then (laws_FnExactLengthOfWord_p9 k a1 o34 o35 o36 false false) else some false)))))
set_option maxHeartbeats 4000000 in
set_option maxRecDepth 100000 in
theorem laws_FnExactLengthOfWord_p8_ct {k : Nat} {a1 : Rw} {o34 : Rw} {o35 : Rw} {o36 : Rw} {v46 : Bool} {v47 : Bool} {r : Bool} (h : laws_FnExactLengthOfWord_p8 k a1 o34 o35 o36 v46 v47 = some r) : X prog 0 (tlF f11 8) (mk 96 [(1, .ptr 64 0), (4, .ptr 256 0), (5, .d (D.bool v46)), (6, .ptr 384 0), (7, .ptr 448 0), (8, .d (D.bool v47))] [(64, .box 57 [.d (D.sl a1)]), (256, .box 26 [.os 1104000 o34.length]), (384, .box 61 [.os 1104001 o35.length]), (448, .box 26 [.os 1104002 o36.length]), (1104000, .arr 98 true o34), (1104001, .arr 150 true o35), (1104002, .arr 98 true o36)]) (finK prog f11 0 (.d (D.bool r)) (⟨[], []⟩)) := by
  rw [laws_FnExactLengthOfWord_p8] at h
  cases v46
  · replace h := condF h
    cases v47
    · replace h := condF h
      conv => whnf
      obtain ⟨y236, e237, h⟩ := bind_ex h
      refine CallOk.of (laws_toWord_ct e237) ?_
      conv => whnf
      refine Take.all (rfl) ?_
      conv => whnf
      refine Take.all (rfl) ?_
      conv => whnf
      obtain ⟨y238, e239, h⟩ := bind_ex h
      refine CallOk.of (laws_eqWord_ct e239) ?_
      conv => whnf
      refine spl (fun g240 => ?_) (fun g240 => ?_)
      · replace h := iteT h g240
        conv => whnf
        refine CutK.norm [1, 4, 5, 6, 7, 8, 45] [64, 256, 384, 448, 1104000, 1104001, 1104002] ?_
        conv => whnf
        exact CutK.piece (laws_FnExactLengthOfWord_p9_ct  h) [some 64, some 256, some 384, some 448, some 1104000, some 1104001, some 1104002] [] ⟨⟨rfl, rfl⟩, ⟨rfl, ⟨rfl, rfl, trivial⟩, ⟨rfl, ⟨rfl, rfl⟩, trivial⟩, ⟨rfl, ⟨rfl, rfl⟩, trivial⟩, ⟨rfl, ⟨rfl, rfl⟩, trivial⟩, ⟨rfl, rfl, rows_same⟩, ⟨rfl, rfl, rows_same⟩, ⟨rfl, rfl, rows_same⟩, trivial⟩, ⟨rfl, rfl⟩, ⟨rfl, rfl⟩, rfl, ⟨rfl, rfl⟩, ⟨rfl, rfl⟩, rfl, trivial⟩
      · replace h := iteF h g240
        conv => whnf
        refine CutK.norm [1, 4, 5, 6, 7, 8, 45] [64, 256, 384, 448, 1104000, 1104001, 1104002] ?_
        conv => whnf
        cases h
        exact Done.of [] [] rfl rfl ⟨⟨rfl, rfl⟩, ⟨rfl, trivial⟩, rfl, trivial⟩
    · replace h := condT h
      conv => whnf
      obtain ⟨y241, e242, h⟩ := bind_ex h
      refine CallOk.of (laws_toWord_ct e242) ?_
      conv => whnf
      refine Take.all (rfl) ?_
      conv => whnf
      refine Take.all (rfl) ?_
      conv => whnf
      obtain ⟨y243, e244, h⟩ := bind_ex h
      refine CallOk.of (laws_eqWord_ct e244) ?_
      conv => whnf
      refine spl (fun g245 => ?_) (fun g245 => ?_)
      · replace h := iteT h g245
        conv => whnf
        refine CutK.norm [1, 4, 5, 6, 7, 8, 45] [64, 256, 384, 448, 1104000, 1104001, 1104002] ?_
        conv => whnf
        exact CutK.piece (laws_FnExactLengthOfWord_p9_ct  h) [some 64, some 256, some 384, some 448, some 1104000, some 1104001, some 1104002] [] ⟨⟨rfl, rfl⟩, ⟨rfl, ⟨rfl, rfl, trivial⟩, ⟨rfl, ⟨rfl, rfl⟩, trivial⟩, ⟨rfl, ⟨rfl, rfl⟩, trivial⟩, ⟨rfl, ⟨rfl, rfl⟩, trivial⟩, ⟨rfl, rfl, rows_same⟩, ⟨rfl, rfl, rows_same⟩, ⟨rfl, rfl, rows_same⟩, trivial⟩, ⟨rfl, rfl⟩, ⟨rfl, rfl⟩, rfl, ⟨rfl, rfl⟩, ⟨rfl, rfl⟩, rfl, trivial⟩
      · replace h := iteF h g245
        conv => whnf
        refine CutK.norm [1, 4, 5, 6, 7, 8, 45] [64, 256, 384, 448, 1104000, 1104001, 1104002] ?_
        conv => whnf
        cases h
        exact Done.of [] [] rfl rfl ⟨⟨rfl, rfl⟩, ⟨rfl, trivial⟩, rfl, trivial⟩
  · replace h := condT h
    cases v47
    · replace h := condF h
      conv => whnf
      obtain ⟨y246, e247, h⟩ := bind_ex h
      refine CallOk.of (laws_toWord_ct e247) ?_
      conv => whnf
      refine Take.all (rfl) ?_
      conv => whnf
      refine Take.all (rfl) ?_
      conv => whnf
      obtain ⟨y248, e249, h⟩ := bind_ex h
      refine CallOk.of (laws_eqWord_ct e249) ?_
      conv => whnf
      refine spl (fun g250 => ?_) (fun g250 => ?_)
      · replace h := iteT h g250
        conv => whnf
        refine CutK.norm [1, 4, 5, 6, 7, 8, 45] [64, 256, 384, 448, 1104000, 1104001, 1104002] ?_
        conv => whnf
        exact CutK.piece (laws_FnExactLengthOfWord_p9_ct  h) [some 64, some 256, some 384, some 448, some 1104000, some 1104001, some 1104002] [] ⟨⟨rfl, rfl⟩, ⟨rfl, ⟨rfl, rfl, trivial⟩, ⟨rfl, ⟨rfl, rfl⟩, trivial⟩, ⟨rfl, ⟨rfl, rfl⟩, trivial⟩, ⟨rfl, ⟨rfl, rfl⟩, trivial⟩, ⟨rfl, rfl, rows_same⟩, ⟨rfl, rfl, rows_same⟩, ⟨rfl, rfl, rows_same⟩, trivial⟩, ⟨rfl, rfl⟩, ⟨rfl, rfl⟩, rfl, ⟨rfl, rfl⟩, ⟨rfl, rfl⟩, rfl, trivial⟩
      · replace h := iteF h g250
        conv => whnf
        refine CutK.norm [1, 4, 5, 6, 7, 8, 45] [64, 256, 384, 448, 1104000, 1104001, 1104002] ?_
        conv => whnf
        cases h
        exact Done.of [] [] rfl rfl ⟨⟨rfl, rfl⟩, ⟨rfl, trivial⟩, rfl, trivial⟩
    · replace h := condT h
      conv => whnf
      obtain ⟨y251, e252, h⟩ := bind_ex h
      refine CallOk.of (laws_toWord_ct e252) ?_
      conv => whnf
      refine Take.all (rfl) ?_
      conv => whnf
      refine Take.all (rfl) ?_
      conv => whnf
      obtain ⟨y253, e254, h⟩ := bind_ex h
      refine CallOk.of (laws_eqWord_ct e254) ?_
      conv => whnf
      refine spl (fun g255 => ?_) (fun g255 => ?_)
      · replace h := iteT h g255
        conv => whnf
        refine CutK.norm [1, 4, 5, 6, 7, 8, 45] [64, 256, 384, 448, 1104000, 1104001, 1104002] ?_
        conv => whnf
        exact CutK.piece (laws_FnExactLengthOfWord_p9_ct  h) [some 64, some 256, some 384, some 448, some 1104000, some 1104001, some 1104002] [] ⟨⟨rfl, rfl⟩, ⟨rfl, ⟨rfl, rfl, trivial⟩, ⟨rfl, ⟨rfl, rfl⟩, trivial⟩, ⟨rfl, ⟨rfl, rfl⟩, trivial⟩, ⟨rfl, ⟨rfl, rfl⟩, trivial⟩, ⟨rfl, rfl, rows_same⟩, ⟨rfl, rfl, rows_same⟩, ⟨rfl, rfl, rows_same⟩, trivial⟩, ⟨rfl, rfl⟩, ⟨rfl, rfl⟩, rfl, ⟨rfl, rfl⟩, ⟨rfl, rfl⟩, rfl, trivial⟩
      · replace h := iteF h g255
        conv => whnf
        refine CutK.norm [1, 4, 5, 6, 7, 8, 45] [64, 256, 384, 448, 1104000, 1104001, 1104002] ?_
        conv => whnf
        cases h
        exact Done.of [] [] rfl rfl ⟨⟨rfl, rfl⟩, ⟨rfl, trivial⟩, rfl, trivial⟩
def laws_FnExactLengthOfWord_p7 (k : Nat) (a1 : Rw) (o23 : Rw) (o24 : Rw) (o25 : Rw) (v26 : Bool) (v30 : Bool) : Option Bool :=
  (cond v26 (cond v30 ((laws_eqOrdinal k o25 o23).bind fun y265 => (if y265 = true then (laws_FnExactLengthOfWord_p8 k a1 o23 o24 o25 true true) else some false)) ((laws_eqOrdinal k o25 o23).bind fun y262 => (if y262 = true then some false else some false))) (cond v30 ((laws_eqOrdinal k o25 o23).bind fun y259 => (if y259 = true then some false else some false)) ((laws_eqOrdinal k o25 o23).bind fun y256 => (if y256 = true then (laws_FnExactLengthOfWord_p8 k a1 o23 o24 o25 false false) else some false))))
set_option maxHeartbeats 4000000 in
set_option maxRecDepth 100000 in
theorem laws_FnExactLengthOfWord_p7_ct {k : Nat} {a1 : Rw} {o23 : Rw} {o24 : Rw} {o25 : Rw} {v26 : Bool} {v30 : Bool} {r : Bool} (h : laws_FnExactLengthOfWord_p7 k a1 o23 o24 o25 v26 v30 = some r) : X prog 0 (tlF f11 7) (mk 96 [(1, .ptr 64 0), (4, .ptr 256 0), (5, .d (D.bool v30)), (6, .ptr 384 0), (7, .ptr 448 0), (8, .d (D.bool v26))] [(64, .box 57 [.d (D.sl a1)]), (256, .box 26 [.os 1099000 o23.length]), (384, .box 61 [.os 1099001 o24.length]), (448, .box 26 [.os 1099002 o25.length]), (1099000, .arr 98 true o23), (1099001, .arr 150 true o24), (1099002, .arr 98 true o25)]) (finK prog f11 0 (.d (D.bool r)) (⟨[], []⟩)) := by
  rw [laws_FnExactLengthOfWord_p7] at h
  cases v26
  · replace h := condF h
    cases v30
    · replace h := condF h
      conv => whnf
      refine Take.all (rfl) ?_
      conv => whnf
      refine Take.all (rfl) ?_
      conv => whnf
      obtain ⟨y256, e257, h⟩ := bind_ex h
      refine CallOk.of (laws_eqOrdinal_ct e257) ?_
      conv => whnf
      refine spl (fun g258 => ?_) (fun g258 => ?_)
      · replace h := iteT h g258
        conv => whnf
        refine splF ?_
        conv => whnf
        refine CutK.norm [1, 4, 5, 6, 7, 8, 40] [64, 256, 384, 448, 1099000, 1099001, 1099002] ?_
        conv => whnf
        exact CutK.piece (laws_FnExactLengthOfWord_p8_ct  h) [some 64, some 256, some 384, some 448, some 1099000, some 1099001, some 1099002] [] ⟨⟨rfl, rfl⟩, ⟨rfl, ⟨rfl, rfl, trivial⟩, ⟨rfl, ⟨rfl, rfl⟩, trivial⟩, ⟨rfl, ⟨rfl, rfl⟩, trivial⟩, ⟨rfl, ⟨rfl, rfl⟩, trivial⟩, ⟨rfl, rfl, rows_same⟩, ⟨rfl, rfl, rows_same⟩, ⟨rfl, rfl, rows_same⟩, trivial⟩, ⟨rfl, rfl⟩, ⟨rfl, rfl⟩, rfl, ⟨rfl, rfl⟩, ⟨rfl, rfl⟩, rfl, trivial⟩
      · replace h := iteF h g258
        conv => whnf
        refine CutK.norm [1, 4, 5, 6, 7, 8, 40] [64, 256, 384, 448, 1099000, 1099001, 1099002] ?_
        conv => whnf
        cases h
        exact Done.of [] [] rfl rfl ⟨⟨rfl, rfl⟩, ⟨rfl, trivial⟩, rfl, trivial⟩
    · replace h := condT h
      conv => whnf
      refine Take.all (rfl) ?_
      conv => whnf
      refine Take.all (rfl) ?_
      conv => whnf
      obtain ⟨y259, e260, h⟩ := bind_ex h
      refine CallOk.of (laws_eqOrdinal_ct e260) ?_
      conv => whnf
      refine spl (fun g261 => ?_) (fun g261 => ?_)
      · replace h := iteT h g261
        conv => whnf
        refine splT ?_
        conv => whnf
        refine CutK.norm [1, 4, 5, 6, 7, 8, 40] [64, 256, 384, 448, 1099000, 1099001, 1099002] ?_
        conv => whnf
        cases h
        exact Done.of [] [] rfl rfl ⟨⟨rfl, rfl⟩, ⟨rfl, trivial⟩, rfl, trivial⟩
      · replace h := iteF h g261
        conv => whnf
        refine CutK.norm [1, 4, 5, 6, 7, 8, 40] [64, 256, 384, 448, 1099000, 1099001, 1099002] ?_
        conv => whnf
        cases h
        exact Done.of [] [] rfl rfl ⟨⟨rfl, rfl⟩, ⟨rfl, trivial⟩, rfl, trivial⟩
  · replace h := condT h
    cases v30
    · replace h := condF h
      conv => whnf
      refine Take.all (rfl) ?_
      conv => whnf
      refine Take.all (rfl) ?_
      conv => whnf
      obtain ⟨y262, e263, h⟩ := bind_ex h
      refine CallOk.of (laws_eqOrdinal_ct e263) ?_
      conv => whnf
      refine spl (fun g264 => ?_) (fun g264 => ?_)
      · replace h := iteT h g264
        conv => whnf
        refine splT ?_
        conv => whnf
        refine CutK.norm [1, 4, 5, 6, 7, 8, 40] [64, 256, 384, 448, 1099000, 1099001, 1099002] ?_
        conv => whnf
        cases h
        exact Done.of [] [] rfl rfl ⟨⟨rfl, rfl⟩, ⟨rfl, trivial⟩, rfl, trivial⟩
      · replace h := iteF h g264
        conv => whnf
        refine CutK.norm [1, 4, 5, 6, 7, 8, 40] [64, 256, 384, 448, 1099000, 1099001, 1099002] ?_
        conv => whnf
        cases h
        exact Done.of [] [] rfl rfl ⟨⟨rfl, rfl⟩, ⟨rfl, trivial⟩, rfl, trivial⟩
    · replace h := condT h
      conv => whnf
      refine Take.all (rfl) ?_
      conv => whnf
      refine Take.all (rfl) ?_
      conv => whnf
      obtain ⟨y265, e266, h⟩ := bind_ex h
      refine CallOk.of (laws_eqOrdinal_ct e266) ?_
      conv => whnf
      refine spl (fun g267 => ?_) (fun g267 => ?_)
      · replace h := iteT h g267
        conv => whnf
        refine splF ?_
        conv => whnf
        refine CutK.norm [1, 4, 5, 6, 7, 8, 40] [64, 256, 384, 448, 1099000, 1099001, 1099002] ?_
        conv => whnf
        exact CutK.piece (laws_FnExactLengthOfWord_p8_ct  h) [some 64, some 256, some 384, some 448, some 1099000, some 1099001, some 1099002] [] ⟨⟨rfl, rfl⟩, ⟨rfl, ⟨rfl, rfl, trivial⟩, ⟨rfl, ⟨rfl, rfl⟩, trivial⟩, ⟨rfl, ⟨rfl, rfl⟩, trivial⟩, ⟨rfl, ⟨rfl, rfl⟩, trivial⟩, ⟨rfl, rfl, rows_same⟩, ⟨rfl, rfl, rows_same⟩, ⟨rfl, rfl, rows_same⟩, trivial⟩, ⟨rfl, rfl⟩, ⟨rfl, rfl⟩, rfl, ⟨rfl, rfl⟩, ⟨rfl, rfl⟩, rfl, trivial⟩
      · replace h := iteF h g267
        conv => whnf
        refine CutK.norm [1, 4, 5, 6, 7, 8, 40] [64, 256, 384, 448, 1099000, 1099001, 1099002] ?_
        conv => whnf
        cases h
        exact Done.of [] [] rfl rfl ⟨⟨rfl, rfl⟩, ⟨rfl, trivial⟩, rfl, trivial⟩
def laws_FnExactLengthOfWord_p6 (k : Nat) (a1 : Rw) (o15 : Rw) (o16 : Rw) (v19 : Bool) : Option Bool :=
  (cond v19 ((impl_LengthOfWord k o16).bind fun y271 => (if y271.2 = true then (laws_FnExactLengthOfWord_p7 k a1 o15 o16 y271.1 true true) else (laws_FnExactLengthOfWord_p7 k a1 o15 o16 y271.1 false true))) ((impl_LengthOfWord k o16).bind fun y268 => (if y268.2 = true then (laws_FnExactLengthOfWord_p7 k a1 o15 o16 y268.1 true false) else (laws_FnExactLengthOfWord_p7 k a1 o15 o16 y268.1 false false))))
set_option maxHeartbeats 4000000 in
set_option maxRecDepth 100000 in
theorem laws_FnExactLengthOfWord_p6_ct {k : Nat} {a1 : Rw} {o15 : Rw} {o16 : Rw} {v19 : Bool} {r : Bool} (h : laws_FnExactLengthOfWord_p6 k a1 o15 o16 v19 = some r) : X prog 0 (tlF f11 6) (mk 96 [(1, .ptr 64 0), (4, .ptr 256 0), (5, .d (D.bool v19)), (6, .ptr 384 0)] [(64, .box 57 [.d (D.sl a1)]), (256, .box 26 [.os 1094000 o15.length]), (384, .box 61 [.os 1094001 o16.length]), (1094000, .arr 98 true o15), (1094001, .arr 150 true o16)]) (finK prog f11 0 (.d (D.bool r)) (⟨[], []⟩)) := by
  rw [laws_FnExactLengthOfWord_p6] at h
  cases v19
  · replace h := condF h
    conv => whnf
    refine Take.all (rfl) ?_
    conv => whnf
    obtain ⟨y268, e269, h⟩ := bind_ex h
    refine CallOk.of (impl_LengthOfWord_ct e269) ?_
    conv => whnf
    refine spl (fun g270 => ?_) (fun g270 => ?_)
    · replace h := iteT h g270
      conv => whnf
      exact CutK.piece (laws_FnExactLengthOfWord_p7_ct  h) [some 64, some 256, some 384, some 448, some 1094000, some 1094001, some 1856] [] ⟨⟨rfl, rfl⟩, ⟨rfl, ⟨rfl, rfl, trivial⟩, ⟨rfl, ⟨rfl, rfl⟩, trivial⟩, ⟨rfl, ⟨rfl, rfl⟩, trivial⟩, ⟨rfl, ⟨rfl, rfl⟩, trivial⟩, ⟨rfl, rfl, rows_same⟩, ⟨rfl, rfl, rows_same⟩, ⟨rfl, rfl, rows_same⟩, trivial⟩, ⟨rfl, rfl⟩, ⟨rfl, rfl⟩, rfl, ⟨rfl, rfl⟩, ⟨rfl, rfl⟩, rfl, trivial⟩
    · replace h := iteF h g270
      conv => whnf
      exact CutK.piece (laws_FnExactLengthOfWord_p7_ct  h) [some 64, some 256, some 384, some 448, some 1094000, some 1094001, some 1856] [] ⟨⟨rfl, rfl⟩, ⟨rfl, ⟨rfl, rfl, trivial⟩, ⟨rfl, ⟨rfl, rfl⟩, trivial⟩, ⟨rfl, ⟨rfl, rfl⟩, trivial⟩, ⟨rfl, ⟨rfl, rfl⟩, trivial⟩, ⟨rfl, rfl, rows_same⟩, ⟨rfl, rfl, rows_same⟩, ⟨rfl, rfl, rows_same⟩, trivial⟩, ⟨rfl, rfl⟩, ⟨rfl, rfl⟩, rfl, ⟨rfl, rfl⟩, ⟨rfl, rfl⟩, rfl, trivial⟩
  · replace h := condT h
    conv => whnf
    refine Take.all (rfl) ?_
    conv => whnf
    obtain ⟨y271, e272, h⟩ := bind_ex h
    refine CallOk.of (impl_LengthOfWord_ct e272) ?_
    conv => whnf
    refine spl (fun g273 => ?_) (fun g273 => ?_)
    · replace h := iteT h g273
      conv => whnf
      exact CutK.piece (laws_FnExactLengthOfWord_p7_ct  h) [some 64, some 256, some 384, some 448, some 1094000, some 1094001, some 1856] [] ⟨⟨rfl, rfl⟩, ⟨rfl, ⟨rfl, rfl, trivial⟩, ⟨rfl, ⟨rfl, rfl⟩, trivial⟩, ⟨rfl, ⟨rfl, rfl⟩, trivial⟩, ⟨rfl, ⟨rfl, rfl⟩, trivial⟩, ⟨rfl, rfl, rows_same⟩, ⟨rfl, rfl, rows_same⟩, ⟨rfl, rfl, rows_same⟩, trivial⟩, ⟨rfl, rfl⟩, ⟨rfl, rfl⟩, rfl, ⟨rfl, rfl⟩, ⟨rfl, rfl⟩, rfl, trivial⟩
    · replace h := iteF h g273
      conv => whnf
      exact CutK.piece (laws_FnExactLengthOfWord_p7_ct  h) [some 64, some 256, some 384, some 448, some 1094000, some 1094001, some 1856] [] ⟨⟨rfl, rfl⟩, ⟨rfl, ⟨rfl, rfl, trivial⟩, ⟨rfl, ⟨rfl, rfl⟩, trivial⟩, ⟨rfl, ⟨rfl, rfl⟩, trivial⟩, ⟨rfl, ⟨rfl, rfl⟩, trivial⟩, ⟨rfl, rfl, rows_same⟩, ⟨rfl, rfl, rows_same⟩, ⟨rfl, rfl, rows_same⟩, trivial⟩, ⟨rfl, rfl⟩, ⟨rfl, rfl⟩, rfl, ⟨rfl, rfl⟩, ⟨rfl, rfl⟩, rfl, trivial⟩
def laws_FnExactLengthOfWord_p5 (k : Nat) (a1 : Rw) (o11 : Rw) (v12 : Bool) : Option Bool :=
  (cond v12 ((laws_toWord k a1).bind fun y276 => (laws_FnExactLengthOfWord_p6 k a1 o11 y276 true)) ((laws_toWord k a1).bind fun y274 => (laws_FnExactLengthOfWord_p6 k a1 o11 y274 false)))
set_option maxHeartbeats 4000000 in
set_option maxRecDepth 100000 in
theorem laws_FnExactLengthOfWord_p5_ct {k : Nat} {a1 : Rw} {o11 : Rw} {v12 : Bool} {r : Bool} (h : laws_FnExactLengthOfWord_p5 k a1 o11 v12 = some r) : X prog 0 (tlF f11 5) (mk 96 [(1, .ptr 64 0), (4, .ptr 256 0), (5, .d (D.bool v12))] [(64, .box 57 [.d (D.sl a1)]), (256, .box 26 [.os 1089000 o11.length]), (1089000, .arr 98 true o11)]) (finK prog f11 0 (.d (D.bool r)) (⟨[], []⟩)) := by
  rw [laws_FnExactLengthOfWord_p5] at h
  cases v12
  · replace h := condF h
    conv => whnf
    obtain ⟨y274, e275, h⟩ := bind_ex h
    refine CallOk.of (laws_toWord_ct e275) ?_
    conv => whnf
    exact CutK.piece (laws_FnExactLengthOfWord_p6_ct  h) [some 64, some 256, some 384, some 1089000, some 1664] [] ⟨⟨rfl, rfl⟩, ⟨rfl, ⟨rfl, rfl, trivial⟩, ⟨rfl, ⟨rfl, rfl⟩, trivial⟩, ⟨rfl, ⟨rfl, rfl⟩, trivial⟩, ⟨rfl, rfl, rows_same⟩, ⟨rfl, rfl, rows_same⟩, trivial⟩, ⟨rfl, rfl⟩, ⟨rfl, rfl⟩, rfl, ⟨rfl, rfl⟩, trivial⟩
  · replace h := condT h
    conv => whnf
    obtain ⟨y276, e277, h⟩ := bind_ex h
    refine CallOk.of (laws_toWord_ct e277) ?_
    conv => whnf
    exact CutK.piece (laws_FnExactLengthOfWord_p6_ct  h) [some 64, some 256, some 384, some 1089000, some 1664] [] ⟨⟨rfl, rfl⟩, ⟨rfl, ⟨rfl, rfl, trivial⟩, ⟨rfl, ⟨rfl, rfl⟩, trivial⟩, ⟨rfl, ⟨rfl, rfl⟩, trivial⟩, ⟨rfl, rfl, rows_same⟩, ⟨rfl, rfl, rows_same⟩, trivial⟩, ⟨rfl, rfl⟩, ⟨rfl, rfl⟩, rfl, ⟨rfl, rfl⟩, trivial⟩
def laws_FnExactLengthOfWord_p3 (k : Nat) (a1 : Rw) (o4 : Int) : Option Bool :=
  (if o4 < (0 : Int) then some true else ((laws_toWord k a1).bind fun y279 => ((spec_LengthOfWord k y279).bind fun y281 => (if y281.2 = true then (laws_FnExactLengthOfWord_p5 k a1 y281.1 true) else (laws_FnExactLengthOfWord_p5 k a1 y281.1 false)))))
set_option maxHeartbeats 4000000 in
set_option maxRecDepth 100000 in
theorem laws_FnExactLengthOfWord_p3_ct {k : Nat} {a1 : Rw} {o4 : Int} {r : Bool} (h : laws_FnExactLengthOfWord_p3 k a1 o4 = some r) : X prog 0 (tlF f11 3) (mk 96 [(1, .ptr 64 0), (3, .d (D.int .i64 o4))] [(64, .box 57 [.d (D.sl a1)])]) (finK prog f11 0 (.d (D.bool r)) (⟨[], []⟩)) := by
  rw [laws_FnExactLengthOfWord_p3] at h
  conv => whnf
  refine splD (fun g278 => ?_) (fun g278 => ?_)
  · replace h := iteP h g278
    conv => whnf
    cases h
    exact Done.of [] [] rfl rfl ⟨⟨rfl, rfl⟩, ⟨rfl, trivial⟩, rfl, trivial⟩
  · replace h := iteN h g278
    conv => whnf
    obtain ⟨y279, e280, h⟩ := bind_ex h
    refine CallOk.of (laws_toWord_ct e280) ?_
    conv => whnf
    refine Take.all (rfl) ?_
    conv => whnf
    obtain ⟨y281, e282, h⟩ := bind_ex h
    refine CallOk.of (spec_LengthOfWord_ct e282) ?_
    conv => whnf
    refine spl (fun g283 => ?_) (fun g283 => ?_)
    · replace h := iteT h g283
      conv => whnf
      exact CutK.piece (laws_FnExactLengthOfWord_p5_ct  h) [some 64, some 256, some 1408] [] ⟨⟨rfl, rfl⟩, ⟨rfl, ⟨rfl, rfl, trivial⟩, ⟨rfl, ⟨rfl, rfl⟩, trivial⟩, ⟨rfl, rfl, rows_same⟩, trivial⟩, ⟨rfl, rfl⟩, ⟨rfl, rfl⟩, rfl, trivial⟩
    · replace h := iteF h g283
      conv => whnf
      exact CutK.piece (laws_FnExactLengthOfWord_p5_ct  h) [some 64, some 256, some 1408] [] ⟨⟨rfl, rfl⟩, ⟨rfl, ⟨rfl, rfl, trivial⟩, ⟨rfl, ⟨rfl, rfl⟩, trivial⟩, ⟨rfl, rfl, rows_same⟩, trivial⟩, ⟨rfl, rfl⟩, ⟨rfl, rfl⟩, rfl, trivial⟩
def laws_FnExactLengthOfWord (k : Nat) (a1 : Rw) : Option Bool :=
  ((laws_szWord k a1 1048576).bind fun y284 => (laws_FnExactLengthOfWord_p3 k a1 y284))
set_option maxHeartbeats 4000000 in
set_option maxRecDepth 100000 in
theorem laws_FnExactLengthOfWord_ct {k : Nat} {a1 : Rw} {r : Bool} (h : laws_FnExactLengthOfWord k a1 = some r) : Ct prog 11 [.agg [.d (D.sl a1)]] (⟨[], []⟩) (.d (D.bool r)) (⟨[], []⟩) := by
  rw [laws_FnExactLengthOfWord] at h
  refine Ct.of (c := _) mixed func11 ⟨rfl, rfl, rfl⟩ ?_ rfl
  conv => whnf
  obtain ⟨y284, e285, h⟩ := bind_ex h
  refine CallOk.of (laws_szWord_ct e285) ?_
  conv => whnf
  exact CutK.piece (laws_FnExactLengthOfWord_p3_ct  h) [some 64] [] ⟨⟨rfl, rfl⟩, ⟨rfl, ⟨rfl, rfl, trivial⟩, trivial⟩, ⟨rfl, rfl⟩, rfl, trivial⟩

def impl_PlusesIn (k : Nat) (a1 : Rw) : Option (Rw × Bool) :=
  ((impl_IsWord k a1).bind fun y2 => (if y2 = true then ((impl_lengthOf k a1 true).bind fun y5 => ((impl_told k y5).bind fun y7 => (if y7.2 = true then some (y7.1, true) else some (y7.1, false)))) else some (([] : Rw), false)))
set_option maxHeartbeats 4000000 in
set_option maxRecDepth 100000 in
theorem impl_PlusesIn_ct {k : Nat} {a1 : Rw} {r : Rw × Bool} (h : impl_PlusesIn k a1 = some r) : Ct prog 57 [.agg [.d (D.sl a1)]] (⟨[], []⟩) (.tup [.agg [.os 8 r.1.length], .d (D.bool r.2)]) (⟨[], [(98, true, r.1)]⟩) := by
  rw [impl_PlusesIn] at h
  refine Ct.of (c := _) mixed func57 ⟨rfl, rfl, rfl⟩ ?_ rfl
  conv => whnf
  obtain ⟨y2, e3, h⟩ := bind_ex h
  refine CallOk.of (impl_IsWord_ct e3) ?_
  conv => whnf
  refine spl (fun g4 => ?_) (fun g4 => ?_)
  · replace h := iteT h g4
    conv => whnf
    refine CutK.go ?_
    conv => whnf
    refine CutK.go ?_
    conv => whnf
    obtain ⟨y5, e6, h⟩ := bind_ex h
    refine CallOk.of (impl_lengthOf_ct e6) ?_
    conv => whnf
    obtain ⟨y7, e8, h⟩ := bind_ex h
    refine CallOk.of (impl_told_ct e8) ?_
    conv => whnf
    refine spl (fun g9 => ?_) (fun g9 => ?_)
    · replace h := iteT h g9
      conv => whnf
      refine CutK.go ?_
      conv => whnf
      cases h
      exact Done.of [some 640] [] rfl rfl ⟨⟨rfl, rfl⟩, ⟨rfl, ⟨rfl, rfl, rows_same⟩, trivial⟩, ⟨⟨⟨rfl, rfl⟩, trivial⟩, rfl, trivial⟩, trivial⟩
    · replace h := iteF h g9
      conv => whnf
      refine CutK.go ?_
      conv => whnf
      cases h
      exact Done.of [some 640] [] rfl rfl ⟨⟨rfl, rfl⟩, ⟨rfl, ⟨rfl, rfl, rows_same⟩, trivial⟩, ⟨⟨⟨rfl, rfl⟩, trivial⟩, rfl, trivial⟩, trivial⟩
  · replace h := iteF h g4
    conv => whnf
    refine CutK.go ?_
    conv => whnf
    cases h
    exact Done.of [none] [] rfl rfl ⟨⟨rfl, rfl⟩, ⟨rfl, rfl, trivial⟩, ⟨⟨⟨rfl, rfl⟩, trivial⟩, rfl, trivial⟩, trivial⟩

def spec_woPluses_l0 (k : Nat) (a1 : Rw) (K0 : Rw → Option Rw) : Rw → Rw → Option Rw
  | [], v11 => (K0 v11)
  | cs :: rest, v11 => (cell_bs cs fun x29 x30 => (if x29 = true then ((spec_odPlus k v11 x30).bind fun y33 => (spec_woPluses_l0 k a1 K0 rest y33)) else (spec_woPluses_l0 k a1 K0 rest v11)))
set_option maxRecDepth 100000 in
theorem spec_woPluses_l0_ct {k : Nat} {a1 : Rw} {K0 : Rw → Option Rw} {r : Rw} (hx : a1.length ≤ cap) : ∀ (rest : Rw) (v10n : Nat) (v11 : Rw), a1.drop v10n = rest → spec_woPluses_l0 k a1 K0 rest v11 = some r → LoopOk prog 0 (lp f122 0) (mk 22 [(2, .ptr 128 0), (3, .ptr 192 0), (8, .d (D.sl a1)), (9, .d (D.int .i64 (a1.length : Int))), (10, .d (D.int .i64 (v10n : Int)))] [(128, .box 26 [.es]), (192, .box 26 [.os 64000 v11.length]), (64000, .arr 98 false v11)]) (LoopEnd prog f122 0 22 (.agg [.os 8 r.length]) (⟨[], [(98, false, r)]⟩) (fun i ts os => (i = 0 ∧ ∃ v20 : Rw, K0 v20 = some r ∧ ts = [(2, .ptr 128 0), (3, .ptr 192 0)] ∧ os = [(128, .box 26 [.es]), (192, .box 26 [.os 67001 v20.length]), (67001, .arr 98 false v20)])))
  | [], v10n, v11, hd, h => by
      rw [spec_woPluses_l0] at h
      have hn := drop_nil hd
      refine LoopOk.step ?_
      conv => whnf
      refine splD (fun g => absurd g hn) (fun _ => ?_)
      conv => whnf
      exact ⟨_, _, [some 128, some 192, some 64000], [], ⟨rfl, _, h, rfl, rfl⟩, ⟨⟨rfl, rfl⟩, ⟨rfl, ⟨rfl, trivial, trivial⟩, ⟨rfl, ⟨rfl, rfl⟩, trivial⟩, ⟨rfl, rfl, rows_same⟩, trivial⟩, ⟨rfl, rfl⟩, ⟨rfl, rfl⟩, trivial⟩⟩
  | cs :: rest, v10n, v11, hd, h => by
      rw [spec_woPluses_l0] at h
      obtain ⟨hrow, hd1, hlt⟩ := drop_cons hd
      refine LoopOk.step ?_
      conv => whnf
      refine splD (fun _ => ?_) (fun g => absurd hlt g)
      conv => whnf
      obtain ⟨x29, x30, e31, h⟩ := cell_bs_ex h
      rw [e31] at hrow
      refine Req.of (Int.natCast_nonneg _) ?_
      refine Row.of _ hrow ?_
      conv => whnf
      refine spl (fun g32 => ?_) (fun g32 => ?_)
      · replace h := iteT h g32
        conv => whnf
        refine splT ?_
        conv => whnf
        refine Take.all (rfl) ?_
        conv => whnf
        obtain ⟨y33, e34, h⟩ := bind_ex h
        refine CallOk.of (spec_odPlus_ct e34) ?_
        conv => whnf
        refine CutK.go ?_
        conv => whnf
        exact LoopOk.back (spec_woPluses_l0_ct hx rest (v10n + 1) _ hd1 h) [some 128, some 192, some 1216] [] ⟨⟨rfl, rfl⟩, ⟨rfl, ⟨rfl, trivial, trivial⟩, ⟨rfl, ⟨rfl, rfl⟩, trivial⟩, ⟨rfl, rfl, rows_same⟩, trivial⟩, ⟨rfl, rfl⟩, ⟨rfl, rfl⟩, rfl, rfl, i64eq (wrap_up hlt hx), trivial⟩
      · replace h := iteF h g32
        conv => whnf
        refine splF ?_
        conv => whnf
        refine CutK.go ?_
        conv => whnf
        exact LoopOk.back (spec_woPluses_l0_ct hx rest (v10n + 1) _ hd1 h) [some 128, some 192, some 64000] [] ⟨⟨rfl, rfl⟩, ⟨rfl, ⟨rfl, trivial, trivial⟩, ⟨rfl, ⟨rfl, rfl⟩, trivial⟩, ⟨rfl, rfl, rows_same⟩, trivial⟩, ⟨rfl, rfl⟩, ⟨rfl, rfl⟩, rfl, rfl, i64eq (wrap_up hlt hx), trivial⟩
def spec_woPluses (k : Nat) (a1 : Rw) : Option Rw :=
  (if a1.length ≤ cap then (spec_woPluses_l0 k a1 (fun (v20 : Rw) => some v20) a1 ([] : Rw)) else none)
set_option maxHeartbeats 4000000 in
set_option maxRecDepth 100000 in
theorem spec_woPluses_ct {k : Nat} {a1 : Rw} {r : Rw} (h : spec_woPluses k a1 = some r) : Ct prog 122 [.agg [.d (D.sl a1)]] (⟨[], []⟩) (.agg [.os 8 r.length]) (⟨[], [(98, false, r)]⟩) := by
  rw [spec_woPluses] at h
  refine Ct.of (c := _) mixed func122 ⟨rfl, rfl, rfl⟩ ?_ rfl
  conv => whnf
  obtain ⟨g35, h⟩ := req_ex h
  refine LoopOk.into (spec_woPluses_l0_ct  g35 _ _ _ rfl h) [some 128, some 192, none] [] ⟨⟨rfl, rfl⟩, ⟨rfl, ⟨rfl, trivial, trivial⟩, ⟨rfl, ⟨rfl, rfl⟩, trivial⟩, rfl, trivial⟩, ⟨rfl, rfl⟩, ⟨rfl, rfl⟩, rfl, rfl, rfl, trivial⟩ ?_ (fun _ hs => hs)
  rintro i ts os ⟨rfl, v20, h, rfl, rfl⟩
  conv => whnf
  refine CutK.go ?_
  conv => whnf
  cases h
  exact Done.of [some 67001] [] rfl rfl ⟨⟨rfl, rfl⟩, ⟨rfl, ⟨rfl, rfl, rows_same⟩, trivial⟩, ⟨⟨rfl, rfl⟩, trivial⟩, trivial⟩

def spec_PlusesIn (k : Nat) (a1 : Rw) : Option (Rw × Bool) :=
  ((spec_woGood k a1).bind fun y2 => (if y2 = true then ((spec_woPluses k a1).bind fun y5 => ((spec_odIf k y5).bind fun y7 => (if y7.2 = true then some (y7.1, true) else some (y7.1, false)))) else some (([] : Rw), false)))
set_option maxHeartbeats 4000000 in
set_option maxRecDepth 100000 in
theorem spec_PlusesIn_ct {k : Nat} {a1 : Rw} {r : Rw × Bool} (h : spec_PlusesIn k a1 = some r) : Ct prog 56 [.agg [.d (D.sl a1)]] (⟨[], []⟩) (.tup [.agg [.os 8 r.1.length], .d (D.bool r.2)]) (⟨[], [(98, true, r.1)]⟩) := by
  rw [spec_PlusesIn] at h
  refine Ct.of (c := _) mixed func56 ⟨rfl, rfl, rfl⟩ ?_ rfl
  conv => whnf
  obtain ⟨y2, e3, h⟩ := bind_ex h
  refine CallOk.of (spec_woGood_ct e3) ?_
  conv => whnf
  refine spl (fun g4 => ?_) (fun g4 => ?_)
  · replace h := iteT h g4
    conv => whnf
    refine CutK.go ?_
    conv => whnf
    refine CutK.go ?_
    conv => whnf
    obtain ⟨y5, e6, h⟩ := bind_ex h
    refine CallOk.of (spec_woPluses_ct e6) ?_
    conv => whnf
    refine Take.all (rfl) ?_
    conv => whnf
    obtain ⟨y7, e8, h⟩ := bind_ex h
    refine CallOk.of (spec_odIf_ct e8) ?_
    conv => whnf
    refine spl (fun g9 => ?_) (fun g9 => ?_)
    · replace h := iteT h g9
      conv => whnf
      refine CutK.go ?_
      conv => whnf
      cases h
      exact Done.of [some 640] [] rfl rfl ⟨⟨rfl, rfl⟩, ⟨rfl, ⟨rfl, rfl, rows_same⟩, trivial⟩, ⟨⟨⟨rfl, rfl⟩, trivial⟩, rfl, trivial⟩, trivial⟩
    · replace h := iteF h g9
      conv => whnf
      refine CutK.go ?_
      conv => whnf
      cases h
      exact Done.of [some 640] [] rfl rfl ⟨⟨rfl, rfl⟩, ⟨rfl, ⟨rfl, rfl, rows_same⟩, trivial⟩, ⟨⟨⟨rfl, rfl⟩, trivial⟩, rfl, trivial⟩, trivial⟩
  · replace h := iteF h g4
    conv => whnf
    refine CutK.go ?_
    conv => whnf
    cases h
    exact Done.of [none] [] rfl rfl ⟨⟨rfl, rfl⟩, ⟨rfl, rfl, trivial⟩, ⟨⟨⟨rfl, rfl⟩, trivial⟩, rfl, trivial⟩, trivial⟩

def laws_FnExactPlusesIn_p22 (o164 : Int) (o165 : Int) : Option Bool :=
  (if o165 < (0 : Int) then some false else (if o165 = o164 then some true else some false))
set_option maxHeartbeats 4000000 in
set_option maxRecDepth 100000 in
theorem laws_FnExactPlusesIn_p22_ct {o164 : Int} {o165 : Int} {r : Bool} (h : laws_FnExactPlusesIn_p22 o164 o165 = some r) : X prog 0 (tlF f12 22) (mk 96 [(10, .d (D.int .i64 o164)), (11, .d (D.int .i64 o165))] []) (finK prog f12 0 (.d (D.bool r)) (⟨[], []⟩)) := by
  rw [laws_FnExactPlusesIn_p22] at h
  conv => whnf
  refine splD (fun g168 => ?_) (fun g168 => ?_)
  · replace h := iteP h g168
    conv => whnf
    cases h
    exact Done.of [] [] rfl rfl ⟨⟨rfl, rfl⟩, ⟨rfl, trivial⟩, rfl, trivial⟩
  · replace h := iteN h g168
    conv => whnf
    refine splN (fun g169 => ?_) (fun g169 => ?_)
    · replace h := iteN h g169
      conv => whnf
      cases h
      exact Done.of [] [] rfl rfl ⟨⟨rfl, rfl⟩, ⟨rfl, trivial⟩, rfl, trivial⟩
    · replace h := iteP h g169
      conv => whnf
      cases h
      exact Done.of [] [] rfl rfl ⟨⟨rfl, rfl⟩, ⟨rfl, trivial⟩, rfl, trivial⟩
def laws_FnExactPlusesIn_p20 (k : Nat) (o151 : Int) (o152 : Rw) : Option Bool :=
  ((laws_heldOrdinal k o152 1).bind fun y170 => (laws_FnExactPlusesIn_p22 o151 y170))
set_option maxHeartbeats 4000000 in
set_option maxRecDepth 100000 in
theorem laws_FnExactPlusesIn_p20_ct {k : Nat} {o151 : Int} {o152 : Rw} {r : Bool} (h : laws_FnExactPlusesIn_p20 k o151 o152 = some r) : X prog 0 (tlF f12 20) (mk 96 [(7, .ptr 448 0), (10, .d (D.int .i64 o151))] [(448, .box 26 [.os 1164000 o152.length]), (1164000, .arr 98 true o152)]) (finK prog f12 0 (.d (D.bool r)) (⟨[], []⟩)) := by
  rw [laws_FnExactPlusesIn_p20] at h
  conv => whnf
  refine Choice.old ?_
  conv => whnf
  refine Take.all (rfl) ?_
  conv => whnf
  obtain ⟨y170, e171, h⟩ := bind_ex h
  refine CallOk.of (laws_heldOrdinal_ct e171) ?_
  conv => whnf
  exact CutK.piece (laws_FnExactPlusesIn_p22_ct  h) [] [] ⟨⟨rfl, rfl⟩, ⟨rfl, trivial⟩, rfl, rfl, trivial⟩
def laws_FnExactPlusesIn_p19 (k : Nat) (o135 : Int) (o136 : Rw) (o137 : Rw) (o138 : Rw) (v139 : Bool) (v147 : Bool) : Option Bool :=
  (cond v139 (cond v147 ((laws_eqOrdinal k o138 o136).bind fun y181 => (if y181 = true then (laws_FnExactPlusesIn_p20 k o135 o137) else some false)) ((laws_eqOrdinal k o138 o136).bind fun y178 => (if y178 = true then some false else some false))) (cond v147 ((laws_eqOrdinal k o138 o136).bind fun y175 => (if y175 = true then some false else some false)) ((laws_eqOrdinal k o138 o136).bind fun y172 => (if y172 = true then (laws_FnExactPlusesIn_p20 k o135 o137) else some false))))
set_option maxHeartbeats 4000000 in
set_option maxRecDepth 100000 in
theorem laws_FnExactPlusesIn_p19_ct {k : Nat} {o135 : Int} {o136 : Rw} {o137 : Rw} {o138 : Rw} {v139 : Bool} {v147 : Bool} {r : Bool} (h : laws_FnExactPlusesIn_p19 k o135 o136 o137 o138 v139 v147 = some r) : X prog 0 (tlF f12 19) (mk 96 [(4, .ptr 256 0), (5, .d (D.bool v147)), (7, .ptr 448 0), (10, .d (D.int .i64 o135)), (12, .ptr 768 0), (13, .d (D.bool v139))] [(256, .box 26 [.os 1159000 o136.length]), (448, .box 26 [.os 1159001 o137.length]), (768, .box 26 [.os 1159002 o138.length]), (1159000, .arr 98 true o136), (1159001, .arr 98 true o137), (1159002, .arr 98 true o138)]) (finK prog f12 0 (.d (D.bool r)) (⟨[], []⟩)) := by
  rw [laws_FnExactPlusesIn_p19] at h
  cases v139
  · replace h := condF h
    cases v147
    · replace h := condF h
      conv => whnf
      refine Take.all (rfl) ?_
      conv => whnf
      refine Take.all (rfl) ?_
      conv => whnf
      obtain ⟨y172, e173, h⟩ := bind_ex h
      refine CallOk.of (laws_eqOrdinal_ct e173) ?_
      conv => whnf
      refine spl (fun g174 => ?_) (fun g174 => ?_)
      · replace h := iteT h g174
        conv => whnf
        refine splF ?_
        conv => whnf
        refine CutK.norm [7, 10, 87] [448, 1159001] ?_
        conv => whnf
        exact CutK.piece (laws_FnExactPlusesIn_p20_ct  h) [some 448, some 1159001] [] ⟨⟨rfl, rfl⟩, ⟨rfl, ⟨rfl, ⟨rfl, rfl⟩, trivial⟩, ⟨rfl, rfl, rows_same⟩, trivial⟩, ⟨rfl, rfl⟩, rfl, trivial⟩
      · replace h := iteF h g174
        conv => whnf
        refine CutK.norm [7, 10, 87] [448, 1159001] ?_
        conv => whnf
        cases h
        exact Done.of [] [] rfl rfl ⟨⟨rfl, rfl⟩, ⟨rfl, trivial⟩, rfl, trivial⟩
    · replace h := condT h
      conv => whnf
      refine Take.all (rfl) ?_
      conv => whnf
      refine Take.all (rfl) ?_
      conv => whnf
      obtain ⟨y175, e176, h⟩ := bind_ex h
      refine CallOk.of (laws_eqOrdinal_ct e176) ?_
      conv => whnf
      refine spl (fun g177 => ?_) (fun g177 => ?_)
      · replace h := iteT h g177
        conv => whnf
        refine splT ?_
        conv => whnf
        refine CutK.norm [7, 10, 87] [448, 1159001] ?_
        conv => whnf
        cases h
        exact Done.of [] [] rfl rfl ⟨⟨rfl, rfl⟩, ⟨rfl, trivial⟩, rfl, trivial⟩
      · replace h := iteF h g177
        conv => whnf
        refine CutK.norm [7, 10, 87] [448, 1159001] ?_
        conv => whnf
        cases h
        exact Done.of [] [] rfl rfl ⟨⟨rfl, rfl⟩, ⟨rfl, trivial⟩, rfl, trivial⟩
  · replace h := condT h
    cases v147
    · replace h := condF h
      conv => whnf
      refine Take.all (rfl) ?_
      conv => whnf
      refine Take.all (rfl) ?_
      conv => whnf
      obtain ⟨y178, e179, h⟩ := bind_ex h
      refine CallOk.of (laws_eqOrdinal_ct e179) ?_
      conv => whnf
      refine spl (fun g180 => ?_) (fun g180 => ?_)
      · replace h := iteT h g180
        conv => whnf
        refine splT ?_
        conv => whnf
        refine CutK.norm [7, 10, 87] [448, 1159001] ?_
        conv => whnf
        cases h
        exact Done.of [] [] rfl rfl ⟨⟨rfl, rfl⟩, ⟨rfl, trivial⟩, rfl, trivial⟩
      · replace h := iteF h g180
        conv => whnf
        refine CutK.norm [7, 10, 87] [448, 1159001] ?_
        conv => whnf
        cases h
        exact Done.of [] [] rfl rfl ⟨⟨rfl, rfl⟩, ⟨rfl, trivial⟩, rfl, trivial⟩
    · replace h := condT h
      conv => whnf
      refine Take.all (rfl) ?_
      conv => whnf
      refine Take.all (rfl) ?_
      conv => whnf
      obtain ⟨y181, e182, h⟩ := bind_ex h
      refine CallOk.of (laws_eqOrdinal_ct e182) ?_
      conv => whnf
      refine spl (fun g183 => ?_) (fun g183 => ?_)
      · replace h := iteT h g183
        conv => whnf
        refine splF ?_
        conv => whnf
        refine CutK.norm [7, 10, 87] [448, 1159001] ?_
        conv => whnf
        exact CutK.piece (laws_FnExactPlusesIn_p20_ct  h) [some 448, some 1159001] [] ⟨⟨rfl, rfl⟩, ⟨rfl, ⟨rfl, ⟨rfl, rfl⟩, trivial⟩, ⟨rfl, rfl, rows_same⟩, trivial⟩, ⟨rfl, rfl⟩, rfl, trivial⟩
      · replace h := iteF h g183
        conv => whnf
        refine CutK.norm [7, 10, 87] [448, 1159001] ?_
        conv => whnf
        cases h
        exact Done.of [] [] rfl rfl ⟨⟨rfl, rfl⟩, ⟨rfl, trivial⟩, rfl, trivial⟩
def laws_FnExactPlusesIn_p16 (k : Nat) (a1 : Rw) (o121 : Int) (o122 : Int) (o123 : Rw) (o124 : Rw) (v127 : Bool) : Option Bool :=
  (cond v127 (if o122 < (0 : Int) then some false else (if o122 = o121 then ((laws_toWord k a1).bind fun y193 => ((impl_PlusesIn k y193).bind fun y195 => (if y195.2 = true then (laws_FnExactPlusesIn_p19 k o121 o123 o124 y195.1 true true) else (laws_FnExactPlusesIn_p19 k o121 o123 o124 y195.1 false true)))) else some false)) (if o122 < (0 : Int) then some false else (if o122 = o121 then ((laws_toWord k a1).bind fun y186 => ((impl_PlusesIn k y186).bind fun y188 => (if y188.2 = true then (laws_FnExactPlusesIn_p19 k o121 o123 o124 y188.1 true false) else (laws_FnExactPlusesIn_p19 k o121 o123 o124 y188.1 false false)))) else some false)))
set_option maxHeartbeats 4000000 in
set_option maxRecDepth 100000 in
theorem laws_FnExactPlusesIn_p16_ct {k : Nat} {a1 : Rw} {o121 : Int} {o122 : Int} {o123 : Rw} {o124 : Rw} {v127 : Bool} {r : Bool} (h : laws_FnExactPlusesIn_p16 k a1 o121 o122 o123 o124 v127 = some r) : X prog 0 (tlF f12 16) (mk 96 [(1, .ptr 64 0), (4, .ptr 256 0), (5, .d (D.bool v127)), (7, .ptr 448 0), (10, .d (D.int .i64 o121)), (11, .d (D.int .i64 o122))] [(64, .box 57 [.d (D.sl a1)]), (256, .box 26 [.os 1144000 o123.length]), (448, .box 26 [.os 1144001 o124.length]), (1144000, .arr 98 true o123), (1144001, .arr 98 true o124)]) (finK prog f12 0 (.d (D.bool r)) (⟨[], []⟩)) := by
  rw [laws_FnExactPlusesIn_p16] at h
  cases v127
  · replace h := condF h
    conv => whnf
    refine splD (fun g184 => ?_) (fun g184 => ?_)
    · replace h := iteP h g184
      conv => whnf
      cases h
      exact Done.of [] [] rfl rfl ⟨⟨rfl, rfl⟩, ⟨rfl, trivial⟩, rfl, trivial⟩
    · replace h := iteN h g184
      conv => whnf
      refine splN (fun g185 => ?_) (fun g185 => ?_)
      · replace h := iteN h g185
        conv => whnf
        cases h
        exact Done.of [] [] rfl rfl ⟨⟨rfl, rfl⟩, ⟨rfl, trivial⟩, rfl, trivial⟩
      · replace h := iteP h g185
        conv => whnf
        obtain ⟨y186, e187, h⟩ := bind_ex h
        refine CallOk.of (laws_toWord_ct e187) ?_
        conv => whnf
        refine Take.all (rfl) ?_
        conv => whnf
        obtain ⟨y188, e189, h⟩ := bind_ex h
        refine CallOk.of (impl_PlusesIn_ct e189) ?_
        conv => whnf
        refine spl (fun g190 => ?_) (fun g190 => ?_)
        · replace h := iteT h g190
          conv => whnf
          exact CutK.piece (laws_FnExactPlusesIn_p19_ct  h) [some 256, some 448, some 768, some 1144000, some 1144001, some 4864] [] ⟨⟨rfl, rfl⟩, ⟨rfl, ⟨rfl, ⟨rfl, rfl⟩, trivial⟩, ⟨rfl, ⟨rfl, rfl⟩, trivial⟩, ⟨rfl, ⟨rfl, rfl⟩, trivial⟩, ⟨rfl, rfl, rows_same⟩, ⟨rfl, rfl, rows_same⟩, ⟨rfl, rfl, rows_same⟩, trivial⟩, ⟨rfl, rfl⟩, rfl, ⟨rfl, rfl⟩, rfl, ⟨rfl, rfl⟩, rfl, trivial⟩
        · replace h := iteF h g190
          conv => whnf
          exact CutK.piece (laws_FnExactPlusesIn_p19_ct  h) [some 256, some 448, some 768, some 1144000, some 1144001, some 4864] [] ⟨⟨rfl, rfl⟩, ⟨rfl, ⟨rfl, ⟨rfl, rfl⟩, trivial⟩, ⟨rfl, ⟨rfl, rfl⟩, trivial⟩, ⟨rfl, ⟨rfl, rfl⟩, trivial⟩, ⟨rfl, rfl, rows_same⟩, ⟨rfl, rfl, rows_same⟩, ⟨rfl, rfl, rows_same⟩, trivial⟩, ⟨rfl, rfl⟩, rfl, ⟨rfl, rfl⟩, rfl, ⟨rfl, rfl⟩, rfl, trivial⟩
  · replace h := condT h
    conv => whnf
    refine splD (fun g191 => ?_) (fun g191 => ?_)
    · replace h := iteP h g191
      conv => whnf
      cases h
      exact Done.of [] [] rfl rfl ⟨⟨rfl, rfl⟩, ⟨rfl, trivial⟩, rfl, trivial⟩
    · replace h := iteN h g191
      conv => whnf
      refine splN (fun g192 => ?_) (fun g192 => ?_)
      · replace h := iteN h g192
        conv => whnf
        cases h
        exact Done.of [] [] rfl rfl ⟨⟨rfl, rfl⟩, ⟨rfl, trivial⟩, rfl, trivial⟩
      · replace h := iteP h g192
        conv => whnf
        obtain ⟨y193, e194, h⟩ := bind_ex h
        refine CallOk.of (laws_toWord_ct e194) ?_
        conv => whnf
        refine Take.all (rfl) ?_
        conv => whnf
        obtain ⟨y195, e196, h⟩ := bind_ex h
        refine CallOk.of (impl_PlusesIn_ct e196) ?_
        conv => whnf
        refine spl (fun g197 => ?_) (fun g197 => ?_)
        · replace h := iteT h g197
          conv => whnf
          exact CutK.piece (laws_FnExactPlusesIn_p19_ct  h) [some 256, some 448, some 768, some 1144000, some 1144001, some 4864] [] ⟨⟨rfl, rfl⟩, ⟨rfl, ⟨rfl, ⟨rfl, rfl⟩, trivial⟩, ⟨rfl, ⟨rfl, rfl⟩, trivial⟩, ⟨rfl, ⟨rfl, rfl⟩, trivial⟩, ⟨rfl, rfl, rows_same⟩, ⟨rfl, rfl, rows_same⟩, ⟨rfl, rfl, rows_same⟩, trivial⟩, ⟨rfl, rfl⟩, rfl, ⟨rfl, rfl⟩, rfl, ⟨rfl, rfl⟩, rfl, trivial⟩
        · replace h := iteF h g197
          conv => whnf
          exact CutK.piece (laws_FnExactPlusesIn_p19_ct  h) [some 256, some 448, some 768, some 1144000, some 1144001, some 4864] [] ⟨⟨rfl, rfl⟩, ⟨rfl, ⟨rfl, ⟨rfl, rfl⟩, trivial⟩, ⟨rfl, ⟨rfl, rfl⟩, trivial⟩, ⟨rfl, ⟨rfl, rfl⟩, trivial⟩, ⟨rfl, rfl, rows_same⟩, ⟨rfl, rfl, rows_same⟩, ⟨rfl, rfl, rows_same⟩, trivial⟩, ⟨rfl, rfl⟩, rfl, ⟨rfl, rfl⟩, rfl, ⟨rfl, rfl⟩, rfl, trivial⟩
def laws_FnExactPlusesIn_p14 (k : Nat) (a1 : Rw) (o112 : Int) (o113 : Rw) (o114 : Rw) (v118 : Bool) : Option Bool :=
  (cond v118 ((laws_heldOrdinal k o114 1).bind fun y200 => (laws_FnExactPlusesIn_p16 k a1 o112 y200 o113 o114 true)) ((laws_heldOrdinal k o114 1).bind fun y198 => (laws_FnExactPlusesIn_p16 k a1 o112 y198 o113 o114 false)))
set_option maxHeartbeats 4000000 in
set_option maxRecDepth 100000 in
theorem laws_FnExactPlusesIn_p14_ct {k : Nat} {a1 : Rw} {o112 : Int} {o113 : Rw} {o114 : Rw} {v118 : Bool} {r : Bool} (h : laws_FnExactPlusesIn_p14 k a1 o112 o113 o114 v118 = some r) : X prog 0 (tlF f12 14) (mk 96 [(1, .ptr 64 0), (4, .ptr 256 0), (5, .d (D.bool v118)), (7, .ptr 448 0), (10, .d (D.int .i64 o112))] [(64, .box 57 [.d (D.sl a1)]), (256, .box 26 [.os 1134000 o113.length]), (448, .box 26 [.os 1134001 o114.length]), (1134000, .arr 98 true o113), (1134001, .arr 98 true o114)]) (finK prog f12 0 (.d (D.bool r)) (⟨[], []⟩)) := by
  rw [laws_FnExactPlusesIn_p14] at h
  cases v118
  · replace h := condF h
    conv => whnf
    refine Choice.old ?_
    conv => whnf
    refine Take.all (rfl) ?_
    conv => whnf
    obtain ⟨y198, e199, h⟩ := bind_ex h
    refine CallOk.of (laws_heldOrdinal_ct e199) ?_
    conv => whnf
    exact CutK.piece (laws_FnExactPlusesIn_p16_ct  h) [some 64, some 256, some 448, some 1134000, some 1134001] [] ⟨⟨rfl, rfl⟩, ⟨rfl, ⟨rfl, rfl, trivial⟩, ⟨rfl, ⟨rfl, rfl⟩, trivial⟩, ⟨rfl, ⟨rfl, rfl⟩, trivial⟩, ⟨rfl, rfl, rows_same⟩, ⟨rfl, rfl, rows_same⟩, trivial⟩, ⟨rfl, rfl⟩, ⟨rfl, rfl⟩, rfl, ⟨rfl, rfl⟩, rfl, rfl, trivial⟩
  · replace h := condT h
    conv => whnf
    refine Choice.old ?_
    conv => whnf
    refine Take.all (rfl) ?_
    conv => whnf
    obtain ⟨y200, e201, h⟩ := bind_ex h
    refine CallOk.of (laws_heldOrdinal_ct e201) ?_
    conv => whnf
    exact CutK.piece (laws_FnExactPlusesIn_p16_ct  h) [some 64, some 256, some 448, some 1134000, some 1134001] [] ⟨⟨rfl, rfl⟩, ⟨rfl, ⟨rfl, rfl, trivial⟩, ⟨rfl, ⟨rfl, rfl⟩, trivial⟩, ⟨rfl, ⟨rfl, rfl⟩, trivial⟩, ⟨rfl, rfl, rows_same⟩, ⟨rfl, rfl, rows_same⟩, trivial⟩, ⟨rfl, rfl⟩, ⟨rfl, rfl⟩, rfl, ⟨rfl, rfl⟩, rfl, rfl, trivial⟩
def laws_FnExactPlusesIn_p12 (k : Nat) (a1 : Rw) (o94 : Rw) (o95 : Rw) (v108 : Bool) : Option Bool :=
  (cond v108 ((laws_markOrdinal k o95 1).bind fun y205 => (if y205.2.length = o95.length then (laws_FnExactPlusesIn_p14 k a1 y205.1 o94 y205.2 true) else none)) ((laws_markOrdinal k o95 1).bind fun y202 => (if y202.2.length = o95.length then (laws_FnExactPlusesIn_p14 k a1 y202.1 o94 y202.2 false) else none)))
set_option maxHeartbeats 4000000 in
set_option maxRecDepth 100000 in
theorem laws_FnExactPlusesIn_p12_ct {k : Nat} {a1 : Rw} {o94 : Rw} {o95 : Rw} {v108 : Bool} {r : Bool} (h : laws_FnExactPlusesIn_p12 k a1 o94 o95 v108 = some r) : X prog 0 (tlF f12 12) (mk 96 [(1, .ptr 64 0), (4, .ptr 256 0), (5, .d (D.bool v108)), (7, .ptr 448 0)] [(64, .box 57 [.d (D.sl a1)]), (256, .box 26 [.os 1124000 o94.length]), (448, .box 26 [.os 1124001 o95.length]), (1124000, .arr 98 true o94), (1124001, .arr 98 true o95)]) (finK prog f12 0 (.d (D.bool r)) (⟨[], []⟩)) := by
  rw [laws_FnExactPlusesIn_p12] at h
  cases v108
  · replace h := condF h
    conv => whnf
    refine Choice.new ?_
    conv => whnf
    refine Req.of (rfl) ?_
    conv => whnf
    obtain ⟨y202, e203, h⟩ := bind_ex h
    refine MarkOk.of (laws_markOrdinal_ct e203) ?_
    conv => whnf
    obtain ⟨g204, h⟩ := req_ex h
    exact CutK.piece (laws_FnExactPlusesIn_p14_ct  h) [some 64, some 256, some 448, some 1124000, some 1124001] [] ⟨⟨rfl, rfl⟩, ⟨rfl, ⟨rfl, rfl, trivial⟩, ⟨rfl, ⟨rfl, rfl⟩, trivial⟩, ⟨rfl, ⟨(by first | rfl | exact List.length_append.symm | (simp; done) | omega), rfl⟩, trivial⟩, ⟨rfl, rfl, rows_same⟩, ⟨rfl, rfl, rows_same⟩, trivial⟩, ⟨rfl, rfl⟩, ⟨rfl, rfl⟩, rfl, ⟨rfl, rfl⟩, rfl, trivial⟩
  · replace h := condT h
    conv => whnf
    refine Choice.new ?_
    conv => whnf
    refine Req.of (rfl) ?_
    conv => whnf
    obtain ⟨y205, e206, h⟩ := bind_ex h
    refine MarkOk.of (laws_markOrdinal_ct e206) ?_
    conv => whnf
    obtain ⟨g207, h⟩ := req_ex h
    exact CutK.piece (laws_FnExactPlusesIn_p14_ct  h) [some 64, some 256, some 448, some 1124000, some 1124001] [] ⟨⟨rfl, rfl⟩, ⟨rfl, ⟨rfl, rfl, trivial⟩, ⟨rfl, ⟨rfl, rfl⟩, trivial⟩, ⟨rfl, ⟨(by first | rfl | exact List.length_append.symm | (simp; done) | omega), rfl⟩, trivial⟩, ⟨rfl, rfl, rows_same⟩, ⟨rfl, rfl, rows_same⟩, trivial⟩, ⟨rfl, rfl⟩, ⟨rfl, rfl⟩, rfl, ⟨rfl, rfl⟩, rfl, trivial⟩
def laws_FnExactPlusesIn_p11 (k : Nat) (a1 : Rw) (o76 : Int) (o77 : Rw) (o78 : Rw) (v82 : Bool) (v86 : Bool) : Option Bool :=
  (cond v82 (cond v86 (if o76 < (0 : Int) then some false else ((laws_eqOrdinal k o78 o77).bind fun y221 => (if y221 = true then (laws_FnExactPlusesIn_p12 k a1 o77 o78 true) else some false))) (if o76 < (0 : Int) then some false else ((laws_eqOrdinal k o78 o77).bind fun y217 => (if y217 = true then some false else some false)))) (cond v86 (if o76 < (0 : Int) then some false else ((laws_eqOrdinal k o78 o77).bind fun y213 => (if y213 = true then some false else some false))) (if o76 < (0 : Int) then some false else ((laws_eqOrdinal k o78 o77).bind fun y209 => (if y209 = true then (laws_FnExactPlusesIn_p12 k a1 o77 o78 false) else some false)))))
set_option maxHeartbeats 4000000 in
set_option maxRecDepth 100000 in
theorem laws_FnExactPlusesIn_p11_ct {k : Nat} {a1 : Rw} {o76 : Int} {o77 : Rw} {o78 : Rw} {v82 : Bool} {v86 : Bool} {r : Bool} (h : laws_FnExactPlusesIn_p11 k a1 o76 o77 o78 v82 v86 = some r) : X prog 0 (tlF f12 11) (mk 96 [(1, .ptr 64 0), (4, .ptr 256 0), (5, .d (D.bool v82)), (7, .ptr 448 0), (8, .d (D.bool v86)), (9, .d (D.int .i64 o76))] [(64, .box 57 [.d (D.sl a1)]), (256, .box 26 [.os 1119000 o77.length]), (448, .box 26 [.os 1119001 o78.length]), (1119000, .arr 98 true o77), (1119001, .arr 98 true o78)]) (finK prog f12 0 (.d (D.bool r)) (⟨[], []⟩)) := by
  rw [laws_FnExactPlusesIn_p11] at h
  cases v82
  · replace h := condF h
    cases v86
    · replace h := condF h
      conv => whnf
      refine splD (fun g208 => ?_) (fun g208 => ?_)
      · replace h := iteP h g208
        conv => whnf
        refine CutK.norm [1, 4, 5, 7, 61] [64, 256, 448, 1119000, 1119001] ?_
        conv => whnf
        cases h
        exact Done.of [] [] rfl rfl ⟨⟨rfl, rfl⟩, ⟨rfl, trivial⟩, rfl, trivial⟩
      · replace h := iteN h g208
        conv => whnf
        refine Take.all (rfl) ?_
        conv => whnf
        refine Take.all (rfl) ?_
        conv => whnf
        obtain ⟨y209, e210, h⟩ := bind_ex h
        refine CallOk.of (laws_eqOrdinal_ct e210) ?_
        conv => whnf
        refine spl (fun g211 => ?_) (fun g211 => ?_)
        · replace h := iteT h g211
          conv => whnf
          refine splF ?_
          conv => whnf
          refine CutK.norm [1, 4, 5, 7, 61] [64, 256, 448, 1119000, 1119001] ?_
          conv => whnf
          exact CutK.piece (laws_FnExactPlusesIn_p12_ct  h) [some 64, some 256, some 448, some 1119000, some 1119001] [] ⟨⟨rfl, rfl⟩, ⟨rfl, ⟨rfl, rfl, trivial⟩, ⟨rfl, ⟨rfl, rfl⟩, trivial⟩, ⟨rfl, ⟨rfl, rfl⟩, trivial⟩, ⟨rfl, rfl, rows_same⟩, ⟨rfl, rfl, rows_same⟩, trivial⟩, ⟨rfl, rfl⟩, ⟨rfl, rfl⟩, rfl, ⟨rfl, rfl⟩, trivial⟩
        · replace h := iteF h g211
          conv => whnf
          refine CutK.norm [1, 4, 5, 7, 61] [64, 256, 448, 1119000, 1119001] ?_
          conv => whnf
          cases h
          exact Done.of [] [] rfl rfl ⟨⟨rfl, rfl⟩, ⟨rfl, trivial⟩, rfl, trivial⟩
    · replace h := condT h
      conv => whnf
      refine splD (fun g212 => ?_) (fun g212 => ?_)
      · replace h := iteP h g212
        conv => whnf
        refine CutK.norm [1, 4, 5, 7, 61] [64, 256, 448, 1119000, 1119001] ?_
        conv => whnf
        cases h
        exact Done.of [] [] rfl rfl ⟨⟨rfl, rfl⟩, ⟨rfl, trivial⟩, rfl, trivial⟩
      · replace h := iteN h g212
        conv => whnf
        refine Take.all (rfl) ?_
        conv => whnf
        refine Take.all (rfl) ?_
        conv => whnf
        obtain ⟨y213, e214, h⟩ := bind_ex h
        refine CallOk.of (laws_eqOrdinal_ct e214) ?_
        conv => whnf
        refine spl (fun g215 => ?_) (fun g215 => ?_)
        · replace h := iteT h g215
          conv => whnf
          refine splT ?_
          conv => whnf
          refine CutK.norm [1, 4, 5, 7, 61] [64, 256, 448, 1119000, 1119001] ?_
          conv => whnf
          cases h
          exact Done.of [] [] rfl rfl ⟨⟨rfl, rfl⟩, ⟨rfl, trivial⟩, rfl, trivial⟩
        · replace h := iteF h g215
          conv => whnf
          refine CutK.norm [1, 4, 5, 7, 61] [64, 256, 448, 1119000, 1119001] ?_
          conv => whnf
          cases h
          exact Done.of [] [] rfl rfl ⟨⟨rfl, rfl⟩, ⟨rfl, trivial⟩, rfl, trivial⟩
  · replace h := condT h
    cases v86
    · replace h := condF h
      conv => whnf
      refine splD (fun g216 => ?_) (fun g216 => ?_)
      · replace h := iteP h g216
        conv => whnf
        refine CutK.norm [1, 4, 5, 7, 61] [64, 256, 448, 1119000, 1119001] ?_
        conv => whnf
        cases h
        exact Done.of [] [] rfl rfl ⟨⟨rfl, rfl⟩, ⟨rfl, trivial⟩, rfl, trivial⟩
      · replace h := iteN h g216
        conv => whnf
        refine Take.all (rfl) ?_
        conv => whnf
        refine Take.all (rfl) ?_
        conv => whnf
        obtain ⟨y217, e218, h⟩ := bind_ex h
        refine CallOk.of (laws_eqOrdinal_ct e218) ?_
        conv => whnf
        refine spl (fun g219 => ?_) (fun g219 => ?_)
        · replace h := iteT h g219
          conv => whnf
          refine splT ?_
          conv => whnf
          refine CutK.norm [1, 4, 5, 7, 61] [64, 256, 448, 1119000, 1119001] ?_
          conv => whnf
          cases h
          exact Done.of [] [] rfl rfl ⟨⟨rfl, rfl⟩, ⟨rfl, trivial⟩, rfl, trivial⟩
        · replace h := iteF h g219
          conv => whnf
          refine CutK.norm [1, 4, 5, 7, 61] [64, 256, 448, 1119000, 1119001] ?_
          conv => whnf
          cases h
          exact Done.of [] [] rfl rfl ⟨⟨rfl, rfl⟩, ⟨rfl, trivial⟩, rfl, trivial⟩
    · replace h := condT h
      conv => whnf
      refine splD (fun g220 => ?_) (fun g220 => ?_)
      · replace h := iteP h g220
        conv => whnf
        refine CutK.norm [1, 4, 5, 7, 61] [64, 256, 448, 1119000, 1119001] ?_
        conv => whnf
        cases h
        exact Done.of [] [] rfl rfl ⟨⟨rfl, rfl⟩, ⟨rfl, trivial⟩, rfl, trivial⟩
      · replace h := iteN h g220
        conv => whnf
        refine Take.all (rfl) ?_
        conv => whnf
        refine Take.all (rfl) ?_
        conv => whnf
        obtain ⟨y221, e222, h⟩ := bind_ex h
        refine CallOk.of (laws_eqOrdinal_ct e222) ?_
        conv => whnf
        refine spl (fun g223 => ?_) (fun g223 => ?_)
        · replace h := iteT h g223
          conv => whnf
          refine splF ?_
          conv => whnf
          refine CutK.norm [1, 4, 5, 7, 61] [64, 256, 448, 1119000, 1119001] ?_
          conv => whnf
          exact CutK.piece (laws_FnExactPlusesIn_p12_ct  h) [some 64, some 256, some 448, some 1119000, some 1119001] [] ⟨⟨rfl, rfl⟩, ⟨rfl, ⟨rfl, rfl, trivial⟩, ⟨rfl, ⟨rfl, rfl⟩, trivial⟩, ⟨rfl, ⟨rfl, rfl⟩, trivial⟩, ⟨rfl, rfl, rows_same⟩, ⟨rfl, rfl, rows_same⟩, trivial⟩, ⟨rfl, rfl⟩, ⟨rfl, rfl⟩, rfl, ⟨rfl, rfl⟩, trivial⟩
        · replace h := iteF h g223
          conv => whnf
          refine CutK.norm [1, 4, 5, 7, 61] [64, 256, 448, 1119000, 1119001] ?_
          conv => whnf
          cases h
          exact Done.of [] [] rfl rfl ⟨⟨rfl, rfl⟩, ⟨rfl, trivial⟩, rfl, trivial⟩
def laws_FnExactPlusesIn_p9 (k : Nat) (a1 : Rw) (o53 : Rw) (o54 : Rw) (o55 : Rw) (v61 : Bool) (v67 : Bool) : Option Bool :=
  (cond v61 (cond v67 ((laws_markWord k o54 1).bind fun y233 => (if y233.2.length = o54.length then (laws_FnExactPlusesIn_p11 k a1 y233.1 o53 o55 true true) else none)) ((laws_markWord k o54 1).bind fun y230 => (if y230.2.length = o54.length then (laws_FnExactPlusesIn_p11 k a1 y230.1 o53 o55 false true) else none))) (cond v67 ((laws_markWord k o54 1).bind fun y227 => (if y227.2.length = o54.length then (laws_FnExactPlusesIn_p11 k a1 y227.1 o53 o55 true false) else none)) ((laws_markWord k o54 1).bind fun y224 => (if y224.2.length = o54.length then (laws_FnExactPlusesIn_p11 k a1 y224.1 o53 o55 false false) else none))))
set_option maxHeartbeats 4000000 in
set_option maxRecDepth 100000 in
theorem laws_FnExactPlusesIn_p9_ct {k : Nat} {a1 : Rw} {o53 : Rw} {o54 : Rw} {o55 : Rw} {v61 : Bool} {v67 : Bool} {r : Bool} (h : laws_FnExactPlusesIn_p9 k a1 o53 o54 o55 v61 v67 = some r) : X prog 0 (tlF f12 9) (mk 96 [(1, .ptr 64 0), (4, .ptr 256 0), (5, .d (D.bool v67)), (6, .ptr 384 0), (7, .ptr 448 0), (8, .d (D.bool v61))] [(64, .box 57 [.d (D.sl a1)]), (256, .box 26 [.os 1109000 o53.length]), (384, .box 61 [.os 1109001 o54.length]), (448, .box 26 [.os 1109002 o55.length]), (1109000, .arr 98 true o53), (1109001, .arr 150 true o54), (1109002, .arr 98 true o55)]) (finK prog f12 0 (.d (D.bool r)) (⟨[], []⟩)) := by
  rw [laws_FnExactPlusesIn_p9] at h
  cases v61
  · replace h := condF h
    cases v67
    · replace h := condF h
      conv => whnf
      refine Choice.new ?_
      conv => whnf
      refine Req.of (rfl) ?_
      conv => whnf
      obtain ⟨y224, e225, h⟩ := bind_ex h
      refine MarkOk.of (laws_markWord_ct e225) ?_
      conv => whnf
      obtain ⟨g226, h⟩ := req_ex h
      exact CutK.piece (laws_FnExactPlusesIn_p11_ct  h) [some 64, some 256, some 448, some 1109000, some 1109002] [] ⟨⟨rfl, rfl⟩, ⟨rfl, ⟨rfl, rfl, trivial⟩, ⟨rfl, ⟨rfl, rfl⟩, trivial⟩, ⟨rfl, ⟨rfl, rfl⟩, trivial⟩, ⟨rfl, rfl, rows_same⟩, ⟨rfl, rfl, rows_same⟩, trivial⟩, ⟨rfl, rfl⟩, ⟨rfl, rfl⟩, rfl, ⟨rfl, rfl⟩, rfl, rfl, trivial⟩
    · replace h := condT h
      conv => whnf
      refine Choice.new ?_
      conv => whnf
      refine Req.of (rfl) ?_
      conv => whnf
      obtain ⟨y227, e228, h⟩ := bind_ex h
      refine MarkOk.of (laws_markWord_ct e228) ?_
      conv => whnf
      obtain ⟨g229, h⟩ := req_ex h
      exact CutK.piece (laws_FnExactPlusesIn_p11_ct  h) [some 64, some 256, some 448, some 1109000, some 1109002] [] ⟨⟨rfl, rfl⟩, ⟨rfl, ⟨rfl, rfl, trivial⟩, ⟨rfl, ⟨rfl, rfl⟩, trivial⟩, ⟨rfl, ⟨rfl, rfl⟩, trivial⟩, ⟨rfl, rfl, rows_same⟩, ⟨rfl, rfl, rows_same⟩, trivial⟩, ⟨rfl, rfl⟩, ⟨rfl, rfl⟩, rfl, ⟨rfl, rfl⟩, rfl, rfl, trivial⟩
  · replace h := condT h
    cases v67
    · replace h := condF h
      conv => whnf
      refine Choice.new ?_
      conv => whnf
      refine Req.of (rfl) ?_
      conv => whnf
      obtain ⟨y230, e231, h⟩ := bind_ex h
      refine MarkOk.of (laws_markWord_ct e231) ?_
      conv => whnf
      obtain ⟨g232, h⟩ := req_ex h
      exact CutK.piece (laws_FnExactPlusesIn_p11_ct  h) [some 64, some 256, some 448, some 1109000, some 1109002] [] ⟨⟨rfl, rfl⟩, ⟨rfl, ⟨rfl, rfl, trivial⟩, ⟨rfl, ⟨rfl, rfl⟩, trivial⟩, ⟨rfl, ⟨rfl, rfl⟩, trivial⟩, ⟨rfl, rfl, rows_same⟩, ⟨rfl, rfl, rows_same⟩, trivial⟩, ⟨rfl, rfl⟩, ⟨rfl, rfl⟩, rfl, ⟨rfl, rfl⟩, rfl, rfl, trivial⟩
    · replace h := condT h
      conv => whnf
      refine Choice.new ?_
      conv => whnf
      refine Req.of (rfl) ?_
      conv => whnf
      obtain ⟨y233, e234, h⟩ := bind_ex h
      refine MarkOk.of (laws_markWord_ct e234) ?_
      conv => whnf
      obtain ⟨g235, h⟩ := req_ex h
      exact CutK.piece (laws_FnExactPlusesIn_p11_ct  h) [some 64, some 256, some 448, some 1109000, some 1109002] [] ⟨⟨rfl, rfl⟩, ⟨rfl, ⟨rfl, rfl, trivial⟩, ⟨rfl, ⟨rfl, rfl⟩, trivial⟩, ⟨rfl, ⟨rfl, rfl⟩, trivial⟩, ⟨rfl, rfl, rows_same⟩, ⟨rfl, rfl, rows_same⟩, trivial⟩, ⟨rfl, rfl⟩, ⟨rfl, rfl⟩, rfl, ⟨rfl, rfl⟩, rfl, rfl, trivial⟩
def laws_FnExactPlusesIn_p8 (k : Nat) (a1 : Rw) (o34 : Rw) (o35 : Rw) (o36 : Rw) (v46 : Bool) (v47 : Bool) : Option Bool :=
  (cond v46 (cond v47 ((laws_toWord k a1).bind fun y251 => ((laws_eqWord k o35 y251).bind fun y253 => (if y253 = true then (laws_FnExactPlusesIn_p9 k a1 o34 o35 o36 true true) else some false))) ((laws_toWord k a1).bind fun y246 => ((laws_eqWord k o35 y246).bind fun y248 => (if y248 = true then (laws_FnExactPlusesIn_p9 k a1 o34 o35 o36 false true) else some false)))) (cond v47 ((laws_toWord k a1).bind fun y241 => ((laws_eqWord k o35 y241).bind fun y243 => (if y243 = true then (laws_FnExactPlusesIn_p9 k a1 o34 o35 o36 true false) else some false))) ((laws_toWord k a1).bind fun y236 => ((laws_eqWord k o35 y236).bind fun y238 => (if y238 = true then (laws_FnExactPlusesIn_p9 k a1 o34 o35 o36 false false) else some false)))))
set_option maxHeartbeats 4000000 in
set_option maxRecDepth 100000 in
theorem laws_FnExactPlusesIn_p8_ct {k : Nat} {a1 : Rw} {o34 : Rw} {o35 : Rw} {o36 : Rw} {v46 : Bool} {v47 : Bool} {r : Bool} (h : laws_FnExactPlusesIn_p8 k a1 o34 o35 o36 v46 v47 = some r) : X prog 0 (tlF f12 8) (mk 96 [(1, .ptr 64 0), (4, .ptr 256 0), (5, .d (D.bool v46)), (6, .ptr 384 0), (7, .ptr 448 0), (8, .d (D.bool v47))] [(64, .box 57 [.d (D.sl a1)]), (256, .box 26 [.os 1104000 o34.length]), (384, .box 61 [.os 1104001 o35.length]), (448, .box 26 [.os 1104002 o36.length]), (1104000, .arr 98 true o34), (1104001, .arr 150 true o35), (1104002, .arr 98 true o36)]) (finK prog f12 0 (.d (D.bool r)) (⟨[], []⟩)) := by
  rw [laws_FnExactPlusesIn_p8] at h
  cases v46
  · replace h := condF h
    cases v47
    · replace h := condF h
      conv => whnf
      obtain ⟨y236, e237, h⟩ := bind_ex h
      refine CallOk.of (laws_toWord_ct e237) ?_
      conv => whnf
      refine Take.all (rfl) ?_
      conv => whnf
      refine Take.all (rfl) ?_
      conv => whnf
      obtain ⟨y238, e239, h⟩ := bind_ex h
      refine CallOk.of (laws_eqWord_ct e239) ?_
      conv => whnf
      refine spl (fun g240 => ?_) (fun g240 => ?_)
      · replace h := iteT h g240
        conv => whnf
        refine CutK.norm [1, 4, 5, 6, 7, 8, 45] [64, 256, 384, 448, 1104000, 1104001, 1104002] ?_
        conv => whnf
        exact CutK.piece (laws_FnExactPlusesIn_p9_ct  h) [some 64, some 256, some 384, some 448, some 1104000, some 1104001, some 1104002] [] ⟨⟨rfl, rfl⟩, ⟨rfl, ⟨rfl, rfl, trivial⟩, ⟨rfl, ⟨rfl, rfl⟩, trivial⟩, ⟨rfl, ⟨rfl, rfl⟩, trivial⟩, ⟨rfl, ⟨rfl, rfl⟩, trivial⟩, ⟨rfl, rfl, rows_same⟩, ⟨rfl, rfl, rows_same⟩, ⟨rfl, rfl, rows_same⟩, trivial⟩, ⟨rfl, rfl⟩, ⟨rfl, rfl⟩, rfl, ⟨rfl, rfl⟩, ⟨rfl, rfl⟩, rfl, trivial⟩
      · replace h := iteF h g240
        conv => whnf
        refine CutK.norm [1, 4, 5, 6, 7, 8, 45] [64, 256, 384, 448, 1104000, 1104001, 1104002] ?_
        conv => whnf
        cases h
        exact Done.of [] [] rfl rfl ⟨⟨rfl, rfl⟩, ⟨rfl, trivial⟩, rfl, trivial⟩
    · replace h := condT h
      conv => whnf
      obtain ⟨y241, e242, h⟩ := bind_ex h
      refine CallOk.of (laws_toWord_ct e242) ?_
      conv => whnf
      refine Take.all (rfl) ?_
      conv => whnf
      refine Take.all (rfl) ?_
      conv => whnf
      obtain ⟨y243, e244, h⟩ := bind_ex h
      refine CallOk.of (laws_eqWord_ct e244) ?_
      conv => whnf
      refine spl (fun g245 => ?_) (fun g245 => ?_)
      · replace h := iteT h g245
        conv => whnf
        refine CutK.norm [1, 4, 5, 6, 7, 8, 45] [64, 256, 384, 448, 1104000, 1104001, 1104002] ?_
        conv => whnf
        exact CutK.piece (laws_FnExactPlusesIn_p9_ct  h) [some 64, some 256, some 384, some 448, some 1104000, some 1104001, some 1104002] [] ⟨⟨rfl, rfl⟩, ⟨rfl, ⟨rfl, rfl, trivial⟩, ⟨rfl, ⟨rfl, rfl⟩, trivial⟩, ⟨rfl, ⟨rfl, rfl⟩, trivial⟩, ⟨rfl, ⟨rfl, rfl⟩, trivial⟩, ⟨rfl, rfl, rows_same⟩, ⟨rfl, rfl, rows_same⟩, ⟨rfl, rfl, rows_same⟩, trivial⟩, ⟨rfl, rfl⟩, ⟨rfl, rfl⟩, rfl, ⟨rfl, rfl⟩, ⟨rfl, rfl⟩, rfl, trivial⟩
      · replace h := iteF h g245
        conv => whnf
        refine CutK.norm [1, 4, 5, 6, 7, 8, 45] [64, 256, 384, 448, 1104000, 1104001, 1104002] ?_
        conv => whnf
        cases h
        exact Done.of [] [] rfl rfl ⟨⟨rfl, rfl⟩, ⟨rfl, trivial⟩, rfl, trivial⟩
  · replace h := condT h
    cases v47
    · replace h := condF h
      conv => whnf
      obtain ⟨y246, e247, h⟩ := bind_ex h
      refine CallOk.of (laws_toWord_ct e247) ?_
      conv => whnf
      refine Take.all (rfl) ?_
      conv => whnf
      refine Take.all (rfl) ?_
      conv => whnf
      obtain ⟨y248, e249, h⟩ := bind_ex h
      refine CallOk.of (laws_eqWord_ct e249) ?_
      conv => whnf
      refine spl (fun g250 => ?_) (fun g250 => ?_)
      · replace h := iteT h g250
        conv => whnf
        refine CutK.norm [1, 4, 5, 6, 7, 8, 45] [64, 256, 384, 448, 1104000, 1104001, 1104002] ?_
        conv => whnf
        exact CutK.piece (laws_FnExactPlusesIn_p9_ct  h) [some 64, some 256, some 384, some 448, some 1104000, some 1104001, some 1104002] [] ⟨⟨rfl, rfl⟩, ⟨rfl, ⟨rfl, rfl, trivial⟩, ⟨rfl, ⟨rfl, rfl⟩, trivial⟩, ⟨rfl, ⟨rfl, rfl⟩, trivial⟩, ⟨rfl, ⟨rfl, rfl⟩, trivial⟩, ⟨rfl, rfl, rows_same⟩, ⟨rfl, rfl, rows_same⟩, ⟨rfl, rfl, rows_same⟩, trivial⟩, ⟨rfl, rfl⟩, ⟨rfl, rfl⟩, rfl, ⟨rfl, rfl⟩, ⟨rfl, rfl⟩, rfl, trivial⟩
      · replace h := iteF h g250
        conv => whnf
        refine CutK.norm [1, 4, 5, 6, 7, 8, 45] [64, 256, 384, 448, 1104000, 1104001, 1104002] ?_
        conv => whnf
        cases h
        exact Done.of [] [] rfl rfl ⟨⟨rfl, rfl⟩, ⟨rfl, trivial⟩, rfl, trivial⟩
    · replace h := condT h
      conv => whnf
      obtain ⟨y251, e252, h⟩ := bind_ex h
      refine CallOk.of (laws_toWord_ct e252) ?_
      conv => whnf
      refine Take.all (rfl) ?_
      conv => whnf
      refine Take.all (rfl) ?_
      conv => whnf
      obtain ⟨y253, e254, h⟩ := bind_ex h
      refine CallOk.of (laws_eqWord_ct e254) ?_
      conv => whnf
      refine spl (fun g255 => ?_) (fun g255 => ?_)
      · replace h := iteT h g255
        conv => whnf
        refine CutK.norm [1, 4, 5, 6, 7, 8, 45] [64, 256, 384, 448, 1104000, 1104001, 1104002] ?_
        conv => whnf
        exact CutK.piece (laws_FnExactPlusesIn_p9_ct  h) [some 64, some 256, some 384, some 448, some 1104000, some 1104001, some 1104002] [] ⟨⟨rfl, rfl⟩, ⟨rfl, ⟨rfl, rfl, trivial⟩, ⟨rfl, ⟨rfl, rfl⟩, trivial⟩, ⟨rfl, ⟨rfl, rfl⟩, trivial⟩, ⟨rfl, ⟨rfl, rfl⟩, trivial⟩, ⟨rfl, rfl, rows_same⟩, ⟨rfl, rfl, rows_same⟩, ⟨rfl, rfl, rows_same⟩, trivial⟩, ⟨rfl, rfl⟩, ⟨rfl, rfl⟩, rfl, ⟨rfl, rfl⟩, ⟨rfl, rfl⟩, rfl, trivial⟩
      · replace h := iteF h g255
        conv => whnf
        refine CutK.norm [1, 4, 5, 6, 7, 8, 45] [64, 256, 384, 448, 1104000, 1104001, 1104002] ?_
        conv => whnf
        cases h
        exact Done.of [] [] rfl rfl ⟨⟨rfl, rfl⟩, ⟨rfl, trivial⟩, rfl, trivial⟩
def laws_FnExactPlusesIn_p7 (k : Nat) (a1 : Rw) (o23 : Rw) (o24 : Rw) (o25 : Rw) (v26 : Bool) (v30 : Bool) : Option Bool :=
  (cond v26 (cond v30 ((laws_eqOrdinal k o25 o23).bind fun y265 => (if y265 = true then (laws_FnExactPlusesIn_p8 k a1 o23 o24 o25 true true) else some false)) ((laws_eqOrdinal k o25 o23).bind fun y262 => (if y262 = true then some false else some false))) (cond v30 ((laws_eqOrdinal k o25 o23).bind fun y259 => (if y259 = true then some false else some false)) ((laws_eqOrdinal k o25 o23).bind fun y256 => (if y256 = true then (laws_FnExactPlusesIn_p8 k a1 o23 o24 o25 false false) else some false))))
set_option maxHeartbeats 4000000 in
set_option maxRecDepth 100000 in
theorem laws_FnExactPlusesIn_p7_ct {k : Nat} {a1 : Rw} {o23 : Rw} {o24 : Rw} {o25 : Rw} {v26 : Bool} {v30 : Bool} {r : Bool} (h : laws_FnExactPlusesIn_p7 k a1 o23 o24 o25 v26 v30 = some r) : X prog 0 (tlF f12 7) (mk 96 [(1, .ptr 64 0), (4, .ptr 256 0), (5, .d (D.bool v30)), (6, .ptr 384 0), (7, .ptr 448 0), (8, .d (D.bool v26))] [(64, .box 57 [.d (D.sl a1)]), (256, .box 26 [.os 1099000 o23.length]), (384, .box 61 [.os 1099001 o24.length]), (448, .box 26 [.os 1099002 o25.length]), (1099000, .arr 98 true o23), (1099001, .arr 150 true o24), (1099002, .arr 98 true o25)]) (finK prog f12 0 (.d (D.bool r)) (⟨[], []⟩)) := by
  rw [laws_FnExactPlusesIn_p7] at h
  cases v26
  · replace h := condF h
    cases v30
    · replace h := condF h
      conv => whnf
      refine Take.all (rfl) ?_
      conv => whnf
      refine Take.all (rfl) ?_
      conv => whnf
      obtain ⟨y256, e257, h⟩ := bind_ex h
      refine CallOk.of (laws_eqOrdinal_ct e257) ?_
      conv => whnf
      refine spl (fun g258 => ?_) (fun g258 => ?_)
      · replace h := iteT h g258
        conv => whnf
        refine splF ?_
        conv => whnf
        refine CutK.norm [1, 4, 5, 6, 7, 8, 40] [64, 256, 384, 448, 1099000, 1099001, 1099002] ?_
        conv => whnf
        exact CutK.piece (laws_FnExactPlusesIn_p8_ct  h) [some 64, some 256, some 384, some 448, some 1099000, some 1099001, some 1099002] [] ⟨⟨rfl, rfl⟩, ⟨rfl, ⟨rfl, rfl, trivial⟩, ⟨rfl, ⟨rfl, rfl⟩, trivial⟩, ⟨rfl, ⟨rfl, rfl⟩, trivial⟩, ⟨rfl, ⟨rfl, rfl⟩, trivial⟩, ⟨rfl, rfl, rows_same⟩, ⟨rfl, rfl, rows_same⟩, ⟨rfl, rfl, rows_same⟩, trivial⟩, ⟨rfl, rfl⟩, ⟨rfl, rfl⟩, rfl, ⟨rfl, rfl⟩, ⟨rfl, rfl⟩, rfl, trivial⟩
      · replace h := iteF h g258
        conv => whnf
        refine CutK.norm [1, 4, 5, 6, 7, 8, 40] [64, 256, 384, 448, 1099000, 1099001, 1099002] ?_
        conv => whnf
        cases h
        exact Done.of [] [] rfl rfl ⟨⟨rfl, rfl⟩, ⟨rfl, trivial⟩, rfl, trivial⟩
    · replace h := condT h
      conv => whnf
      refine Take.all (rfl) ?_
      conv => whnf
      refine Take.all (rfl) ?_
      conv => whnf
      obtain ⟨y259, e260, h⟩ := bind_ex h
      refine CallOk.of (laws_eqOrdinal_ct e260) ?_
      conv => whnf
      refine spl (fun g261 => ?_) (fun g261 => ?_)
      · replace h := iteT h g261
        conv => whnf
        refine splT ?_
        conv => whnf
        refine CutK.norm [1, 4, 5, 6, 7, 8, 40] [64, 256, 384, 448, 1099000, 1099001, 1099002] ?_
        conv => whnf
        cases h
        exact Done.of [] [] rfl rfl ⟨⟨rfl, rfl⟩, ⟨rfl, trivial⟩, rfl, trivial⟩
      · replace h := iteF h g261
        conv => whnf
        refine CutK.norm [1, 4, 5, 6, 7, 8, 40] [64, 256, 384, 448, 1099000, 1099001, 1099002] ?_
        conv => whnf
        cases h
        exact Done.of [] [] rfl rfl ⟨⟨rfl, rfl⟩, ⟨rfl, trivial⟩, rfl, trivial⟩
  · replace h := condT h
    cases v30
    · replace h := condF h
      conv => whnf
      refine Take.all (rfl) ?_
      conv => whnf
      refine Take.all (rfl) ?_
      conv => whnf
      obtain ⟨y262, e263, h⟩ := bind_ex h
      refine CallOk.of (laws_eqOrdinal_ct e263) ?_
      conv => whnf
      refine spl (fun g264 => ?_) (fun g264 => ?_)
      · replace h := iteT h g264
        conv => whnf
        refine splT ?_
        conv => whnf
        refine CutK.norm [1, 4, 5, 6, 7, 8, 40] [64, 256, 384, 448, 1099000, 1099001, 1099002] ?_
        conv => whnf
        cases h
        exact Done.of [] [] rfl rfl ⟨⟨rfl, rfl⟩, ⟨rfl, trivial⟩, rfl, trivial⟩
      · replace h := iteF h g264
        conv => whnf
        refine CutK.norm [1, 4, 5, 6, 7, 8, 40] [64, 256, 384, 448, 1099000, 1099001, 1099002] ?_
        conv => whnf
        cases h
        exact Done.of [] [] rfl rfl ⟨⟨rfl, rfl⟩, ⟨rfl, trivial⟩, rfl, trivial⟩
    · replace h := condT h
      conv => whnf
      refine Take.all (rfl) ?_
      conv => whnf
      refine Take.all (rfl) ?_
      conv => whnf
      obtain ⟨y265, e266, h⟩ := bind_ex h
      refine CallOk.of (laws_eqOrdinal_ct e266) ?_
      conv => whnf
      refine spl (fun g267 => ?_) (fun g267 => ?_)
      · replace h := iteT h g267
        conv => whnf
        refine splF ?_
        conv => whnf
        refine CutK.norm [1, 4, 5, 6, 7, 8, 40] [64, 256, 384, 448, 1099000, 1099001, 1099002] ?_
        conv => whnf
        exact CutK.piece (laws_FnExactPlusesIn_p8_ct  h) [some 64, some 256, some 384, some 448, some 1099000, some 1099001, some 1099002] [] ⟨⟨rfl, rfl⟩, ⟨rfl, ⟨rfl, rfl, trivial⟩, ⟨rfl, ⟨rfl, rfl⟩, trivial⟩, ⟨rfl, ⟨rfl, rfl⟩, trivial⟩, ⟨rfl, ⟨rfl, rfl⟩, trivial⟩, ⟨rfl, rfl, rows_same⟩, ⟨rfl, rfl, rows_same⟩, ⟨rfl, rfl, rows_same⟩, trivial⟩, ⟨rfl, rfl⟩, ⟨rfl, rfl⟩, rfl, ⟨rfl, rfl⟩, ⟨rfl, rfl⟩, rfl, trivial⟩
      · replace h := iteF h g267
        conv => whnf
        refine CutK.norm [1, 4, 5, 6, 7, 8, 40] [64, 256, 384, 448, 1099000, 1099001, 1099002] ?_
        conv => whnf
        cases h
        exact Done.of [] [] rfl rfl ⟨⟨rfl, rfl⟩, ⟨rfl, trivial⟩, rfl, trivial⟩
def laws_FnExactPlusesIn_p6 (k : Nat) (a1 : Rw) (o15 : Rw) (o16 : Rw) (v19 : Bool) : Option Bool :=
  (cond v19 ((impl_PlusesIn k o16).bind fun y271 => (if y271.2 = true then (laws_FnExactPlusesIn_p7 k a1 o15 o16 y271.1 true true) else (laws_FnExactPlusesIn_p7 k a1 o15 o16 y271.1 false true))) ((impl_PlusesIn k o16).bind fun y268 => (if y268.2 = true then (laws_FnExactPlusesIn_p7 k a1 o15 o16 y268.1 true false) else (laws_FnExactPlusesIn_p7 k a1 o15 o16 y268.1 false false))))
set_option maxHeartbeats 4000000 in
set_option maxRecDepth 100000 in
theorem laws_FnExactPlusesIn_p6_ct {k : Nat} {a1 : Rw} {o15 : Rw} {o16 : Rw} {v19 : Bool} {r : Bool} (h : laws_FnExactPlusesIn_p6 k a1 o15 o16 v19 = some r) : X prog 0 (tlF f12 6) (mk 96 [(1, .ptr 64 0), (4, .ptr 256 0), (5, .d (D.bool v19)), (6, .ptr 384 0)] [(64, .box 57 [.d (D.sl a1)]), (256, .box 26 [.os 1094000 o15.length]), (384, .box 61 [.os 1094001 o16.length]), (1094000, .arr 98 true o15), (1094001, .arr 150 true o16)]) (finK prog f12 0 (.d (D.bool r)) (⟨[], []⟩)) := by
  rw [laws_FnExactPlusesIn_p6] at h
  cases v19
  · replace h := condF h
    conv => whnf
    refine Take.all (rfl) ?_
    conv => whnf
    obtain ⟨y268, e269, h⟩ := bind_ex h
    refine CallOk.of (impl_PlusesIn_ct e269) ?_
    conv => whnf
    refine spl (fun g270 => ?_) (fun g270 => ?_)
    · replace h := iteT h g270
      conv => whnf
      exact CutK.piece (laws_FnExactPlusesIn_p7_ct  h) [some 64, some 256, some 384, some 448, some 1094000, some 1094001, some 1856] [] ⟨⟨rfl, rfl⟩, ⟨rfl, ⟨rfl, rfl, trivial⟩, ⟨rfl, ⟨rfl, rfl⟩, trivial⟩, ⟨rfl, ⟨rfl, rfl⟩, trivial⟩, ⟨rfl, ⟨rfl, rfl⟩, trivial⟩, ⟨rfl, rfl, rows_same⟩, ⟨rfl, rfl, rows_same⟩, ⟨rfl, rfl, rows_same⟩, trivial⟩, ⟨rfl, rfl⟩, ⟨rfl, rfl⟩, rfl, ⟨rfl, rfl⟩, ⟨rfl, rfl⟩, rfl, trivial⟩
    · replace h := iteF h g270
      conv => whnf
      exact CutK.piece (laws_FnExactPlusesIn_p7_ct  h) [some 64, some 256, some 384, some 448, some 1094000, some 1094001, some 1856] [] ⟨⟨rfl, rfl⟩, ⟨rfl, ⟨rfl, rfl, trivial⟩, ⟨rfl, ⟨rfl, rfl⟩, trivial⟩, ⟨rfl, ⟨rfl, rfl⟩, trivial⟩, ⟨rfl, ⟨rfl, rfl⟩, trivial⟩, ⟨rfl, rfl, rows_same⟩, ⟨rfl, rfl, rows_same⟩, ⟨rfl, rfl, rows_same⟩, trivial⟩, ⟨rfl, rfl⟩, ⟨rfl, rfl⟩, rfl, ⟨rfl, rfl⟩, ⟨rfl, rfl⟩, rfl, trivial⟩
  · replace h := condT h
    conv => whnf
    refine Take.all (rfl) ?_
    conv => whnf
    obtain ⟨y271, e272, h⟩ := bind_ex h
    refine CallOk.of (impl_PlusesIn_ct e272) ?_
    conv => whnf
    refine spl (fun g273 => ?_) (fun g273 => ?_)
    · replace h := iteT h g273
      conv => whnf
      exact CutK.piece (laws_FnExactPlusesIn_p7_ct  h) [some 64, some 256, some 384, some 448, some 1094000, some 1094001, some 1856] [] ⟨⟨rfl, rfl⟩, ⟨rfl, ⟨rfl, rfl, trivial⟩, ⟨rfl, ⟨rfl, rfl⟩, trivial⟩, ⟨rfl, ⟨rfl, rfl⟩, trivial⟩, ⟨rfl, ⟨rfl, rfl⟩, trivial⟩, ⟨rfl, rfl, rows_same⟩, ⟨rfl, rfl, rows_same⟩, ⟨rfl, rfl, rows_same⟩, trivial⟩, ⟨rfl, rfl⟩, ⟨rfl, rfl⟩, rfl, ⟨rfl, rfl⟩, ⟨rfl, rfl⟩, rfl, trivial⟩
    · replace h := iteF h g273
      conv => whnf
      exact CutK.piece (laws_FnExactPlusesIn_p7_ct  h) [some 64, some 256, some 384, some 448, some 1094000, some 1094001, some 1856] [] ⟨⟨rfl, rfl⟩, ⟨rfl, ⟨rfl, rfl, trivial⟩, ⟨rfl, ⟨rfl, rfl⟩, trivial⟩, ⟨rfl, ⟨rfl, rfl⟩, trivial⟩, ⟨rfl, ⟨rfl, rfl⟩, trivial⟩, ⟨rfl, rfl, rows_same⟩, ⟨rfl, rfl, rows_same⟩, ⟨rfl, rfl, rows_same⟩, trivial⟩, ⟨rfl, rfl⟩, ⟨rfl, rfl⟩, rfl, ⟨rfl, rfl⟩, ⟨rfl, rfl⟩, rfl, trivial⟩
def laws_FnExactPlusesIn_p5 (k : Nat) (a1 : Rw) (o11 : Rw) (v12 : Bool) : Option Bool :=
  (cond v12 ((laws_toWord k a1).bind fun y276 => (laws_FnExactPlusesIn_p6 k a1 o11 y276 true)) ((laws_toWord k a1).bind fun y274 => (laws_FnExactPlusesIn_p6 k a1 o11 y274 false)))
set_option maxHeartbeats 4000000 in
set_option maxRecDepth 100000 in
theorem laws_FnExactPlusesIn_p5_ct {k : Nat} {a1 : Rw} {o11 : Rw} {v12 : Bool} {r : Bool} (h : laws_FnExactPlusesIn_p5 k a1 o11 v12 = some r) : X prog 0 (tlF f12 5) (mk 96 [(1, .ptr 64 0), (4, .ptr 256 0), (5, .d (D.bool v12))] [(64, .box 57 [.d (D.sl a1)]), (256, .box 26 [.os 1089000 o11.length]), (1089000, .arr 98 true o11)]) (finK prog f12 0 (.d (D.bool r)) (⟨[], []⟩)) := by
  rw [laws_FnExactPlusesIn_p5] at h
  cases v12
  · replace h := condF h
    conv => whnf
    obtain ⟨y274, e275, h⟩ := bind_ex h
    refine CallOk.of (laws_toWord_ct e275) ?_
    conv => whnf
    exact CutK.piece (laws_FnExactPlusesIn_p6_ct  h) [some 64, some 256, some 384, some 1089000, some 1664] [] ⟨⟨rfl, rfl⟩, ⟨rfl, ⟨rfl, rfl, trivial⟩, ⟨rfl, ⟨rfl, rfl⟩, trivial⟩, ⟨rfl, ⟨rfl, rfl⟩, trivial⟩, ⟨rfl, rfl, rows_same⟩, ⟨rfl, rfl, rows_same⟩, trivial⟩, ⟨rfl, rfl⟩, ⟨rfl, rfl⟩, rfl, ⟨rfl, rfl⟩, trivial⟩
  · replace h := condT h
    conv => whnf
    obtain ⟨y276, e277, h⟩ := bind_ex h
    refine CallOk.of (laws_toWord_ct e277) ?_
    conv => whnf
    exact CutK.piece (laws_FnExactPlusesIn_p6_ct  h) [some 64, some 256, some 384, some 1089000, some 1664] [] ⟨⟨rfl, rfl⟩, ⟨rfl, ⟨rfl, rfl, trivial⟩, ⟨rfl, ⟨rfl, rfl⟩, trivial⟩, ⟨rfl, ⟨rfl, rfl⟩, trivial⟩, ⟨rfl, rfl, rows_same⟩, ⟨rfl, rfl, rows_same⟩, trivial⟩, ⟨rfl, rfl⟩, ⟨rfl, rfl⟩, rfl, ⟨rfl, rfl⟩, trivial⟩
def laws_FnExactPlusesIn_p3 (k : Nat) (a1 : Rw) (o4 : Int) : Option Bool :=
  (if o4 < (0 : Int) then some true else ((laws_toWord k a1).bind fun y279 => ((spec_PlusesIn k y279).bind fun y281 => (if y281.2 = true then (laws_FnExactPlusesIn_p5 k a1 y281.1 true) else (laws_FnExactPlusesIn_p5 k a1 y281.1 false)))))
set_option maxHeartbeats 4000000 in
set_option maxRecDepth 100000 in
theorem laws_FnExactPlusesIn_p3_ct {k : Nat} {a1 : Rw} {o4 : Int} {r : Bool} (h : laws_FnExactPlusesIn_p3 k a1 o4 = some r) : X prog 0 (tlF f12 3) (mk 96 [(1, .ptr 64 0), (3, .d (D.int .i64 o4))] [(64, .box 57 [.d (D.sl a1)])]) (finK prog f12 0 (.d (D.bool r)) (⟨[], []⟩)) := by
  rw [laws_FnExactPlusesIn_p3] at h
  conv => whnf
  refine splD (fun g278 => ?_) (fun g278 => ?_)
  · replace h := iteP h g278
    conv => whnf
    cases h
    exact Done.of [] [] rfl rfl ⟨⟨rfl, rfl⟩, ⟨rfl, trivial⟩, rfl, trivial⟩
  · replace h := iteN h g278
    conv => whnf
    obtain ⟨y279, e280, h⟩ := bind_ex h
    refine CallOk.of (laws_toWord_ct e280) ?_
    conv => whnf
    refine Take.all (rfl) ?_
    conv => whnf
    obtain ⟨y281, e282, h⟩ := bind_ex h
    refine CallOk.of (spec_PlusesIn_ct e282) ?_
    conv => whnf
    refine spl (fun g283 => ?_) (fun g283 => ?_)
    · replace h := iteT h g283
      conv => whnf
      exact CutK.piece (laws_FnExactPlusesIn_p5_ct  h) [some 64, some 256, some 1408] [] ⟨⟨rfl, rfl⟩, ⟨rfl, ⟨rfl, rfl, trivial⟩, ⟨rfl, ⟨rfl, rfl⟩, trivial⟩, ⟨rfl, rfl, rows_same⟩, trivial⟩, ⟨rfl, rfl⟩, ⟨rfl, rfl⟩, rfl, trivial⟩
    · replace h := iteF h g283
      conv => whnf
      exact CutK.piece (laws_FnExactPlusesIn_p5_ct  h) [some 64, some 256, some 1408] [] ⟨⟨rfl, rfl⟩, ⟨rfl, ⟨rfl, rfl, trivial⟩, ⟨rfl, ⟨rfl, rfl⟩, trivial⟩, ⟨rfl, rfl, rows_same⟩, trivial⟩, ⟨rfl, rfl⟩, ⟨rfl, rfl⟩, rfl, trivial⟩
def laws_FnExactPlusesIn (k : Nat) (a1 : Rw) : Option Bool :=
  ((laws_szWord k a1 1048576).bind fun y284 => (laws_FnExactPlusesIn_p3 k a1 y284))
set_option maxHeartbeats 4000000 in
set_option maxRecDepth 100000 in
theorem laws_FnExactPlusesIn_ct {k : Nat} {a1 : Rw} {r : Bool} (h : laws_FnExactPlusesIn k a1 = some r) : Ct prog 12 [.agg [.d (D.sl a1)]] (⟨[], []⟩) (.d (D.bool r)) (⟨[], []⟩) := by
  rw [laws_FnExactPlusesIn] at h
  refine Ct.of (c := _) mixed func12 ⟨rfl, rfl, rfl⟩ ?_ rfl
  conv => whnf
  obtain ⟨y284, e285, h⟩ := bind_ex h
  refine CallOk.of (laws_szWord_ct e285) ?_
  conv => whnf
  exact CutK.piece (laws_FnExactPlusesIn_p3_ct  h) [some 64] [] ⟨⟨rfl, rfl⟩, ⟨rfl, ⟨rfl, rfl, trivial⟩, trivial⟩, ⟨rfl, rfl⟩, rfl, trivial⟩
end
end Go.Proofs.Try
