/- Printed by program (axgen): pure functions, and that the Go functions compute them. -/
import Derived.Test.YtmhcdljkmngkpaaHYO0
set_option linter.unusedVariables false
set_option linter.unusedSimpArgs false
namespace Go.Proofs.Try
open Go Go.AX
noncomputable section
def laws_FnExactHydraOrdinal_p22 (o164 : Int) (o165 : Int) : Option Bool :=
  (if o165 < (0 : Int) then some false else (if o165 = o164 then some true else some false))
set_option maxHeartbeats 4000000 in
set_option maxRecDepth 100000 in
theorem laws_FnExactHydraOrdinal_p22_ct {o164 : Int} {o165 : Int} {r : Bool} (h : laws_FnExactHydraOrdinal_p22 o164 o165 = some r) : X prog 0 (tlF f3 22) (mk 96 [(10, .d (D.int .i64 o164)), (11, .d (D.int .i64 o165))] []) (finK prog f3 0 (.d (D.bool r)) (⟨[], []⟩)) := by
  rw [laws_FnExactHydraOrdinal_p22] at h
  conv => whnf
  refine splD (fun g168 => ?_) (fun g168 => ?_)
  · replace h := iteP h g168
    conv => whnf
    cases h
    exact Done.of [] [] rfl rfl ⟨⟨rfl, rfl⟩, ⟨rfl, trivial⟩, rfl, trivial⟩
  · replace h := iteN h g168
    conv => whnf
    refine splN (fun g169 => ?_) (fun g169 => ?_)
    · replace h := iteN h g169
      conv => whnf
      cases h
      exact Done.of [] [] rfl rfl ⟨⟨rfl, rfl⟩, ⟨rfl, trivial⟩, rfl, trivial⟩
    · replace h := iteP h g169
      conv => whnf
      cases h
      exact Done.of [] [] rfl rfl ⟨⟨rfl, rfl⟩, ⟨rfl, trivial⟩, rfl, trivial⟩
def laws_FnExactHydraOrdinal_p20 (k : Nat) (o151 : Int) (o152 : Rw) : Option Bool :=
  ((laws_heldOrdinal k o152 1).bind fun y170 => (laws_FnExactHydraOrdinal_p22 o151 y170))
set_option maxHeartbeats 4000000 in
set_option maxRecDepth 100000 in
theorem laws_FnExactHydraOrdinal_p20_ct {k : Nat} {o151 : Int} {o152 : Rw} {r : Bool} (h : laws_FnExactHydraOrdinal_p20 k o151 o152 = some r) : X prog 0 (tlF f3 20) (mk 96 [(7, .ptr 448 0), (10, .d (D.int .i64 o151))] [(448, .box 28 [.os 1164000 o152.length]), (1164000, .arr 96 true o152)]) (finK prog f3 0 (.d (D.bool r)) (⟨[], []⟩)) := by
  rw [laws_FnExactHydraOrdinal_p20] at h
  conv => whnf
  refine Choice.old ?_
  conv => whnf
  refine Pick.no ?_
  conv => whnf
  refine Take.all (rfl) ?_
  conv => whnf
  obtain ⟨y170, e171, h⟩ := bind_ex h
  refine CallOk.of (laws_heldOrdinal_ct e171) ?_
  conv => whnf
  exact CutK.piece (laws_FnExactHydraOrdinal_p22_ct  h) [] [] ⟨⟨rfl, rfl⟩, ⟨rfl, trivial⟩, rfl, rfl, trivial⟩
def laws_FnExactHydraOrdinal_p19 (k : Nat) (o135 : Int) (o136 : Rw) (o137 : Rw) (o138 : Rw) (v139 : Bool) (v147 : Bool) : Option Bool :=
  (cond v139 (cond v147 ((laws_eqOrdinal k o138 o136).bind fun y181 => (if y181 = true then (laws_FnExactHydraOrdinal_p20 k o135 o137) else some false)) ((laws_eqOrdinal k o138 o136).bind fun y178 => (if y178 = true then some false else some false))) (cond v147 ((laws_eqOrdinal k o138 o136).bind fun y175 => (if y175 = true then some false else some false)) ((laws_eqOrdinal k o138 o136).bind fun y172 => (if y172 = true then (laws_FnExactHydraOrdinal_p20 k o135 o137) else some false))))
set_option maxHeartbeats 4000000 in
set_option maxRecDepth 100000 in
theorem laws_FnExactHydraOrdinal_p19_ct {k : Nat} {o135 : Int} {o136 : Rw} {o137 : Rw} {o138 : Rw} {v139 : Bool} {v147 : Bool} {r : Bool} (h : laws_FnExactHydraOrdinal_p19 k o135 o136 o137 o138 v139 v147 = some r) : X prog 0 (tlF f3 19) (mk 96 [(4, .ptr 256 0), (5, .d (D.bool v147)), (7, .ptr 448 0), (10, .d (D.int .i64 o135)), (12, .ptr 768 0), (13, .d (D.bool v139))] [(256, .box 28 [.os 1159000 o136.length]), (448, .box 28 [.os 1159001 o137.length]), (768, .box 28 [.os 1159002 o138.length]), (1159000, .arr 96 true o136), (1159001, .arr 96 true o137), (1159002, .arr 96 true o138)]) (finK prog f3 0 (.d (D.bool r)) (⟨[], []⟩)) := by
  rw [laws_FnExactHydraOrdinal_p19] at h
  cases v139
  · replace h := condF h
    cases v147
    · replace h := condF h
      conv => whnf
      refine Pick.no ?_
      conv => whnf
      refine Take.all (rfl) ?_
      conv => whnf
      refine Take.all (rfl) ?_
      conv => whnf
      obtain ⟨y172, e173, h⟩ := bind_ex h
      refine CallOk.of (laws_eqOrdinal_ct e173) ?_
      conv => whnf
      refine spl (fun g174 => ?_) (fun g174 => ?_)
      · replace h := iteT h g174
        conv => whnf
        refine splF ?_
        conv => whnf
        refine CutK.norm [7, 10, 87] [448, 1159001] ?_
        conv => whnf
        exact CutK.piece (laws_FnExactHydraOrdinal_p20_ct  h) [some 448, some 1159001] [] ⟨⟨rfl, rfl⟩, ⟨rfl, ⟨rfl, ⟨rfl, rfl⟩, trivial⟩, ⟨rfl, rfl, rows_same⟩, trivial⟩, ⟨rfl, rfl⟩, rfl, trivial⟩
      · replace h := iteF h g174
        conv => whnf
        refine CutK.norm [7, 10, 87] [448, 1159001] ?_
        conv => whnf
        cases h
        exact Done.of [] [] rfl rfl ⟨⟨rfl, rfl⟩, ⟨rfl, trivial⟩, rfl, trivial⟩
    · replace h := condT h
      conv => whnf
      refine Pick.no ?_
      conv => whnf
      refine Take.all (rfl) ?_
      conv => whnf
      refine Take.all (rfl) ?_
      conv => whnf
      obtain ⟨y175, e176, h⟩ := bind_ex h
      refine CallOk.of (laws_eqOrdinal_ct e176) ?_
      conv => whnf
      refine spl (fun g177 => ?_) (fun g177 => ?_)
      · replace h := iteT h g177
        conv => whnf
        refine splT ?_
        conv => whnf
        refine CutK.norm [7, 10, 87] [448, 1159001] ?_
        conv => whnf
        cases h
        exact Done.of [] [] rfl rfl ⟨⟨rfl, rfl⟩, ⟨rfl, trivial⟩, rfl, trivial⟩
      · replace h := iteF h g177
        conv => whnf
        refine CutK.norm [7, 10, 87] [448, 1159001] ?_
        conv => whnf
        cases h
        exact Done.of [] [] rfl rfl ⟨⟨rfl, rfl⟩, ⟨rfl, trivial⟩, rfl, trivial⟩
  · replace h := condT h
    cases v147
    · replace h := condF h
      conv => whnf
      refine Pick.no ?_
      conv => whnf
      refine Take.all (rfl) ?_
      conv => whnf
      refine Take.all (rfl) ?_
      conv => whnf
      obtain ⟨y178, e179, h⟩ := bind_ex h
      refine CallOk.of (laws_eqOrdinal_ct e179) ?_
      conv => whnf
      refine spl (fun g180 => ?_) (fun g180 => ?_)
      · replace h := iteT h g180
        conv => whnf
        refine splT ?_
        conv => whnf
        refine CutK.norm [7, 10, 87] [448, 1159001] ?_
        conv => whnf
        cases h
        exact Done.of [] [] rfl rfl ⟨⟨rfl, rfl⟩, ⟨rfl, trivial⟩, rfl, trivial⟩
      · replace h := iteF h g180
        conv => whnf
        refine CutK.norm [7, 10, 87] [448, 1159001] ?_
        conv => whnf
        cases h
        exact Done.of [] [] rfl rfl ⟨⟨rfl, rfl⟩, ⟨rfl, trivial⟩, rfl, trivial⟩
    · replace h := condT h
      conv => whnf
      refine Pick.no ?_
      conv => whnf
      refine Take.all (rfl) ?_
      conv => whnf
      refine Take.all (rfl) ?_
      conv => whnf
      obtain ⟨y181, e182, h⟩ := bind_ex h
      refine CallOk.of (laws_eqOrdinal_ct e182) ?_
      conv => whnf
      refine spl (fun g183 => ?_) (fun g183 => ?_)
      · replace h := iteT h g183
        conv => whnf
        refine splF ?_
        conv => whnf
        refine CutK.norm [7, 10, 87] [448, 1159001] ?_
        conv => whnf
        exact CutK.piece (laws_FnExactHydraOrdinal_p20_ct  h) [some 448, some 1159001] [] ⟨⟨rfl, rfl⟩, ⟨rfl, ⟨rfl, ⟨rfl, rfl⟩, trivial⟩, ⟨rfl, rfl, rows_same⟩, trivial⟩, ⟨rfl, rfl⟩, rfl, trivial⟩
      · replace h := iteF h g183
        conv => whnf
        refine CutK.norm [7, 10, 87] [448, 1159001] ?_
        conv => whnf
        cases h
        exact Done.of [] [] rfl rfl ⟨⟨rfl, rfl⟩, ⟨rfl, trivial⟩, rfl, trivial⟩
def laws_FnExactHydraOrdinal_p16 (k : Nat) (a1 : Rw) (o121 : Int) (o122 : Int) (o123 : Rw) (o124 : Rw) (v127 : Bool) : Option Bool :=
  (cond v127 (if o122 < (0 : Int) then some false else (if o122 = o121 then ((laws_toHydra a1).bind fun y193 => ((impl_HydraOrdinal k y193).bind fun y195 => (if y195.2 = true then (laws_FnExactHydraOrdinal_p19 k o121 o123 o124 y195.1 true true) else (laws_FnExactHydraOrdinal_p19 k o121 o123 o124 y195.1 false true)))) else some false)) (if o122 < (0 : Int) then some false else (if o122 = o121 then ((laws_toHydra a1).bind fun y186 => ((impl_HydraOrdinal k y186).bind fun y188 => (if y188.2 = true then (laws_FnExactHydraOrdinal_p19 k o121 o123 o124 y188.1 true false) else (laws_FnExactHydraOrdinal_p19 k o121 o123 o124 y188.1 false false)))) else some false)))
set_option maxHeartbeats 4000000 in
set_option maxRecDepth 100000 in
theorem laws_FnExactHydraOrdinal_p16_ct {k : Nat} {a1 : Rw} {o121 : Int} {o122 : Int} {o123 : Rw} {o124 : Rw} {v127 : Bool} {r : Bool} (h : laws_FnExactHydraOrdinal_p16 k a1 o121 o122 o123 o124 v127 = some r) : X prog 0 (tlF f3 16) (mk 96 [(1, .ptr 64 0), (4, .ptr 256 0), (5, .d (D.bool v127)), (7, .ptr 448 0), (10, .d (D.int .i64 o121)), (11, .d (D.int .i64 o122))] [(64, .box 24 [.d (D.sl a1)]), (256, .box 28 [.os 1144000 o123.length]), (448, .box 28 [.os 1144001 o124.length]), (1144000, .arr 96 true o123), (1144001, .arr 96 true o124)]) (finK prog f3 0 (.d (D.bool r)) (⟨[], []⟩)) := by
  rw [laws_FnExactHydraOrdinal_p16] at h
  cases v127
  · replace h := condF h
    conv => whnf
    refine splD (fun g184 => ?_) (fun g184 => ?_)
    · replace h := iteP h g184
      conv => whnf
      cases h
      exact Done.of [] [] rfl rfl ⟨⟨rfl, rfl⟩, ⟨rfl, trivial⟩, rfl, trivial⟩
    · replace h := iteN h g184
      conv => whnf
      refine splN (fun g185 => ?_) (fun g185 => ?_)
      · replace h := iteN h g185
        conv => whnf
        cases h
        exact Done.of [] [] rfl rfl ⟨⟨rfl, rfl⟩, ⟨rfl, trivial⟩, rfl, trivial⟩
      · replace h := iteP h g185
        conv => whnf
        refine Pick.no ?_
        conv => whnf
        obtain ⟨y186, e187, h⟩ := bind_ex h
        refine CallOk.of (laws_toHydra_ct e187) ?_
        conv => whnf
        refine Pick.no ?_
        conv => whnf
        refine Take.all (rfl) ?_
        conv => whnf
        obtain ⟨y188, e189, h⟩ := bind_ex h
        refine CallOk.of (impl_HydraOrdinal_ct e189) ?_
        conv => whnf
        refine spl (fun g190 => ?_) (fun g190 => ?_)
        · replace h := iteT h g190
          conv => whnf
          exact CutK.piece (laws_FnExactHydraOrdinal_p19_ct  h) [some 256, some 448, some 768, some 1144000, some 1144001, some 4864] [] ⟨⟨rfl, rfl⟩, ⟨rfl, ⟨rfl, ⟨rfl, rfl⟩, trivial⟩, ⟨rfl, ⟨rfl, rfl⟩, trivial⟩, ⟨rfl, ⟨rfl, rfl⟩, trivial⟩, ⟨rfl, rfl, rows_same⟩, ⟨rfl, rfl, rows_same⟩, ⟨rfl, rfl, rows_same⟩, trivial⟩, ⟨rfl, rfl⟩, rfl, ⟨rfl, rfl⟩, rfl, ⟨rfl, rfl⟩, rfl, trivial⟩
        · replace h := iteF h g190
          conv => whnf
          exact CutK.piece (laws_FnExactHydraOrdinal_p19_ct  h) [some 256, some 448, some 768, some 1144000, some 1144001, some 4864] [] ⟨⟨rfl, rfl⟩, ⟨rfl, ⟨rfl, ⟨rfl, rfl⟩, trivial⟩, ⟨rfl, ⟨rfl, rfl⟩, trivial⟩, ⟨rfl, ⟨rfl, rfl⟩, trivial⟩, ⟨rfl, rfl, rows_same⟩, ⟨rfl, rfl, rows_same⟩, ⟨rfl, rfl, rows_same⟩, trivial⟩, ⟨rfl, rfl⟩, rfl, ⟨rfl, rfl⟩, rfl, ⟨rfl, rfl⟩, rfl, trivial⟩
  · replace h := condT h
    conv => whnf
    refine splD (fun g191 => ?_) (fun g191 => ?_)
    · replace h := iteP h g191
      conv => whnf
      cases h
      exact Done.of [] [] rfl rfl ⟨⟨rfl, rfl⟩, ⟨rfl, trivial⟩, rfl, trivial⟩
    · replace h := iteN h g191
      conv => whnf
      refine splN (fun g192 => ?_) (fun g192 => ?_)
      · replace h := iteN h g192
        conv => whnf
        cases h
        exact Done.of [] [] rfl rfl ⟨⟨rfl, rfl⟩, ⟨rfl, trivial⟩, rfl, trivial⟩
      · replace h := iteP h g192
        conv => whnf
        refine Pick.no ?_
        conv => whnf
        obtain ⟨y193, e194, h⟩ := bind_ex h
        refine CallOk.of (laws_toHydra_ct e194) ?_
        conv => whnf
        refine Pick.no ?_
        conv => whnf
        refine Take.all (rfl) ?_
        conv => whnf
        obtain ⟨y195, e196, h⟩ := bind_ex h
        refine CallOk.of (impl_HydraOrdinal_ct e196) ?_
        conv => whnf
        refine spl (fun g197 => ?_) (fun g197 => ?_)
        · replace h := iteT h g197
          conv => whnf
          exact CutK.piece (laws_FnExactHydraOrdinal_p19_ct  h) [some 256, some 448, some 768, some 1144000, some 1144001, some 4864] [] ⟨⟨rfl, rfl⟩, ⟨rfl, ⟨rfl, ⟨rfl, rfl⟩, trivial⟩, ⟨rfl, ⟨rfl, rfl⟩, trivial⟩, ⟨rfl, ⟨rfl, rfl⟩, trivial⟩, ⟨rfl, rfl, rows_same⟩, ⟨rfl, rfl, rows_same⟩, ⟨rfl, rfl, rows_same⟩, trivial⟩, ⟨rfl, rfl⟩, rfl, ⟨rfl, rfl⟩, rfl, ⟨rfl, rfl⟩, rfl, trivial⟩
        · replace h := iteF h g197
          conv => whnf
          exact CutK.piece (laws_FnExactHydraOrdinal_p19_ct  h) [some 256, some 448, some 768, some 1144000, some 1144001, some 4864] [] ⟨⟨rfl, rfl⟩, ⟨rfl, ⟨rfl, ⟨rfl, rfl⟩, trivial⟩, ⟨rfl, ⟨rfl, rfl⟩, trivial⟩, ⟨rfl, ⟨rfl, rfl⟩, trivial⟩, ⟨rfl, rfl, rows_same⟩, ⟨rfl, rfl, rows_same⟩, ⟨rfl, rfl, rows_same⟩, trivial⟩, ⟨rfl, rfl⟩, rfl, ⟨rfl, rfl⟩, rfl, ⟨rfl, rfl⟩, rfl, trivial⟩
def laws_FnExactHydraOrdinal_p14 (k : Nat) (a1 : Rw) (o112 : Int) (o113 : Rw) (o114 : Rw) (v118 : Bool) : Option Bool :=
  (cond v118 ((laws_heldOrdinal k o114 1).bind fun y200 => (laws_FnExactHydraOrdinal_p16 k a1 o112 y200 o113 o114 true)) ((laws_heldOrdinal k o114 1).bind fun y198 => (laws_FnExactHydraOrdinal_p16 k a1 o112 y198 o113 o114 false)))
set_option maxHeartbeats 4000000 in
set_option maxRecDepth 100000 in
theorem laws_FnExactHydraOrdinal_p14_ct {k : Nat} {a1 : Rw} {o112 : Int} {o113 : Rw} {o114 : Rw} {v118 : Bool} {r : Bool} (h : laws_FnExactHydraOrdinal_p14 k a1 o112 o113 o114 v118 = some r) : X prog 0 (tlF f3 14) (mk 96 [(1, .ptr 64 0), (4, .ptr 256 0), (5, .d (D.bool v118)), (7, .ptr 448 0), (10, .d (D.int .i64 o112))] [(64, .box 24 [.d (D.sl a1)]), (256, .box 28 [.os 1134000 o113.length]), (448, .box 28 [.os 1134001 o114.length]), (1134000, .arr 96 true o113), (1134001, .arr 96 true o114)]) (finK prog f3 0 (.d (D.bool r)) (⟨[], []⟩)) := by
  rw [laws_FnExactHydraOrdinal_p14] at h
  cases v118
  · replace h := condF h
    conv => whnf
    refine Choice.old ?_
    conv => whnf
    refine Pick.no ?_
    conv => whnf
    refine Take.all (rfl) ?_
    conv => whnf
    obtain ⟨y198, e199, h⟩ := bind_ex h
    refine CallOk.of (laws_heldOrdinal_ct e199) ?_
    conv => whnf
    exact CutK.piece (laws_FnExactHydraOrdinal_p16_ct  h) [some 64, some 256, some 448, some 1134000, some 1134001] [] ⟨⟨rfl, rfl⟩, ⟨rfl, ⟨rfl, rfl, trivial⟩, ⟨rfl, ⟨rfl, rfl⟩, trivial⟩, ⟨rfl, ⟨rfl, rfl⟩, trivial⟩, ⟨rfl, rfl, rows_same⟩, ⟨rfl, rfl, rows_same⟩, trivial⟩, ⟨rfl, rfl⟩, ⟨rfl, rfl⟩, rfl, ⟨rfl, rfl⟩, rfl, rfl, trivial⟩
  · replace h := condT h
    conv => whnf
    refine Choice.old ?_
    conv => whnf
    refine Pick.no ?_
    conv => whnf
    refine Take.all (rfl) ?_
    conv => whnf
    obtain ⟨y200, e201, h⟩ := bind_ex h
    refine CallOk.of (laws_heldOrdinal_ct e201) ?_
    conv => whnf
    exact CutK.piece (laws_FnExactHydraOrdinal_p16_ct  h) [some 64, some 256, some 448, some 1134000, some 1134001] [] ⟨⟨rfl, rfl⟩, ⟨rfl, ⟨rfl, rfl, trivial⟩, ⟨rfl, ⟨rfl, rfl⟩, trivial⟩, ⟨rfl, ⟨rfl, rfl⟩, trivial⟩, ⟨rfl, rfl, rows_same⟩, ⟨rfl, rfl, rows_same⟩, trivial⟩, ⟨rfl, rfl⟩, ⟨rfl, rfl⟩, rfl, ⟨rfl, rfl⟩, rfl, rfl, trivial⟩
def laws_FnExactHydraOrdinal_p12 (k : Nat) (a1 : Rw) (o94 : Rw) (o95 : Rw) (v108 : Bool) : Option Bool :=
  (cond v108 ((laws_markOrdinal k o95 1).bind fun y205 => (if y205.2.length = o95.length then (laws_FnExactHydraOrdinal_p14 k a1 y205.1 o94 y205.2 true) else none)) ((laws_markOrdinal k o95 1).bind fun y202 => (if y202.2.length = o95.length then (laws_FnExactHydraOrdinal_p14 k a1 y202.1 o94 y202.2 false) else none)))
set_option maxHeartbeats 4000000 in
set_option maxRecDepth 100000 in
theorem laws_FnExactHydraOrdinal_p12_ct {k : Nat} {a1 : Rw} {o94 : Rw} {o95 : Rw} {v108 : Bool} {r : Bool} (h : laws_FnExactHydraOrdinal_p12 k a1 o94 o95 v108 = some r) : X prog 0 (tlF f3 12) (mk 96 [(1, .ptr 64 0), (4, .ptr 256 0), (5, .d (D.bool v108)), (7, .ptr 448 0)] [(64, .box 24 [.d (D.sl a1)]), (256, .box 28 [.os 1124000 o94.length]), (448, .box 28 [.os 1124001 o95.length]), (1124000, .arr 96 true o94), (1124001, .arr 96 true o95)]) (finK prog f3 0 (.d (D.bool r)) (⟨[], []⟩)) := by
  rw [laws_FnExactHydraOrdinal_p12] at h
  cases v108
  · replace h := condF h
    conv => whnf
    refine Choice.new ?_
    conv => whnf
    refine Req.of (rfl) ?_
    conv => whnf
    obtain ⟨y202, e203, h⟩ := bind_ex h
    refine MarkOk.of (laws_markOrdinal_ct e203) ?_
    conv => whnf
    obtain ⟨g204, h⟩ := req_ex h
    exact CutK.piece (laws_FnExactHydraOrdinal_p14_ct  h) [some 64, some 256, some 448, some 1124000, some 1124001] [] ⟨⟨rfl, rfl⟩, ⟨rfl, ⟨rfl, rfl, trivial⟩, ⟨rfl, ⟨rfl, rfl⟩, trivial⟩, ⟨rfl, ⟨(by first | rfl | exact List.length_append.symm | (simp; done) | omega | (dsimp only; omega)), rfl⟩, trivial⟩, ⟨rfl, rfl, rows_same⟩, ⟨rfl, rfl, rows_same⟩, trivial⟩, ⟨rfl, rfl⟩, ⟨rfl, rfl⟩, rfl, ⟨rfl, rfl⟩, rfl, trivial⟩
  · replace h := condT h
    conv => whnf
    refine Choice.new ?_
    conv => whnf
    refine Req.of (rfl) ?_
    conv => whnf
    obtain ⟨y205, e206, h⟩ := bind_ex h
    refine MarkOk.of (laws_markOrdinal_ct e206) ?_
    conv => whnf
    obtain ⟨g207, h⟩ := req_ex h
    exact CutK.piece (laws_FnExactHydraOrdinal_p14_ct  h) [some 64, some 256, some 448, some 1124000, some 1124001] [] ⟨⟨rfl, rfl⟩, ⟨rfl, ⟨rfl, rfl, trivial⟩, ⟨rfl, ⟨rfl, rfl⟩, trivial⟩, ⟨rfl, ⟨(by first | rfl | exact List.length_append.symm | (simp; done) | omega | (dsimp only; omega)), rfl⟩, trivial⟩, ⟨rfl, rfl, rows_same⟩, ⟨rfl, rfl, rows_same⟩, trivial⟩, ⟨rfl, rfl⟩, ⟨rfl, rfl⟩, rfl, ⟨rfl, rfl⟩, rfl, trivial⟩
def laws_FnExactHydraOrdinal_p11 (k : Nat) (a1 : Rw) (o76 : Int) (o77 : Rw) (o78 : Rw) (v82 : Bool) (v86 : Bool) : Option Bool :=
  (cond v82 (cond v86 (if o76 < (0 : Int) then some false else ((laws_eqOrdinal k o78 o77).bind fun y221 => (if y221 = true then (laws_FnExactHydraOrdinal_p12 k a1 o77 o78 true) else some false))) (if o76 < (0 : Int) then some false else ((laws_eqOrdinal k o78 o77).bind fun y217 => (if y217 = true then some false else some false)))) (cond v86 (if o76 < (0 : Int) then some false else ((laws_eqOrdinal k o78 o77).bind fun y213 => (if y213 = true then some false else some false))) (if o76 < (0 : Int) then some false else ((laws_eqOrdinal k o78 o77).bind fun y209 => (if y209 = true then (laws_FnExactHydraOrdinal_p12 k a1 o77 o78 false) else some false)))))
set_option maxHeartbeats 4000000 in
set_option maxRecDepth 100000 in
theorem laws_FnExactHydraOrdinal_p11_ct {k : Nat} {a1 : Rw} {o76 : Int} {o77 : Rw} {o78 : Rw} {v82 : Bool} {v86 : Bool} {r : Bool} (h : laws_FnExactHydraOrdinal_p11 k a1 o76 o77 o78 v82 v86 = some r) : X prog 0 (tlF f3 11) (mk 96 [(1, .ptr 64 0), (4, .ptr 256 0), (5, .d (D.bool v82)), (7, .ptr 448 0), (8, .d (D.bool v86)), (9, .d (D.int .i64 o76))] [(64, .box 24 [.d (D.sl a1)]), (256, .box 28 [.os 1119000 o77.length]), (448, .box 28 [.os 1119001 o78.length]), (1119000, .arr 96 true o77), (1119001, .arr 96 true o78)]) (finK prog f3 0 (.d (D.bool r)) (⟨[], []⟩)) := by
  rw [laws_FnExactHydraOrdinal_p11] at h
  cases v82
  · replace h := condF h
    cases v86
    · replace h := condF h
      conv => whnf
      refine splD (fun g208 => ?_) (fun g208 => ?_)
      · replace h := iteP h g208
        conv => whnf
        refine CutK.norm [1, 4, 5, 7, 61] [64, 256, 448, 1119000, 1119001] ?_
        conv => whnf
        cases h
        exact Done.of [] [] rfl rfl ⟨⟨rfl, rfl⟩, ⟨rfl, trivial⟩, rfl, trivial⟩
      · replace h := iteN h g208
        conv => whnf
        refine Pick.no ?_
        conv => whnf
        refine Take.all (rfl) ?_
        conv => whnf
        refine Take.all (rfl) ?_
        conv => whnf
        obtain ⟨y209, e210, h⟩ := bind_ex h
        refine CallOk.of (laws_eqOrdinal_ct e210) ?_
        conv => whnf
        refine spl (fun g211 => ?_) (fun g211 => ?_)
        · replace h := iteT h g211
          conv => whnf
          refine splF ?_
          conv => whnf
          refine CutK.norm [1, 4, 5, 7, 61] [64, 256, 448, 1119000, 1119001] ?_
          conv => whnf
          exact CutK.piece (laws_FnExactHydraOrdinal_p12_ct  h) [some 64, some 256, some 448, some 1119000, some 1119001] [] ⟨⟨rfl, rfl⟩, ⟨rfl, ⟨rfl, rfl, trivial⟩, ⟨rfl, ⟨rfl, rfl⟩, trivial⟩, ⟨rfl, ⟨rfl, rfl⟩, trivial⟩, ⟨rfl, rfl, rows_same⟩, ⟨rfl, rfl, rows_same⟩, trivial⟩, ⟨rfl, rfl⟩, ⟨rfl, rfl⟩, rfl, ⟨rfl, rfl⟩, trivial⟩
        · replace h := iteF h g211
          conv => whnf
          refine CutK.norm [1, 4, 5, 7, 61] [64, 256, 448, 1119000, 1119001] ?_
          conv => whnf
          cases h
          exact Done.of [] [] rfl rfl ⟨⟨rfl, rfl⟩, ⟨rfl, trivial⟩, rfl, trivial⟩
    · replace h := condT h
      conv => whnf
      refine splD (fun g212 => ?_) (fun g212 => ?_)
      · replace h := iteP h g212
        conv => whnf
        refine CutK.norm [1, 4, 5, 7, 61] [64, 256, 448, 1119000, 1119001] ?_
        conv => whnf
        cases h
        exact Done.of [] [] rfl rfl ⟨⟨rfl, rfl⟩, ⟨rfl, trivial⟩, rfl, trivial⟩
      · replace h := iteN h g212
        conv => whnf
        refine Pick.no ?_
        conv => whnf
        refine Take.all (rfl) ?_
        conv => whnf
        refine Take.all (rfl) ?_
        conv => whnf
        obtain ⟨y213, e214, h⟩ := bind_ex h
        refine CallOk.of (laws_eqOrdinal_ct e214) ?_
        conv => whnf
        refine spl (fun g215 => ?_) (fun g215 => ?_)
        · replace h := iteT h g215
          conv => whnf
          refine splT ?_
          conv => whnf
          refine CutK.norm [1, 4, 5, 7, 61] [64, 256, 448, 1119000, 1119001] ?_
          conv => whnf
          cases h
          exact Done.of [] [] rfl rfl ⟨⟨rfl, rfl⟩, ⟨rfl, trivial⟩, rfl, trivial⟩
        · replace h := iteF h g215
          conv => whnf
          refine CutK.norm [1, 4, 5, 7, 61] [64, 256, 448, 1119000, 1119001] ?_
          conv => whnf
          cases h
          exact Done.of [] [] rfl rfl ⟨⟨rfl, rfl⟩, ⟨rfl, trivial⟩, rfl, trivial⟩
  · replace h := condT h
    cases v86
    · replace h := condF h
      conv => whnf
      refine splD (fun g216 => ?_) (fun g216 => ?_)
      · replace h := iteP h g216
        conv => whnf
        refine CutK.norm [1, 4, 5, 7, 61] [64, 256, 448, 1119000, 1119001] ?_
        conv => whnf
        cases h
        exact Done.of [] [] rfl rfl ⟨⟨rfl, rfl⟩, ⟨rfl, trivial⟩, rfl, trivial⟩
      · replace h := iteN h g216
        conv => whnf
        refine Pick.no ?_
        conv => whnf
        refine Take.all (rfl) ?_
        conv => whnf
        refine Take.all (rfl) ?_
        conv => whnf
        obtain ⟨y217, e218, h⟩ := bind_ex h
        refine CallOk.of (laws_eqOrdinal_ct e218) ?_
        conv => whnf
        refine spl (fun g219 => ?_) (fun g219 => ?_)
        · replace h := iteT h g219
          conv => whnf
          refine splT ?_
          conv => whnf
          refine CutK.norm [1, 4, 5, 7, 61] [64, 256, 448, 1119000, 1119001] ?_
          conv => whnf
          cases h
          exact Done.of [] [] rfl rfl ⟨⟨rfl, rfl⟩, ⟨rfl, trivial⟩, rfl, trivial⟩
        · replace h := iteF h g219
          conv => whnf
          refine CutK.norm [1, 4, 5, 7, 61] [64, 256, 448, 1119000, 1119001] ?_
          conv => whnf
          cases h
          exact Done.of [] [] rfl rfl ⟨⟨rfl, rfl⟩, ⟨rfl, trivial⟩, rfl, trivial⟩
    · replace h := condT h
      conv => whnf
      refine splD (fun g220 => ?_) (fun g220 => ?_)
      · replace h := iteP h g220
        conv => whnf
        refine CutK.norm [1, 4, 5, 7, 61] [64, 256, 448, 1119000, 1119001] ?_
        conv => whnf
        cases h
        exact Done.of [] [] rfl rfl ⟨⟨rfl, rfl⟩, ⟨rfl, trivial⟩, rfl, trivial⟩
      · replace h := iteN h g220
        conv => whnf
        refine Pick.no ?_
        conv => whnf
        refine Take.all (rfl) ?_
        conv => whnf
        refine Take.all (rfl) ?_
        conv => whnf
        obtain ⟨y221, e222, h⟩ := bind_ex h
        refine CallOk.of (laws_eqOrdinal_ct e222) ?_
        conv => whnf
        refine spl (fun g223 => ?_) (fun g223 => ?_)
        · replace h := iteT h g223
          conv => whnf
          refine splF ?_
          conv => whnf
          refine CutK.norm [1, 4, 5, 7, 61] [64, 256, 448, 1119000, 1119001] ?_
          conv => whnf
          exact CutK.piece (laws_FnExactHydraOrdinal_p12_ct  h) [some 64, some 256, some 448, some 1119000, some 1119001] [] ⟨⟨rfl, rfl⟩, ⟨rfl, ⟨rfl, rfl, trivial⟩, ⟨rfl, ⟨rfl, rfl⟩, trivial⟩, ⟨rfl, ⟨rfl, rfl⟩, trivial⟩, ⟨rfl, rfl, rows_same⟩, ⟨rfl, rfl, rows_same⟩, trivial⟩, ⟨rfl, rfl⟩, ⟨rfl, rfl⟩, rfl, ⟨rfl, rfl⟩, trivial⟩
        · replace h := iteF h g223
          conv => whnf
          refine CutK.norm [1, 4, 5, 7, 61] [64, 256, 448, 1119000, 1119001] ?_
          conv => whnf
          cases h
          exact Done.of [] [] rfl rfl ⟨⟨rfl, rfl⟩, ⟨rfl, trivial⟩, rfl, trivial⟩
def laws_FnExactHydraOrdinal_p9 (k : Nat) (a1 : Rw) (o53 : Rw) (o54 : Rw) (o55 : Rw) (v61 : Bool) (v67 : Bool) : Option Bool :=
  (cond v61 (cond v67 ((laws_markHydra_2 k o54 1).bind fun y233 => (if y233.2.length = o54.length then (laws_FnExactHydraOrdinal_p11 k a1 y233.1 o53 o55 true true) else none)) ((laws_markHydra_2 k o54 1).bind fun y230 => (if y230.2.length = o54.length then (laws_FnExactHydraOrdinal_p11 k a1 y230.1 o53 o55 false true) else none))) (cond v67 ((laws_markHydra_2 k o54 1).bind fun y227 => (if y227.2.length = o54.length then (laws_FnExactHydraOrdinal_p11 k a1 y227.1 o53 o55 true false) else none)) ((laws_markHydra_2 k o54 1).bind fun y224 => (if y224.2.length = o54.length then (laws_FnExactHydraOrdinal_p11 k a1 y224.1 o53 o55 false false) else none))))
set_option maxHeartbeats 4000000 in
set_option maxRecDepth 100000 in
theorem laws_FnExactHydraOrdinal_p9_ct {k : Nat} {a1 : Rw} {o53 : Rw} {o54 : Rw} {o55 : Rw} {v61 : Bool} {v67 : Bool} {r : Bool} (h : laws_FnExactHydraOrdinal_p9 k a1 o53 o54 o55 v61 v67 = some r) : X prog 0 (tlF f3 9) (mk 96 [(1, .ptr 64 0), (4, .ptr 256 0), (5, .d (D.bool v67)), (6, .ptr 384 0), (7, .ptr 448 0), (8, .d (D.bool v61))] [(64, .box 24 [.d (D.sl a1)]), (256, .box 28 [.os 1109000 o53.length]), (384, .box 31 [.os 1109001 o54.length]), (448, .box 28 [.os 1109002 o55.length]), (1109000, .arr 96 true o53), (1109001, .arr 3 true o54), (1109002, .arr 96 true o55)]) (finK prog f3 0 (.d (D.bool r)) (⟨[], []⟩)) := by
  rw [laws_FnExactHydraOrdinal_p9] at h
  cases v61
  · replace h := condF h
    cases v67
    · replace h := condF h
      conv => whnf
      refine Choice.new ?_
      conv => whnf
      refine Req.of (rfl) ?_
      conv => whnf
      obtain ⟨y224, e225, h⟩ := bind_ex h
      refine MarkOk.of (laws_markHydra_2_ct e225) ?_
      conv => whnf
      obtain ⟨g226, h⟩ := req_ex h
      exact CutK.piece (laws_FnExactHydraOrdinal_p11_ct  h) [some 64, some 256, some 448, some 1109000, some 1109002] [] ⟨⟨rfl, rfl⟩, ⟨rfl, ⟨rfl, rfl, trivial⟩, ⟨rfl, ⟨rfl, rfl⟩, trivial⟩, ⟨rfl, ⟨rfl, rfl⟩, trivial⟩, ⟨rfl, rfl, rows_same⟩, ⟨rfl, rfl, rows_same⟩, trivial⟩, ⟨rfl, rfl⟩, ⟨rfl, rfl⟩, rfl, ⟨rfl, rfl⟩, rfl, rfl, trivial⟩
    · replace h := condT h
      conv => whnf
      refine Choice.new ?_
      conv => whnf
      refine Req.of (rfl) ?_
      conv => whnf
      obtain ⟨y227, e228, h⟩ := bind_ex h
      refine MarkOk.of (laws_markHydra_2_ct e228) ?_
      conv => whnf
      obtain ⟨g229, h⟩ := req_ex h
      exact CutK.piece (laws_FnExactHydraOrdinal_p11_ct  h) [some 64, some 256, some 448, some 1109000, some 1109002] [] ⟨⟨rfl, rfl⟩, ⟨rfl, ⟨rfl, rfl, trivial⟩, ⟨rfl, ⟨rfl, rfl⟩, trivial⟩, ⟨rfl, ⟨rfl, rfl⟩, trivial⟩, ⟨rfl, rfl, rows_same⟩, ⟨rfl, rfl, rows_same⟩, trivial⟩, ⟨rfl, rfl⟩, ⟨rfl, rfl⟩, rfl, ⟨rfl, rfl⟩, rfl, rfl, trivial⟩
  · replace h := condT h
    cases v67
    · replace h := condF h
      conv => whnf
      refine Choice.new ?_
      conv => whnf
      refine Req.of (rfl) ?_
      conv => whnf
      obtain ⟨y230, e231, h⟩ := bind_ex h
      refine MarkOk.of (laws_markHydra_2_ct e231) ?_
      conv => whnf
      obtain ⟨g232, h⟩ := req_ex h
      exact CutK.piece (laws_FnExactHydraOrdinal_p11_ct  h) [some 64, some 256, some 448, some 1109000, some 1109002] [] ⟨⟨rfl, rfl⟩, ⟨rfl, ⟨rfl, rfl, trivial⟩, ⟨rfl, ⟨rfl, rfl⟩, trivial⟩, ⟨rfl, ⟨rfl, rfl⟩, trivial⟩, ⟨rfl, rfl, rows_same⟩, ⟨rfl, rfl, rows_same⟩, trivial⟩, ⟨rfl, rfl⟩, ⟨rfl, rfl⟩, rfl, ⟨rfl, rfl⟩, rfl, rfl, trivial⟩
    · replace h := condT h
      conv => whnf
      refine Choice.new ?_
      conv => whnf
      refine Req.of (rfl) ?_
      conv => whnf
      obtain ⟨y233, e234, h⟩ := bind_ex h
      refine MarkOk.of (laws_markHydra_2_ct e234) ?_
      conv => whnf
      obtain ⟨g235, h⟩ := req_ex h
      exact CutK.piece (laws_FnExactHydraOrdinal_p11_ct  h) [some 64, some 256, some 448, some 1109000, some 1109002] [] ⟨⟨rfl, rfl⟩, ⟨rfl, ⟨rfl, rfl, trivial⟩, ⟨rfl, ⟨rfl, rfl⟩, trivial⟩, ⟨rfl, ⟨rfl, rfl⟩, trivial⟩, ⟨rfl, rfl, rows_same⟩, ⟨rfl, rfl, rows_same⟩, trivial⟩, ⟨rfl, rfl⟩, ⟨rfl, rfl⟩, rfl, ⟨rfl, rfl⟩, rfl, rfl, trivial⟩
def laws_FnExactHydraOrdinal_p8 (k : Nat) (a1 : Rw) (o34 : Rw) (o35 : Rw) (o36 : Rw) (v46 : Bool) (v47 : Bool) : Option Bool :=
  (cond v46 (cond v47 ((laws_toHydra a1).bind fun y251 => ((laws_eqHydra o35 y251).bind fun y253 => (if y253 = true then (laws_FnExactHydraOrdinal_p9 k a1 o34 o35 o36 true true) else some false))) ((laws_toHydra a1).bind fun y246 => ((laws_eqHydra o35 y246).bind fun y248 => (if y248 = true then (laws_FnExactHydraOrdinal_p9 k a1 o34 o35 o36 false true) else some false)))) (cond v47 ((laws_toHydra a1).bind fun y241 => ((laws_eqHydra o35 y241).bind fun y243 => (if y243 = true then (laws_FnExactHydraOrdinal_p9 k a1 o34 o35 o36 true false) else some false))) ((laws_toHydra a1).bind fun y236 => ((laws_eqHydra o35 y236).bind fun y238 => (if y238 = true then (laws_FnExactHydraOrdinal_p9 k a1 o34 o35 o36 false false) else some false)))))
set_option maxHeartbeats 4000000 in
set_option maxRecDepth 100000 in
theorem laws_FnExactHydraOrdinal_p8_ct {k : Nat} {a1 : Rw} {o34 : Rw} {o35 : Rw} {o36 : Rw} {v46 : Bool} {v47 : Bool} {r : Bool} (h : laws_FnExactHydraOrdinal_p8 k a1 o34 o35 o36 v46 v47 = some r) : X prog 0 (tlF f3 8) (mk 96 [(1, .ptr 64 0), (4, .ptr 256 0), (5, .d (D.bool v46)), (6, .ptr 384 0), (7, .ptr 448 0), (8, .d (D.bool v47))] [(64, .box 24 [.d (D.sl a1)]), (256, .box 28 [.os 1104000 o34.length]), (384, .box 31 [.os 1104001 o35.length]), (448, .box 28 [.os 1104002 o36.length]), (1104000, .arr 96 true o34), (1104001, .arr 3 true o35), (1104002, .arr 96 true o36)]) (finK prog f3 0 (.d (D.bool r)) (⟨[], []⟩)) := by
  rw [laws_FnExactHydraOrdinal_p8] at h
  cases v46
  · replace h := condF h
    cases v47
    · replace h := condF h
      conv => whnf
      refine Pick.no ?_
      conv => whnf
      obtain ⟨y236, e237, h⟩ := bind_ex h
      refine CallOk.of (laws_toHydra_ct e237) ?_
      conv => whnf
      refine Pick.no ?_
      conv => whnf
      refine Take.all (rfl) ?_
      conv => whnf
      refine Take.all (rfl) ?_
      conv => whnf
      obtain ⟨y238, e239, h⟩ := bind_ex h
      refine CallOk.of (laws_eqHydra_ct e239) ?_
      conv => whnf
      refine spl (fun g240 => ?_) (fun g240 => ?_)
      · replace h := iteT h g240
        conv => whnf
        refine CutK.norm [1, 4, 5, 6, 7, 8, 45] [64, 256, 384, 448, 1104000, 1104001, 1104002] ?_
        conv => whnf
        exact CutK.piece (laws_FnExactHydraOrdinal_p9_ct  h) [some 64, some 256, some 384, some 448, some 1104000, some 1104001, some 1104002] [] ⟨⟨rfl, rfl⟩, ⟨rfl, ⟨rfl, rfl, trivial⟩, ⟨rfl, ⟨rfl, rfl⟩, trivial⟩, ⟨rfl, ⟨rfl, rfl⟩, trivial⟩, ⟨rfl, ⟨rfl, rfl⟩, trivial⟩, ⟨rfl, rfl, rows_same⟩, ⟨rfl, rfl, rows_same⟩, ⟨rfl, rfl, rows_same⟩, trivial⟩, ⟨rfl, rfl⟩, ⟨rfl, rfl⟩, rfl, ⟨rfl, rfl⟩, ⟨rfl, rfl⟩, rfl, trivial⟩
      · replace h := iteF h g240
        conv => whnf
        refine CutK.norm [1, 4, 5, 6, 7, 8, 45] [64, 256, 384, 448, 1104000, 1104001, 1104002] ?_
        conv => whnf
        cases h
        exact Done.of [] [] rfl rfl ⟨⟨rfl, rfl⟩, ⟨rfl, trivial⟩, rfl, trivial⟩
    · replace h := condT h
      conv => whnf
      refine Pick.no ?_
      conv => whnf
      obtain ⟨y241, e242, h⟩ := bind_ex h
      refine CallOk.of (laws_toHydra_ct e242) ?_
      conv => whnf
      refine Pick.no ?_
      conv => whnf
      refine Take.all (rfl) ?_
      conv => whnf
      refine Take.all (rfl) ?_
      conv => whnf
      obtain ⟨y243, e244, h⟩ := bind_ex h
      refine CallOk.of (laws_eqHydra_ct e244) ?_
      conv => whnf
      refine spl (fun g245 => ?_) (fun g245 => ?_)
      · replace h := iteT h g245
        conv => whnf
        refine CutK.norm [1, 4, 5, 6, 7, 8, 45] [64, 256, 384, 448, 1104000, 1104001, 1104002] ?_
        conv => whnf
        exact CutK.piece (laws_FnExactHydraOrdinal_p9_ct  h) [some 64, some 256, some 384, some 448, some 1104000, some 1104001, some 1104002] [] ⟨⟨rfl, rfl⟩, ⟨rfl, ⟨rfl, rfl, trivial⟩, ⟨rfl, ⟨rfl, rfl⟩, trivial⟩, ⟨rfl, ⟨rfl, rfl⟩, trivial⟩, ⟨rfl, ⟨rfl, rfl⟩, trivial⟩, ⟨rfl, rfl, rows_same⟩, ⟨rfl, rfl, rows_same⟩, ⟨rfl, rfl, rows_same⟩, trivial⟩, ⟨rfl, rfl⟩, ⟨rfl, rfl⟩, rfl, ⟨rfl, rfl⟩, ⟨rfl, rfl⟩, rfl, trivial⟩
      · replace h := iteF h g245
        conv => whnf
        refine CutK.norm [1, 4, 5, 6, 7, 8, 45] [64, 256, 384, 448, 1104000, 1104001, 1104002] ?_
        conv => whnf
        cases h
        exact Done.of [] [] rfl rfl ⟨⟨rfl, rfl⟩, ⟨rfl, trivial⟩, rfl, trivial⟩
  · replace h := condT h
    cases v47
    · replace h := condF h
      conv => whnf
      refine Pick.no ?_
      conv => whnf
      obtain ⟨y246, e247, h⟩ := bind_ex h
      refine CallOk.of (laws_toHydra_ct e247) ?_
      conv => whnf
      refine Pick.no ?_
      conv => whnf
      refine Take.all (rfl) ?_
      conv => whnf
      refine Take.all (rfl) ?_
      conv => whnf
      obtain ⟨y248, e249, h⟩ := bind_ex h
      refine CallOk.of (laws_eqHydra_ct e249) ?_
      conv => whnf
      refine spl (fun g250 => ?_) (fun g250 => ?_)
      · replace h := iteT h g250
        conv => whnf
        refine CutK.norm [1, 4, 5, 6, 7, 8, 45] [64, 256, 384, 448, 1104000, 1104001, 1104002] ?_
        conv => whnf
        exact CutK.piece (laws_FnExactHydraOrdinal_p9_ct  h) [some 64, some 256, some 384, some 448, some 1104000, some 1104001, some 1104002] [] ⟨⟨rfl, rfl⟩, ⟨rfl, ⟨rfl, rfl, trivial⟩, ⟨rfl, ⟨rfl, rfl⟩, trivial⟩, ⟨rfl, ⟨rfl, rfl⟩, trivial⟩, ⟨rfl, ⟨rfl, rfl⟩, trivial⟩, ⟨rfl, rfl, rows_same⟩, ⟨rfl, rfl, rows_same⟩, ⟨rfl, rfl, rows_same⟩, trivial⟩, ⟨rfl, rfl⟩, ⟨rfl, rfl⟩, rfl, ⟨rfl, rfl⟩, ⟨rfl, rfl⟩, rfl, trivial⟩
      · replace h := iteF h g250
        conv => whnf
        refine CutK.norm [1, 4, 5, 6, 7, 8, 45] [64, 256, 384, 448, 1104000, 1104001, 1104002] ?_
        conv => whnf
        cases h
        exact Done.of [] [] rfl rfl ⟨⟨rfl, rfl⟩, ⟨rfl, trivial⟩, rfl, trivial⟩
    · replace h := condT h
      conv => whnf
      refine Pick.no ?_
      conv => whnf
      obtain ⟨y251, e252, h⟩ := bind_ex h
      refine CallOk.of (laws_toHydra_ct e252) ?_
      conv => whnf
      refine Pick.no ?_
      conv => whnf
      refine Take.all (rfl) ?_
      conv => whnf
      refine Take.all (rfl) ?_
      conv => whnf
      obtain ⟨y253, e254, h⟩ := bind_ex h
      refine CallOk.of (laws_eqHydra_ct e254) ?_
      conv => whnf
      refine spl (fun g255 => ?_) (fun g255 => ?_)
      · replace h := iteT h g255
        conv => whnf
        refine CutK.norm [1, 4, 5, 6, 7, 8, 45] [64, 256, 384, 448, 1104000, 1104001, 1104002] ?_
        conv => whnf
        exact CutK.piece (laws_FnExactHydraOrdinal_p9_ct  h) [some 64, some 256, some 384, some 448, some 1104000, some 1104001, some 1104002] [] ⟨⟨rfl, rfl⟩, ⟨rfl, ⟨rfl, rfl, trivial⟩, ⟨rfl, ⟨rfl, rfl⟩, trivial⟩, ⟨rfl, ⟨rfl, rfl⟩, trivial⟩, ⟨rfl, ⟨rfl, rfl⟩, trivial⟩, ⟨rfl, rfl, rows_same⟩, ⟨rfl, rfl, rows_same⟩, ⟨rfl, rfl, rows_same⟩, trivial⟩, ⟨rfl, rfl⟩, ⟨rfl, rfl⟩, rfl, ⟨rfl, rfl⟩, ⟨rfl, rfl⟩, rfl, trivial⟩
      · replace h := iteF h g255
        conv => whnf
        refine CutK.norm [1, 4, 5, 6, 7, 8, 45] [64, 256, 384, 448, 1104000, 1104001, 1104002] ?_
        conv => whnf
        cases h
        exact Done.of [] [] rfl rfl ⟨⟨rfl, rfl⟩, ⟨rfl, trivial⟩, rfl, trivial⟩
def laws_FnExactHydraOrdinal_p7 (k : Nat) (a1 : Rw) (o23 : Rw) (o24 : Rw) (o25 : Rw) (v26 : Bool) (v30 : Bool) : Option Bool :=
  (cond v26 (cond v30 ((laws_eqOrdinal k o25 o23).bind fun y265 => (if y265 = true then (laws_FnExactHydraOrdinal_p8 k a1 o23 o24 o25 true true) else some false)) ((laws_eqOrdinal k o25 o23).bind fun y262 => (if y262 = true then some false else some false))) (cond v30 ((laws_eqOrdinal k o25 o23).bind fun y259 => (if y259 = true then some false else some false)) ((laws_eqOrdinal k o25 o23).bind fun y256 => (if y256 = true then (laws_FnExactHydraOrdinal_p8 k a1 o23 o24 o25 false false) else some false))))
set_option maxHeartbeats 4000000 in
set_option maxRecDepth 100000 in
theorem laws_FnExactHydraOrdinal_p7_ct {k : Nat} {a1 : Rw} {o23 : Rw} {o24 : Rw} {o25 : Rw} {v26 : Bool} {v30 : Bool} {r : Bool} (h : laws_FnExactHydraOrdinal_p7 k a1 o23 o24 o25 v26 v30 = some r) : X prog 0 (tlF f3 7) (mk 96 [(1, .ptr 64 0), (4, .ptr 256 0), (5, .d (D.bool v30)), (6, .ptr 384 0), (7, .ptr 448 0), (8, .d (D.bool v26))] [(64, .box 24 [.d (D.sl a1)]), (256, .box 28 [.os 1099000 o23.length]), (384, .box 31 [.os 1099001 o24.length]), (448, .box 28 [.os 1099002 o25.length]), (1099000, .arr 96 true o23), (1099001, .arr 3 true o24), (1099002, .arr 96 true o25)]) (finK prog f3 0 (.d (D.bool r)) (⟨[], []⟩)) := by
  rw [laws_FnExactHydraOrdinal_p7] at h
  cases v26
  · replace h := condF h
    cases v30
    · replace h := condF h
      conv => whnf
      refine Pick.no ?_
      conv => whnf
      refine Take.all (rfl) ?_
      conv => whnf
      refine Take.all (rfl) ?_
      conv => whnf
      obtain ⟨y256, e257, h⟩ := bind_ex h
      refine CallOk.of (laws_eqOrdinal_ct e257) ?_
      conv => whnf
      refine spl (fun g258 => ?_) (fun g258 => ?_)
      · replace h := iteT h g258
        conv => whnf
        refine splF ?_
        conv => whnf
        refine CutK.norm [1, 4, 5, 6, 7, 8, 40] [64, 256, 384, 448, 1099000, 1099001, 1099002] ?_
        conv => whnf
        exact CutK.piece (laws_FnExactHydraOrdinal_p8_ct  h) [some 64, some 256, some 384, some 448, some 1099000, some 1099001, some 1099002] [] ⟨⟨rfl, rfl⟩, ⟨rfl, ⟨rfl, rfl, trivial⟩, ⟨rfl, ⟨rfl, rfl⟩, trivial⟩, ⟨rfl, ⟨rfl, rfl⟩, trivial⟩, ⟨rfl, ⟨rfl, rfl⟩, trivial⟩, ⟨rfl, rfl, rows_same⟩, ⟨rfl, rfl, rows_same⟩, ⟨rfl, rfl, rows_same⟩, trivial⟩, ⟨rfl, rfl⟩, ⟨rfl, rfl⟩, rfl, ⟨rfl, rfl⟩, ⟨rfl, rfl⟩, rfl, trivial⟩
      · replace h := iteF h g258
        conv => whnf
        refine CutK.norm [1, 4, 5, 6, 7, 8, 40] [64, 256, 384, 448, 1099000, 1099001, 1099002] ?_
        conv => whnf
        cases h
        exact Done.of [] [] rfl rfl ⟨⟨rfl, rfl⟩, ⟨rfl, trivial⟩, rfl, trivial⟩
    · replace h := condT h
      conv => whnf
      refine Pick.no ?_
      conv => whnf
      refine Take.all (rfl) ?_
      conv => whnf
      refine Take.all (rfl) ?_
      conv => whnf
      obtain ⟨y259, e260, h⟩ := bind_ex h
      refine CallOk.of (laws_eqOrdinal_ct e260) ?_
      conv => whnf
      refine spl (fun g261 => ?_) (fun g261 => ?_)
      · replace h := iteT h g261
        conv => whnf
        refine splT ?_
        conv => whnf
        refine CutK.norm [1, 4, 5, 6, 7, 8, 40] [64, 256, 384, 448, 1099000, 1099001, 1099002] ?_
        conv => whnf
        cases h
        exact Done.of [] [] rfl rfl ⟨⟨rfl, rfl⟩, ⟨rfl, trivial⟩, rfl, trivial⟩
      · replace h := iteF h g261
        conv => whnf
        refine CutK.norm [1, 4, 5, 6, 7, 8, 40] [64, 256, 384, 448, 1099000, 1099001, 1099002] ?_
        conv => whnf
        cases h
        exact Done.of [] [] rfl rfl ⟨⟨rfl, rfl⟩, ⟨rfl, trivial⟩, rfl, trivial⟩
  · replace h := condT h
    cases v30
    · replace h := condF h
      conv => whnf
      refine Pick.no ?_
      conv => whnf
      refine Take.all (rfl) ?_
      conv => whnf
      refine Take.all (rfl) ?_
      conv => whnf
      obtain ⟨y262, e263, h⟩ := bind_ex h
      refine CallOk.of (laws_eqOrdinal_ct e263) ?_
      conv => whnf
      refine spl (fun g264 => ?_) (fun g264 => ?_)
      · replace h := iteT h g264
        conv => whnf
        refine splT ?_
        conv => whnf
        refine CutK.norm [1, 4, 5, 6, 7, 8, 40] [64, 256, 384, 448, 1099000, 1099001, 1099002] ?_
        conv => whnf
        cases h
        exact Done.of [] [] rfl rfl ⟨⟨rfl, rfl⟩, ⟨rfl, trivial⟩, rfl, trivial⟩
      · replace h := iteF h g264
        conv => whnf
        refine CutK.norm [1, 4, 5, 6, 7, 8, 40] [64, 256, 384, 448, 1099000, 1099001, 1099002] ?_
        conv => whnf
        cases h
        exact Done.of [] [] rfl rfl ⟨⟨rfl, rfl⟩, ⟨rfl, trivial⟩, rfl, trivial⟩
    · replace h := condT h
      conv => whnf
      refine Pick.no ?_
      conv => whnf
      refine Take.all (rfl) ?_
      conv => whnf
      refine Take.all (rfl) ?_
      conv => whnf
      obtain ⟨y265, e266, h⟩ := bind_ex h
      refine CallOk.of (laws_eqOrdinal_ct e266) ?_
      conv => whnf
      refine spl (fun g267 => ?_) (fun g267 => ?_)
      · replace h := iteT h g267
        conv => whnf
        refine splF ?_
        conv => whnf
        refine CutK.norm [1, 4, 5, 6, 7, 8, 40] [64, 256, 384, 448, 1099000, 1099001, 1099002] ?_
        conv => whnf
        exact CutK.piece (laws_FnExactHydraOrdinal_p8_ct  h) [some 64, some 256, some 384, some 448, some 1099000, some 1099001, some 1099002] [] ⟨⟨rfl, rfl⟩, ⟨rfl, ⟨rfl, rfl, trivial⟩, ⟨rfl, ⟨rfl, rfl⟩, trivial⟩, ⟨rfl, ⟨rfl, rfl⟩, trivial⟩, ⟨rfl, ⟨rfl, rfl⟩, trivial⟩, ⟨rfl, rfl, rows_same⟩, ⟨rfl, rfl, rows_same⟩, ⟨rfl, rfl, rows_same⟩, trivial⟩, ⟨rfl, rfl⟩, ⟨rfl, rfl⟩, rfl, ⟨rfl, rfl⟩, ⟨rfl, rfl⟩, rfl, trivial⟩
      · replace h := iteF h g267
        conv => whnf
        refine CutK.norm [1, 4, 5, 6, 7, 8, 40] [64, 256, 384, 448, 1099000, 1099001, 1099002] ?_
        conv => whnf
        cases h
        exact Done.of [] [] rfl rfl ⟨⟨rfl, rfl⟩, ⟨rfl, trivial⟩, rfl, trivial⟩
def laws_FnExactHydraOrdinal_p6 (k : Nat) (a1 : Rw) (o15 : Rw) (o16 : Rw) (v19 : Bool) : Option Bool :=
  (cond v19 ((impl_HydraOrdinal k o16).bind fun y271 => (if y271.2 = true then (laws_FnExactHydraOrdinal_p7 k a1 o15 o16 y271.1 true true) else (laws_FnExactHydraOrdinal_p7 k a1 o15 o16 y271.1 false true))) ((impl_HydraOrdinal k o16).bind fun y268 => (if y268.2 = true then (laws_FnExactHydraOrdinal_p7 k a1 o15 o16 y268.1 true false) else (laws_FnExactHydraOrdinal_p7 k a1 o15 o16 y268.1 false false))))
set_option maxHeartbeats 4000000 in
set_option maxRecDepth 100000 in
theorem laws_FnExactHydraOrdinal_p6_ct {k : Nat} {a1 : Rw} {o15 : Rw} {o16 : Rw} {v19 : Bool} {r : Bool} (h : laws_FnExactHydraOrdinal_p6 k a1 o15 o16 v19 = some r) : X prog 0 (tlF f3 6) (mk 96 [(1, .ptr 64 0), (4, .ptr 256 0), (5, .d (D.bool v19)), (6, .ptr 384 0)] [(64, .box 24 [.d (D.sl a1)]), (256, .box 28 [.os 1094000 o15.length]), (384, .box 31 [.os 1094001 o16.length]), (1094000, .arr 96 true o15), (1094001, .arr 3 true o16)]) (finK prog f3 0 (.d (D.bool r)) (⟨[], []⟩)) := by
  rw [laws_FnExactHydraOrdinal_p6] at h
  cases v19
  · replace h := condF h
    conv => whnf
    refine Pick.no ?_
    conv => whnf
    refine Take.all (rfl) ?_
    conv => whnf
    obtain ⟨y268, e269, h⟩ := bind_ex h
    refine CallOk.of (impl_HydraOrdinal_ct e269) ?_
    conv => whnf
    refine spl (fun g270 => ?_) (fun g270 => ?_)
    · replace h := iteT h g270
      conv => whnf
      exact CutK.piece (laws_FnExactHydraOrdinal_p7_ct  h) [some 64, some 256, some 384, some 448, some 1094000, some 1094001, some 1856] [] ⟨⟨rfl, rfl⟩, ⟨rfl, ⟨rfl, rfl, trivial⟩, ⟨rfl, ⟨rfl, rfl⟩, trivial⟩, ⟨rfl, ⟨rfl, rfl⟩, trivial⟩, ⟨rfl, ⟨rfl, rfl⟩, trivial⟩, ⟨rfl, rfl, rows_same⟩, ⟨rfl, rfl, rows_same⟩, ⟨rfl, rfl, rows_same⟩, trivial⟩, ⟨rfl, rfl⟩, ⟨rfl, rfl⟩, rfl, ⟨rfl, rfl⟩, ⟨rfl, rfl⟩, rfl, trivial⟩
    · replace h := iteF h g270
      conv => whnf
      exact CutK.piece (laws_FnExactHydraOrdinal_p7_ct  h) [some 64, some 256, some 384, some 448, some 1094000, some 1094001, some 1856] [] ⟨⟨rfl, rfl⟩, ⟨rfl, ⟨rfl, rfl, trivial⟩, ⟨rfl, ⟨rfl, rfl⟩, trivial⟩, ⟨rfl, ⟨rfl, rfl⟩, trivial⟩, ⟨rfl, ⟨rfl, rfl⟩, trivial⟩, ⟨rfl, rfl, rows_same⟩, ⟨rfl, rfl, rows_same⟩, ⟨rfl, rfl, rows_same⟩, trivial⟩, ⟨rfl, rfl⟩, ⟨rfl, rfl⟩, rfl, ⟨rfl, rfl⟩, ⟨rfl, rfl⟩, rfl, trivial⟩
  · replace h := condT h
    conv => whnf
    refine Pick.no ?_
    conv => whnf
    refine Take.all (rfl) ?_
    conv => whnf
    obtain ⟨y271, e272, h⟩ := bind_ex h
    refine CallOk.of (impl_HydraOrdinal_ct e272) ?_
    conv => whnf
    refine spl (fun g273 => ?_) (fun g273 => ?_)
    · replace h := iteT h g273
      conv => whnf
      exact CutK.piece (laws_FnExactHydraOrdinal_p7_ct  h) [some 64, some 256, some 384, some 448, some 1094000, some 1094001, some 1856] [] ⟨⟨rfl, rfl⟩, ⟨rfl, ⟨rfl, rfl, trivial⟩, ⟨rfl, ⟨rfl, rfl⟩, trivial⟩, ⟨rfl, ⟨rfl, rfl⟩, trivial⟩, ⟨rfl, ⟨rfl, rfl⟩, trivial⟩, ⟨rfl, rfl, rows_same⟩, ⟨rfl, rfl, rows_same⟩, ⟨rfl, rfl, rows_same⟩, trivial⟩, ⟨rfl, rfl⟩, ⟨rfl, rfl⟩, rfl, ⟨rfl, rfl⟩, ⟨rfl, rfl⟩, rfl, trivial⟩
    · replace h := iteF h g273
      conv => whnf
      exact CutK.piece (laws_FnExactHydraOrdinal_p7_ct  h) [some 64, some 256, some 384, some 448, some 1094000, some 1094001, some 1856] [] ⟨⟨rfl, rfl⟩, ⟨rfl, ⟨rfl, rfl, trivial⟩, ⟨rfl, ⟨rfl, rfl⟩, trivial⟩, ⟨rfl, ⟨rfl, rfl⟩, trivial⟩, ⟨rfl, ⟨rfl, rfl⟩, trivial⟩, ⟨rfl, rfl, rows_same⟩, ⟨rfl, rfl, rows_same⟩, ⟨rfl, rfl, rows_same⟩, trivial⟩, ⟨rfl, rfl⟩, ⟨rfl, rfl⟩, rfl, ⟨rfl, rfl⟩, ⟨rfl, rfl⟩, rfl, trivial⟩
def laws_FnExactHydraOrdinal_p5 (k : Nat) (a1 : Rw) (o11 : Rw) (v12 : Bool) : Option Bool :=
  (cond v12 ((laws_toHydra a1).bind fun y276 => (laws_FnExactHydraOrdinal_p6 k a1 o11 y276 true)) ((laws_toHydra a1).bind fun y274 => (laws_FnExactHydraOrdinal_p6 k a1 o11 y274 false)))
set_option maxHeartbeats 4000000 in
set_option maxRecDepth 100000 in
theorem laws_FnExactHydraOrdinal_p5_ct {k : Nat} {a1 : Rw} {o11 : Rw} {v12 : Bool} {r : Bool} (h : laws_FnExactHydraOrdinal_p5 k a1 o11 v12 = some r) : X prog 0 (tlF f3 5) (mk 96 [(1, .ptr 64 0), (4, .ptr 256 0), (5, .d (D.bool v12))] [(64, .box 24 [.d (D.sl a1)]), (256, .box 28 [.os 1089000 o11.length]), (1089000, .arr 96 true o11)]) (finK prog f3 0 (.d (D.bool r)) (⟨[], []⟩)) := by
  rw [laws_FnExactHydraOrdinal_p5] at h
  cases v12
  · replace h := condF h
    conv => whnf
    refine Pick.no ?_
    conv => whnf
    obtain ⟨y274, e275, h⟩ := bind_ex h
    refine CallOk.of (laws_toHydra_ct e275) ?_
    conv => whnf
    exact CutK.piece (laws_FnExactHydraOrdinal_p6_ct  h) [some 64, some 256, some 384, some 1089000, some 1664] [] ⟨⟨rfl, rfl⟩, ⟨rfl, ⟨rfl, rfl, trivial⟩, ⟨rfl, ⟨rfl, rfl⟩, trivial⟩, ⟨rfl, ⟨rfl, rfl⟩, trivial⟩, ⟨rfl, rfl, rows_same⟩, ⟨rfl, rfl, rows_same⟩, trivial⟩, ⟨rfl, rfl⟩, ⟨rfl, rfl⟩, rfl, ⟨rfl, rfl⟩, trivial⟩
  · replace h := condT h
    conv => whnf
    refine Pick.no ?_
    conv => whnf
    obtain ⟨y276, e277, h⟩ := bind_ex h
    refine CallOk.of (laws_toHydra_ct e277) ?_
    conv => whnf
    exact CutK.piece (laws_FnExactHydraOrdinal_p6_ct  h) [some 64, some 256, some 384, some 1089000, some 1664] [] ⟨⟨rfl, rfl⟩, ⟨rfl, ⟨rfl, rfl, trivial⟩, ⟨rfl, ⟨rfl, rfl⟩, trivial⟩, ⟨rfl, ⟨rfl, rfl⟩, trivial⟩, ⟨rfl, rfl, rows_same⟩, ⟨rfl, rfl, rows_same⟩, trivial⟩, ⟨rfl, rfl⟩, ⟨rfl, rfl⟩, rfl, ⟨rfl, rfl⟩, trivial⟩
def laws_FnExactHydraOrdinal_p3 (k : Nat) (a1 : Rw) (o4 : Int) : Option Bool :=
  (if o4 < (0 : Int) then some true else ((laws_toHydra a1).bind fun y279 => ((spec_HydraOrdinal k y279).bind fun y281 => (if y281.2 = true then (laws_FnExactHydraOrdinal_p5 k a1 y281.1 true) else (laws_FnExactHydraOrdinal_p5 k a1 y281.1 false)))))
set_option maxHeartbeats 4000000 in
set_option maxRecDepth 100000 in
theorem laws_FnExactHydraOrdinal_p3_ct {k : Nat} {a1 : Rw} {o4 : Int} {r : Bool} (h : laws_FnExactHydraOrdinal_p3 k a1 o4 = some r) : X prog 0 (tlF f3 3) (mk 96 [(1, .ptr 64 0), (3, .d (D.int .i64 o4))] [(64, .box 24 [.d (D.sl a1)])]) (finK prog f3 0 (.d (D.bool r)) (⟨[], []⟩)) := by
  rw [laws_FnExactHydraOrdinal_p3] at h
  conv => whnf
  refine splD (fun g278 => ?_) (fun g278 => ?_)
  · replace h := iteP h g278
    conv => whnf
    cases h
    exact Done.of [] [] rfl rfl ⟨⟨rfl, rfl⟩, ⟨rfl, trivial⟩, rfl, trivial⟩
  · replace h := iteN h g278
    conv => whnf
    refine Pick.no ?_
    conv => whnf
    obtain ⟨y279, e280, h⟩ := bind_ex h
    refine CallOk.of (laws_toHydra_ct e280) ?_
    conv => whnf
    refine Pick.no ?_
    conv => whnf
    refine Take.all (rfl) ?_
    conv => whnf
    obtain ⟨y281, e282, h⟩ := bind_ex h
    refine CallOk.of (spec_HydraOrdinal_ct e282) ?_
    conv => whnf
    refine spl (fun g283 => ?_) (fun g283 => ?_)
    · replace h := iteT h g283
      conv => whnf
      exact CutK.piece (laws_FnExactHydraOrdinal_p5_ct  h) [some 64, some 256, some 1408] [] ⟨⟨rfl, rfl⟩, ⟨rfl, ⟨rfl, rfl, trivial⟩, ⟨rfl, ⟨rfl, rfl⟩, trivial⟩, ⟨rfl, rfl, rows_same⟩, trivial⟩, ⟨rfl, rfl⟩, ⟨rfl, rfl⟩, rfl, trivial⟩
    · replace h := iteF h g283
      conv => whnf
      exact CutK.piece (laws_FnExactHydraOrdinal_p5_ct  h) [some 64, some 256, some 1408] [] ⟨⟨rfl, rfl⟩, ⟨rfl, ⟨rfl, rfl, trivial⟩, ⟨rfl, ⟨rfl, rfl⟩, trivial⟩, ⟨rfl, rfl, rows_same⟩, trivial⟩, ⟨rfl, rfl⟩, ⟨rfl, rfl⟩, rfl, trivial⟩
def laws_FnExactHydraOrdinal (k : Nat) (a1 : Rw) : Option Bool :=
  ((laws_szHydra a1 1048576).bind fun y284 => (laws_FnExactHydraOrdinal_p3 k a1 y284))
set_option maxHeartbeats 4000000 in
set_option maxRecDepth 100000 in
theorem laws_FnExactHydraOrdinal_ct {k : Nat} {a1 : Rw} {r : Bool} (h : laws_FnExactHydraOrdinal k a1 = some r) : Ct prog 3 [.agg [.d (D.sl a1)]] (⟨[], []⟩) (.d (D.bool r)) (⟨[], []⟩) := by
  rw [laws_FnExactHydraOrdinal] at h
  refine Ct.of (c := _) mixed func3 ⟨rfl, rfl, rfl⟩ ?_ rfl
  conv => whnf
  refine Pick.no ?_
  conv => whnf
  obtain ⟨y284, e285, h⟩ := bind_ex h
  refine CallOk.of (laws_szHydra_ct e285) ?_
  conv => whnf
  exact CutK.piece (laws_FnExactHydraOrdinal_p3_ct  h) [some 64] [] ⟨⟨rfl, rfl⟩, ⟨rfl, ⟨rfl, rfl, trivial⟩, trivial⟩, ⟨rfl, rfl⟩, rfl, trivial⟩
end
end Go.Proofs.Try
