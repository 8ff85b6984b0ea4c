/- Printed by program (axgen): pure functions, and that the Go functions compute them. -/
import Derived.Test.YtmhcdljkmngkpaaHYQ0
set_option linter.unusedVariables false
set_option linter.unusedSimpArgs false
namespace Go.Proofs.Try
open Go Go.AX
noncomputable section
def laws_FnHydrasOfOrdinals_p13 (v264 : Bool) : Option Bool :=
  (cond v264 (some true) (some false))
set_option maxHeartbeats 4000000 in
set_option maxRecDepth 100000 in
theorem laws_FnHydrasOfOrdinals_p13_ct {v264 : Bool} {r : Bool} (h : laws_FnHydrasOfOrdinals_p13 v264 = some r) : X prog 0 (tlF f7 13) (mk 118 [(4, .d (D.bool v264))] []) (finK prog f7 0 (.d (D.bool r)) (⟨[], []⟩)) := by
  rw [laws_FnHydrasOfOrdinals_p13] at h
  cases v264
  · replace h := condF h
    conv => whnf
    cases h
    exact Done.of [] [] rfl rfl ⟨⟨rfl, rfl⟩, ⟨rfl, trivial⟩, rfl, trivial⟩
  · replace h := condT h
    conv => whnf
    cases h
    exact Done.of [] [] rfl rfl ⟨⟨rfl, rfl⟩, ⟨rfl, trivial⟩, rfl, trivial⟩
def laws_FnHydrasOfOrdinals_p12 (k : Nat) (o151 : ByteArray) (o152 : Rw) (o153 : Rw) (o154 : Rw) (o155 : Rw) (o156 : Rw) (v157 : Bool) (v161 : Bool) (v165 : Bool) (v172 : Bool) (v185 : Bool) (v210 : Bool) : Option Bool :=
  (cond v157 (cond v161 (cond v165 (cond v172 (cond v185 (cond v210 ((laws_qSame o155 o152).bind fun y265 => (if y265 = true then (if (o154.length : Int) = (o152.length : Int) then ((laws_qSameOrdinal k o156 o153).bind fun y269 => (if y269 = true then (if (o151.size : Int) = (IntKind.i64.wrap (2 * (o152.length : Int))) then (laws_FnHydrasOfOrdinals_p13 true) else (laws_FnHydrasOfOrdinals_p13 false)) else (laws_FnHydrasOfOrdinals_p13 false))) else (laws_FnHydrasOfOrdinals_p13 false)) else (laws_FnHydrasOfOrdinals_p13 false))) (laws_FnHydrasOfOrdinals_p13 false)) (cond v210 (laws_FnHydrasOfOrdinals_p13 false) (laws_FnHydrasOfOrdinals_p13 false))) (cond v185 (cond v210 (laws_FnHydrasOfOrdinals_p13 false) (laws_FnHydrasOfOrdinals_p13 false)) (cond v210 (laws_FnHydrasOfOrdinals_p13 false) (laws_FnHydrasOfOrdinals_p13 false)))) (cond v172 (cond v185 (cond v210 (laws_FnHydrasOfOrdinals_p13 false) (laws_FnHydrasOfOrdinals_p13 false)) (cond v210 (laws_FnHydrasOfOrdinals_p13 false) (laws_FnHydrasOfOrdinals_p13 false))) (cond v185 (cond v210 (laws_FnHydrasOfOrdinals_p13 false) (laws_FnHydrasOfOrdinals_p13 false)) (cond v210 (laws_FnHydrasOfOrdinals_p13 false) (laws_FnHydrasOfOrdinals_p13 false))))) (cond v165 (cond v172 (cond v185 (cond v210 (laws_FnHydrasOfOrdinals_p13 false) (laws_FnHydrasOfOrdinals_p13 false)) (cond v210 (laws_FnHydrasOfOrdinals_p13 false) (laws_FnHydrasOfOrdinals_p13 false))) (cond v185 (cond v210 (laws_FnHydrasOfOrdinals_p13 false) (laws_FnHydrasOfOrdinals_p13 false)) (cond v210 (laws_FnHydrasOfOrdinals_p13 false) (laws_FnHydrasOfOrdinals_p13 false)))) (cond v172 (cond v185 (cond v210 (laws_FnHydrasOfOrdinals_p13 false) (laws_FnHydrasOfOrdinals_p13 false)) (cond v210 (laws_FnHydrasOfOrdinals_p13 false) (laws_FnHydrasOfOrdinals_p13 false))) (cond v185 (cond v210 (laws_FnHydrasOfOrdinals_p13 false) (laws_FnHydrasOfOrdinals_p13 false)) (cond v210 (laws_FnHydrasOfOrdinals_p13 false) (laws_FnHydrasOfOrdinals_p13 false)))))) (cond v161 (cond v165 (cond v172 (cond v185 (cond v210 (laws_FnHydrasOfOrdinals_p13 false) (laws_FnHydrasOfOrdinals_p13 false)) (cond v210 (laws_FnHydrasOfOrdinals_p13 false) (laws_FnHydrasOfOrdinals_p13 false))) (cond v185 (cond v210 (laws_FnHydrasOfOrdinals_p13 false) (laws_FnHydrasOfOrdinals_p13 false)) (cond v210 (laws_FnHydrasOfOrdinals_p13 false) (laws_FnHydrasOfOrdinals_p13 false)))) (cond v172 (cond v185 (cond v210 (laws_FnHydrasOfOrdinals_p13 false) (laws_FnHydrasOfOrdinals_p13 false)) (cond v210 (laws_FnHydrasOfOrdinals_p13 false) (laws_FnHydrasOfOrdinals_p13 false))) (cond v185 (cond v210 (laws_FnHydrasOfOrdinals_p13 false) (laws_FnHydrasOfOrdinals_p13 false)) (cond v210 (laws_FnHydrasOfOrdinals_p13 false) (laws_FnHydrasOfOrdinals_p13 false))))) (cond v165 (cond v172 (cond v185 (cond v210 (laws_FnHydrasOfOrdinals_p13 false) (laws_FnHydrasOfOrdinals_p13 false)) (cond v210 (laws_FnHydrasOfOrdinals_p13 false) (laws_FnHydrasOfOrdinals_p13 false))) (cond v185 (cond v210 (laws_FnHydrasOfOrdinals_p13 false) (laws_FnHydrasOfOrdinals_p13 false)) (cond v210 (laws_FnHydrasOfOrdinals_p13 false) (laws_FnHydrasOfOrdinals_p13 false)))) (cond v172 (cond v185 (cond v210 (laws_FnHydrasOfOrdinals_p13 false) (laws_FnHydrasOfOrdinals_p13 false)) (cond v210 (laws_FnHydrasOfOrdinals_p13 false) (laws_FnHydrasOfOrdinals_p13 false))) (cond v185 (cond v210 (laws_FnHydrasOfOrdinals_p13 false) (laws_FnHydrasOfOrdinals_p13 false)) (cond v210 (laws_FnHydrasOfOrdinals_p13 false) (laws_FnHydrasOfOrdinals_p13 false)))))))
set_option maxHeartbeats 4000000 in
set_option maxRecDepth 100000 in
theorem laws_FnHydrasOfOrdinals_p12_ct {k : Nat} {o151 : ByteArray} {o152 : Rw} {o153 : Rw} {o154 : Rw} {o155 : Rw} {o156 : Rw} {v157 : Bool} {v161 : Bool} {v165 : Bool} {v172 : Bool} {v185 : Bool} {v210 : Bool} {r : Bool} (h : laws_FnHydrasOfOrdinals_p12 k o151 o152 o153 o154 o155 o156 v157 v161 v165 v172 v185 v210 = some r) : X prog 0 (tlF f7 12) (mk 118 [(5, .ptr 320 0), (6, .ptr 384 0), (10, .ptr 640 0), (11, .d (D.bool v165)), (12, .d (D.bool v172)), (13, .d (D.bool v185)), (14, .d (D.str o151)), (15, .d (D.bool v161)), (16, .ptr 1024 0), (17, .d (D.bool v210)), (18, .ptr 1152 0), (19, .d (D.bool v157))] [(320, .box 31 [.os 1124000 o152.length]), (384, .box 28 [.d (D.sl o153)]), (640, .box 31 [.d (D.sl o154)]), (1024, .box 31 [.os 1124001 o155.length]), (1152, .box 28 [.os 1124002 o156.length]), (1124000, .arr 3 true o152), (1124001, .arr 3 true o155), (1124002, .arr 96 true o156)]) (finK prog f7 0 (.d (D.bool r)) (⟨[], []⟩)) := by
  rw [laws_FnHydrasOfOrdinals_p12] at h
  cases v157
  · replace h := condF h
    cases v161
    · replace h := condF h
      cases v165
      · replace h := condF h
        cases v172
        · replace h := condF h
          cases v185
          · replace h := condF h
            cases v210
            · replace h := condF h
              conv => whnf
              exact CutK.piece (laws_FnHydrasOfOrdinals_p13_ct  h) [] [] ⟨⟨rfl, rfl⟩, ⟨rfl, trivial⟩, rfl, trivial⟩
            · replace h := condT h
              conv => whnf
              exact CutK.piece (laws_FnHydrasOfOrdinals_p13_ct  h) [] [] ⟨⟨rfl, rfl⟩, ⟨rfl, trivial⟩, rfl, trivial⟩
          · replace h := condT h
            cases v210
            · replace h := condF h
              conv => whnf
              exact CutK.piece (laws_FnHydrasOfOrdinals_p13_ct  h) [] [] ⟨⟨rfl, rfl⟩, ⟨rfl, trivial⟩, rfl, trivial⟩
            · replace h := condT h
              conv => whnf
              exact CutK.piece (laws_FnHydrasOfOrdinals_p13_ct  h) [] [] ⟨⟨rfl, rfl⟩, ⟨rfl, trivial⟩, rfl, trivial⟩
        · replace h := condT h
          cases v185
          · replace h := condF h
            cases v210
            · replace h := condF h
              conv => whnf
              exact CutK.piece (laws_FnHydrasOfOrdinals_p13_ct  h) [] [] ⟨⟨rfl, rfl⟩, ⟨rfl, trivial⟩, rfl, trivial⟩
            · replace h := condT h
              conv => whnf
              exact CutK.piece (laws_FnHydrasOfOrdinals_p13_ct  h) [] [] ⟨⟨rfl, rfl⟩, ⟨rfl, trivial⟩, rfl, trivial⟩
          · replace h := condT h
            cases v210
            · replace h := condF h
              conv => whnf
              exact CutK.piece (laws_FnHydrasOfOrdinals_p13_ct  h) [] [] ⟨⟨rfl, rfl⟩, ⟨rfl, trivial⟩, rfl, trivial⟩
            · replace h := condT h
              conv => whnf
              exact CutK.piece (laws_FnHydrasOfOrdinals_p13_ct  h) [] [] ⟨⟨rfl, rfl⟩, ⟨rfl, trivial⟩, rfl, trivial⟩
      · replace h := condT h
        cases v172
        · replace h := condF h
          cases v185
          · replace h := condF h
            cases v210
            · replace h := condF h
              conv => whnf
              exact CutK.piece (laws_FnHydrasOfOrdinals_p13_ct  h) [] [] ⟨⟨rfl, rfl⟩, ⟨rfl, trivial⟩, rfl, trivial⟩
            · replace h := condT h
              conv => whnf
              exact CutK.piece (laws_FnHydrasOfOrdinals_p13_ct  h) [] [] ⟨⟨rfl, rfl⟩, ⟨rfl, trivial⟩, rfl, trivial⟩
          · replace h := condT h
            cases v210
            · replace h := condF h
              conv => whnf
              exact CutK.piece (laws_FnHydrasOfOrdinals_p13_ct  h) [] [] ⟨⟨rfl, rfl⟩, ⟨rfl, trivial⟩, rfl, trivial⟩
            · replace h := condT h
              conv => whnf
              exact CutK.piece (laws_FnHydrasOfOrdinals_p13_ct  h) [] [] ⟨⟨rfl, rfl⟩, ⟨rfl, trivial⟩, rfl, trivial⟩
        · replace h := condT h
          cases v185
          · replace h := condF h
            cases v210
            · replace h := condF h
              conv => whnf
              exact CutK.piece (laws_FnHydrasOfOrdinals_p13_ct  h) [] [] ⟨⟨rfl, rfl⟩, ⟨rfl, trivial⟩, rfl, trivial⟩
            · replace h := condT h
              conv => whnf
              exact CutK.piece (laws_FnHydrasOfOrdinals_p13_ct  h) [] [] ⟨⟨rfl, rfl⟩, ⟨rfl, trivial⟩, rfl, trivial⟩
          · replace h := condT h
            cases v210
            · replace h := condF h
              conv => whnf
              exact CutK.piece (laws_FnHydrasOfOrdinals_p13_ct  h) [] [] ⟨⟨rfl, rfl⟩, ⟨rfl, trivial⟩, rfl, trivial⟩
            · replace h := condT h
              conv => whnf
              exact CutK.piece (laws_FnHydrasOfOrdinals_p13_ct  h) [] [] ⟨⟨rfl, rfl⟩, ⟨rfl, trivial⟩, rfl, trivial⟩
    · replace h := condT h
      cases v165
      · replace h := condF h
        cases v172
        · replace h := condF h
          cases v185
          · replace h := condF h
            cases v210
            · replace h := condF h
              conv => whnf
              exact CutK.piece (laws_FnHydrasOfOrdinals_p13_ct  h) [] [] ⟨⟨rfl, rfl⟩, ⟨rfl, trivial⟩, rfl, trivial⟩
            · replace h := condT h
              conv => whnf
              exact CutK.piece (laws_FnHydrasOfOrdinals_p13_ct  h) [] [] ⟨⟨rfl, rfl⟩, ⟨rfl, trivial⟩, rfl, trivial⟩
          · replace h := condT h
            cases v210
            · replace h := condF h
              conv => whnf
              exact CutK.piece (laws_FnHydrasOfOrdinals_p13_ct  h) [] [] ⟨⟨rfl, rfl⟩, ⟨rfl, trivial⟩, rfl, trivial⟩
            · replace h := condT h
              conv => whnf
              exact CutK.piece (laws_FnHydrasOfOrdinals_p13_ct  h) [] [] ⟨⟨rfl, rfl⟩, ⟨rfl, trivial⟩, rfl, trivial⟩
        · replace h := condT h
          cases v185
          · replace h := condF h
            cases v210
            · replace h := condF h
              conv => whnf
              exact CutK.piece (laws_FnHydrasOfOrdinals_p13_ct  h) [] [] ⟨⟨rfl, rfl⟩, ⟨rfl, trivial⟩, rfl, trivial⟩
            · replace h := condT h
              conv => whnf
              exact CutK.piece (laws_FnHydrasOfOrdinals_p13_ct  h) [] [] ⟨⟨rfl, rfl⟩, ⟨rfl, trivial⟩, rfl, trivial⟩
          · replace h := condT h
            cases v210
            · replace h := condF h
              conv => whnf
              exact CutK.piece (laws_FnHydrasOfOrdinals_p13_ct  h) [] [] ⟨⟨rfl, rfl⟩, ⟨rfl, trivial⟩, rfl, trivial⟩
            · replace h := condT h
              conv => whnf
              exact CutK.piece (laws_FnHydrasOfOrdinals_p13_ct  h) [] [] ⟨⟨rfl, rfl⟩, ⟨rfl, trivial⟩, rfl, trivial⟩
      · replace h := condT h
        cases v172
        · replace h := condF h
          cases v185
          · replace h := condF h
            cases v210
            · replace h := condF h
              conv => whnf
              exact CutK.piece (laws_FnHydrasOfOrdinals_p13_ct  h) [] [] ⟨⟨rfl, rfl⟩, ⟨rfl, trivial⟩, rfl, trivial⟩
            · replace h := condT h
              conv => whnf
              exact CutK.piece (laws_FnHydrasOfOrdinals_p13_ct  h) [] [] ⟨⟨rfl, rfl⟩, ⟨rfl, trivial⟩, rfl, trivial⟩
          · replace h := condT h
            cases v210
            · replace h := condF h
              conv => whnf
              exact CutK.piece (laws_FnHydrasOfOrdinals_p13_ct  h) [] [] ⟨⟨rfl, rfl⟩, ⟨rfl, trivial⟩, rfl, trivial⟩
            · replace h := condT h
              conv => whnf
              exact CutK.piece (laws_FnHydrasOfOrdinals_p13_ct  h) [] [] ⟨⟨rfl, rfl⟩, ⟨rfl, trivial⟩, rfl, trivial⟩
        · replace h := condT h
          cases v185
          · replace h := condF h
            cases v210
            · replace h := condF h
              conv => whnf
              exact CutK.piece (laws_FnHydrasOfOrdinals_p13_ct  h) [] [] ⟨⟨rfl, rfl⟩, ⟨rfl, trivial⟩, rfl, trivial⟩
            · replace h := condT h
              conv => whnf
              exact CutK.piece (laws_FnHydrasOfOrdinals_p13_ct  h) [] [] ⟨⟨rfl, rfl⟩, ⟨rfl, trivial⟩, rfl, trivial⟩
          · replace h := condT h
            cases v210
            · replace h := condF h
              conv => whnf
              exact CutK.piece (laws_FnHydrasOfOrdinals_p13_ct  h) [] [] ⟨⟨rfl, rfl⟩, ⟨rfl, trivial⟩, rfl, trivial⟩
            · replace h := condT h
              conv => whnf
              exact CutK.piece (laws_FnHydrasOfOrdinals_p13_ct  h) [] [] ⟨⟨rfl, rfl⟩, ⟨rfl, trivial⟩, rfl, trivial⟩
  · replace h := condT h
    cases v161
    · replace h := condF h
      cases v165
      · replace h := condF h
        cases v172
        · replace h := condF h
          cases v185
          · replace h := condF h
            cases v210
            · replace h := condF h
              conv => whnf
              exact CutK.piece (laws_FnHydrasOfOrdinals_p13_ct  h) [] [] ⟨⟨rfl, rfl⟩, ⟨rfl, trivial⟩, rfl, trivial⟩
            · replace h := condT h
              conv => whnf
              exact CutK.piece (laws_FnHydrasOfOrdinals_p13_ct  h) [] [] ⟨⟨rfl, rfl⟩, ⟨rfl, trivial⟩, rfl, trivial⟩
          · replace h := condT h
            cases v210
            · replace h := condF h
              conv => whnf
              exact CutK.piece (laws_FnHydrasOfOrdinals_p13_ct  h) [] [] ⟨⟨rfl, rfl⟩, ⟨rfl, trivial⟩, rfl, trivial⟩
            · replace h := condT h
              conv => whnf
              exact CutK.piece (laws_FnHydrasOfOrdinals_p13_ct  h) [] [] ⟨⟨rfl, rfl⟩, ⟨rfl, trivial⟩, rfl, trivial⟩
        · replace h := condT h
          cases v185
          · replace h := condF h
            cases v210
            · replace h := condF h
              conv => whnf
              exact CutK.piece (laws_FnHydrasOfOrdinals_p13_ct  h) [] [] ⟨⟨rfl, rfl⟩, ⟨rfl, trivial⟩, rfl, trivial⟩
            · replace h := condT h
              conv => whnf
              exact CutK.piece (laws_FnHydrasOfOrdinals_p13_ct  h) [] [] ⟨⟨rfl, rfl⟩, ⟨rfl, trivial⟩, rfl, trivial⟩
          · replace h := condT h
            cases v210
            · replace h := condF h
              conv => whnf
              exact CutK.piece (laws_FnHydrasOfOrdinals_p13_ct  h) [] [] ⟨⟨rfl, rfl⟩, ⟨rfl, trivial⟩, rfl, trivial⟩
            · replace h := condT h
              conv => whnf
              exact CutK.piece (laws_FnHydrasOfOrdinals_p13_ct  h) [] [] ⟨⟨rfl, rfl⟩, ⟨rfl, trivial⟩, rfl, trivial⟩
      · replace h := condT h
        cases v172
        · replace h := condF h
          cases v185
          · replace h := condF h
            cases v210
            · replace h := condF h
              conv => whnf
              exact CutK.piece (laws_FnHydrasOfOrdinals_p13_ct  h) [] [] ⟨⟨rfl, rfl⟩, ⟨rfl, trivial⟩, rfl, trivial⟩
            · replace h := condT h
              conv => whnf
              exact CutK.piece (laws_FnHydrasOfOrdinals_p13_ct  h) [] [] ⟨⟨rfl, rfl⟩, ⟨rfl, trivial⟩, rfl, trivial⟩
          · replace h := condT h
            cases v210
            · replace h := condF h
              conv => whnf
              exact CutK.piece (laws_FnHydrasOfOrdinals_p13_ct  h) [] [] ⟨⟨rfl, rfl⟩, ⟨rfl, trivial⟩, rfl, trivial⟩
            · replace h := condT h
              conv => whnf
              exact CutK.piece (laws_FnHydrasOfOrdinals_p13_ct  h) [] [] ⟨⟨rfl, rfl⟩, ⟨rfl, trivial⟩, rfl, trivial⟩
        · replace h := condT h
          cases v185
          · replace h := condF h
            cases v210
            · replace h := condF h
              conv => whnf
              exact CutK.piece (laws_FnHydrasOfOrdinals_p13_ct  h) [] [] ⟨⟨rfl, rfl⟩, ⟨rfl, trivial⟩, rfl, trivial⟩
            · replace h := condT h
              conv => whnf
              exact CutK.piece (laws_FnHydrasOfOrdinals_p13_ct  h) [] [] ⟨⟨rfl, rfl⟩, ⟨rfl, trivial⟩, rfl, trivial⟩
          · replace h := condT h
            cases v210
            · replace h := condF h
              conv => whnf
              exact CutK.piece (laws_FnHydrasOfOrdinals_p13_ct  h) [] [] ⟨⟨rfl, rfl⟩, ⟨rfl, trivial⟩, rfl, trivial⟩
            · replace h := condT h
              conv => whnf
              exact CutK.piece (laws_FnHydrasOfOrdinals_p13_ct  h) [] [] ⟨⟨rfl, rfl⟩, ⟨rfl, trivial⟩, rfl, trivial⟩
    · replace h := condT h
      cases v165
      · replace h := condF h
        cases v172
        · replace h := condF h
          cases v185
          · replace h := condF h
            cases v210
            · replace h := condF h
              conv => whnf
              exact CutK.piece (laws_FnHydrasOfOrdinals_p13_ct  h) [] [] ⟨⟨rfl, rfl⟩, ⟨rfl, trivial⟩, rfl, trivial⟩
            · replace h := condT h
              conv => whnf
              exact CutK.piece (laws_FnHydrasOfOrdinals_p13_ct  h) [] [] ⟨⟨rfl, rfl⟩, ⟨rfl, trivial⟩, rfl, trivial⟩
          · replace h := condT h
            cases v210
            · replace h := condF h
              conv => whnf
              exact CutK.piece (laws_FnHydrasOfOrdinals_p13_ct  h) [] [] ⟨⟨rfl, rfl⟩, ⟨rfl, trivial⟩, rfl, trivial⟩
            · replace h := condT h
              conv => whnf
              exact CutK.piece (laws_FnHydrasOfOrdinals_p13_ct  h) [] [] ⟨⟨rfl, rfl⟩, ⟨rfl, trivial⟩, rfl, trivial⟩
        · replace h := condT h
          cases v185
          · replace h := condF h
            cases v210
            · replace h := condF h
              conv => whnf
              exact CutK.piece (laws_FnHydrasOfOrdinals_p13_ct  h) [] [] ⟨⟨rfl, rfl⟩, ⟨rfl, trivial⟩, rfl, trivial⟩
            · replace h := condT h
              conv => whnf
              exact CutK.piece (laws_FnHydrasOfOrdinals_p13_ct  h) [] [] ⟨⟨rfl, rfl⟩, ⟨rfl, trivial⟩, rfl, trivial⟩
          · replace h := condT h
            cases v210
            · replace h := condF h
              conv => whnf
              exact CutK.piece (laws_FnHydrasOfOrdinals_p13_ct  h) [] [] ⟨⟨rfl, rfl⟩, ⟨rfl, trivial⟩, rfl, trivial⟩
            · replace h := condT h
              conv => whnf
              exact CutK.piece (laws_FnHydrasOfOrdinals_p13_ct  h) [] [] ⟨⟨rfl, rfl⟩, ⟨rfl, trivial⟩, rfl, trivial⟩
      · replace h := condT h
        cases v172
        · replace h := condF h
          cases v185
          · replace h := condF h
            cases v210
            · replace h := condF h
              conv => whnf
              exact CutK.piece (laws_FnHydrasOfOrdinals_p13_ct  h) [] [] ⟨⟨rfl, rfl⟩, ⟨rfl, trivial⟩, rfl, trivial⟩
            · replace h := condT h
              conv => whnf
              exact CutK.piece (laws_FnHydrasOfOrdinals_p13_ct  h) [] [] ⟨⟨rfl, rfl⟩, ⟨rfl, trivial⟩, rfl, trivial⟩
          · replace h := condT h
            cases v210
            · replace h := condF h
              conv => whnf
              exact CutK.piece (laws_FnHydrasOfOrdinals_p13_ct  h) [] [] ⟨⟨rfl, rfl⟩, ⟨rfl, trivial⟩, rfl, trivial⟩
            · replace h := condT h
              conv => whnf
              exact CutK.piece (laws_FnHydrasOfOrdinals_p13_ct  h) [] [] ⟨⟨rfl, rfl⟩, ⟨rfl, trivial⟩, rfl, trivial⟩
        · replace h := condT h
          cases v185
          · replace h := condF h
            cases v210
            · replace h := condF h
              conv => whnf
              exact CutK.piece (laws_FnHydrasOfOrdinals_p13_ct  h) [] [] ⟨⟨rfl, rfl⟩, ⟨rfl, trivial⟩, rfl, trivial⟩
            · replace h := condT h
              conv => whnf
              exact CutK.piece (laws_FnHydrasOfOrdinals_p13_ct  h) [] [] ⟨⟨rfl, rfl⟩, ⟨rfl, trivial⟩, rfl, trivial⟩
          · replace h := condT h
            cases v210
            · replace h := condF h
              conv => whnf
              exact CutK.piece (laws_FnHydrasOfOrdinals_p13_ct  h) [] [] ⟨⟨rfl, rfl⟩, ⟨rfl, trivial⟩, rfl, trivial⟩
            · replace h := condT h
              conv => whnf
              refine Pick.no ?_
              conv => whnf
              refine Take.all (rfl) ?_
              conv => whnf
              refine Take.all (rfl) ?_
              conv => whnf
              obtain ⟨y265, e266, h⟩ := bind_ex h
              refine CallOk.of (laws_qSame_ct e266) ?_
              conv => whnf
              refine spl (fun g267 => ?_) (fun g267 => ?_)
              · replace h := iteT h g267
                conv => whnf
                refine splD (fun g268 => ?_) (fun g268 => ?_)
                · replace h := iteP h g268
                  conv => whnf
                  refine Pick.no ?_
                  conv => whnf
                  refine Take.all (rfl) ?_
                  conv => whnf
                  obtain ⟨y269, e270, h⟩ := bind_ex h
                  refine CallOk.of (laws_qSameOrdinal_ct e270) ?_
                  conv => whnf
                  refine spl (fun g271 => ?_) (fun g271 => ?_)
                  · replace h := iteT h g271
                    conv => whnf
                    refine splD (fun g272 => ?_) (fun g272 => ?_)
                    · replace h := iteP h g272
                      conv => whnf
                      exact CutK.piece (laws_FnHydrasOfOrdinals_p13_ct  h) [] [] ⟨⟨rfl, rfl⟩, ⟨rfl, trivial⟩, rfl, trivial⟩
                    · replace h := iteN h g272
                      conv => whnf
                      exact CutK.piece (laws_FnHydrasOfOrdinals_p13_ct  h) [] [] ⟨⟨rfl, rfl⟩, ⟨rfl, trivial⟩, rfl, trivial⟩
                  · replace h := iteF h g271
                    conv => whnf
                    exact CutK.piece (laws_FnHydrasOfOrdinals_p13_ct  h) [] [] ⟨⟨rfl, rfl⟩, ⟨rfl, trivial⟩, rfl, trivial⟩
                · replace h := iteN h g268
                  conv => whnf
                  exact CutK.piece (laws_FnHydrasOfOrdinals_p13_ct  h) [] [] ⟨⟨rfl, rfl⟩, ⟨rfl, trivial⟩, rfl, trivial⟩
              · replace h := iteF h g267
                conv => whnf
                exact CutK.piece (laws_FnHydrasOfOrdinals_p13_ct  h) [] [] ⟨⟨rfl, rfl⟩, ⟨rfl, trivial⟩, rfl, trivial⟩
def laws_FnHydrasOfOrdinals_p11 (k : Nat) (o93 : ByteArray) (o94 : Rw) (o95 : Rw) (o96 : Rw) (o97 : Rw) (v98 : Bool) (v102 : Bool) (v106 : Bool) (v113 : Bool) (v126 : Bool) : Option Bool :=
  (cond v98 (cond v102 (cond v106 (cond v113 (cond v126 ((impl_HydraOrdinal k o96).bind fun y366 => (if y366.2 = true then (laws_FnHydrasOfOrdinals_p12 k o93 o94 o95 o96 o97 y366.1 true true true true true true) else (laws_FnHydrasOfOrdinals_p12 k o93 o94 o95 o96 o97 y366.1 false true true true true true))) ((impl_HydraOrdinal k o96).bind fun y363 => (if y363.2 = true then (laws_FnHydrasOfOrdinals_p12 k o93 o94 o95 o96 o97 y363.1 true false true true true true) else (laws_FnHydrasOfOrdinals_p12 k o93 o94 o95 o96 o97 y363.1 false false true true true true)))) (cond v126 ((impl_HydraOrdinal k o96).bind fun y360 => (if y360.2 = true then (laws_FnHydrasOfOrdinals_p12 k o93 o94 o95 o96 o97 y360.1 true true false true true true) else (laws_FnHydrasOfOrdinals_p12 k o93 o94 o95 o96 o97 y360.1 false true false true true true))) ((impl_HydraOrdinal k o96).bind fun y357 => (if y357.2 = true then (laws_FnHydrasOfOrdinals_p12 k o93 o94 o95 o96 o97 y357.1 true false false true true true) else (laws_FnHydrasOfOrdinals_p12 k o93 o94 o95 o96 o97 y357.1 false false false true true true))))) (cond v113 (cond v126 ((impl_HydraOrdinal k o96).bind fun y354 => (if y354.2 = true then (laws_FnHydrasOfOrdinals_p12 k o93 o94 o95 o96 o97 y354.1 true true true false true true) else (laws_FnHydrasOfOrdinals_p12 k o93 o94 o95 o96 o97 y354.1 false true true false true true))) ((impl_HydraOrdinal k o96).bind fun y351 => (if y351.2 = true then (laws_FnHydrasOfOrdinals_p12 k o93 o94 o95 o96 o97 y351.1 true false true false true true) else (laws_FnHydrasOfOrdinals_p12 k o93 o94 o95 o96 o97 y351.1 false false true false true true)))) (cond v126 ((impl_HydraOrdinal k o96).bind fun y348 => (if y348.2 = true then (laws_FnHydrasOfOrdinals_p12 k o93 o94 o95 o96 o97 y348.1 true true false false true true) else (laws_FnHydrasOfOrdinals_p12 k o93 o94 o95 o96 o97 y348.1 false true false false true true))) ((impl_HydraOrdinal k o96).bind fun y345 => (if y345.2 = true then (laws_FnHydrasOfOrdinals_p12 k o93 o94 o95 o96 o97 y345.1 true false false false true true) else (laws_FnHydrasOfOrdinals_p12 k o93 o94 o95 o96 o97 y345.1 false false false false true true)))))) (cond v106 (cond v113 (cond v126 ((impl_HydraOrdinal k o96).bind fun y342 => (if y342.2 = true then (laws_FnHydrasOfOrdinals_p12 k o93 o94 o95 o96 o97 y342.1 true true true true false true) else (laws_FnHydrasOfOrdinals_p12 k o93 o94 o95 o96 o97 y342.1 false true true true false true))) ((impl_HydraOrdinal k o96).bind fun y339 => (if y339.2 = true then (laws_FnHydrasOfOrdinals_p12 k o93 o94 o95 o96 o97 y339.1 true false true true false true) else (laws_FnHydrasOfOrdinals_p12 k o93 o94 o95 o96 o97 y339.1 false false true true false true)))) (cond v126 ((impl_HydraOrdinal k o96).bind fun y336 => (if y336.2 = true then (laws_FnHydrasOfOrdinals_p12 k o93 o94 o95 o96 o97 y336.1 true true false true false true) else (laws_FnHydrasOfOrdinals_p12 k o93 o94 o95 o96 o97 y336.1 false true false true false true))) ((impl_HydraOrdinal k o96).bind fun y333 => (if y333.2 = true then (laws_FnHydrasOfOrdinals_p12 k o93 o94 o95 o96 o97 y333.1 true false false true false true) else (laws_FnHydrasOfOrdinals_p12 k o93 o94 o95 o96 o97 y333.1 false false false true false true))))) (cond v113 (cond v126 ((impl_HydraOrdinal k o96).bind fun y330 => (if y330.2 = true then (laws_FnHydrasOfOrdinals_p12 k o93 o94 o95 o96 o97 y330.1 true true true false false true) else (laws_FnHydrasOfOrdinals_p12 k o93 o94 o95 o96 o97 y330.1 false true true false false true))) ((impl_HydraOrdinal k o96).bind fun y327 => (if y327.2 = true then (laws_FnHydrasOfOrdinals_p12 k o93 o94 o95 o96 o97 y327.1 true false true false false true) else (laws_FnHydrasOfOrdinals_p12 k o93 o94 o95 o96 o97 y327.1 false false true false false true)))) (cond v126 ((impl_HydraOrdinal k o96).bind fun y324 => (if y324.2 = true then (laws_FnHydrasOfOrdinals_p12 k o93 o94 o95 o96 o97 y324.1 true true false false false true) else (laws_FnHydrasOfOrdinals_p12 k o93 o94 o95 o96 o97 y324.1 false true false false false true))) ((impl_HydraOrdinal k o96).bind fun y321 => (if y321.2 = true then (laws_FnHydrasOfOrdinals_p12 k o93 o94 o95 o96 o97 y321.1 true false false false false true) else (laws_FnHydrasOfOrdinals_p12 k o93 o94 o95 o96 o97 y321.1 false false false false false true))))))) (cond v102 (cond v106 (cond v113 (cond v126 ((impl_HydraOrdinal k o96).bind fun y318 => (if y318.2 = true then (laws_FnHydrasOfOrdinals_p12 k o93 o94 o95 o96 o97 y318.1 true true true true true false) else (laws_FnHydrasOfOrdinals_p12 k o93 o94 o95 o96 o97 y318.1 false true true true true false))) ((impl_HydraOrdinal k o96).bind fun y315 => (if y315.2 = true then (laws_FnHydrasOfOrdinals_p12 k o93 o94 o95 o96 o97 y315.1 true false true true true false) else (laws_FnHydrasOfOrdinals_p12 k o93 o94 o95 o96 o97 y315.1 false false true true true false)))) (cond v126 ((impl_HydraOrdinal k o96).bind fun y312 => (if y312.2 = true then (laws_FnHydrasOfOrdinals_p12 k o93 o94 o95 o96 o97 y312.1 true true false true true false) else (laws_FnHydrasOfOrdinals_p12 k o93 o94 o95 o96 o97 y312.1 false true false true true false))) ((impl_HydraOrdinal k o96).bind fun y309 => (if y309.2 = true then (laws_FnHydrasOfOrdinals_p12 k o93 o94 o95 o96 o97 y309.1 true false false true true false) else (laws_FnHydrasOfOrdinals_p12 k o93 o94 o95 o96 o97 y309.1 false false false true true false))))) (cond v113 (cond v126 ((impl_HydraOrdinal k o96).bind fun y306 => (if y306.2 = true then (laws_FnHydrasOfOrdinals_p12 k o93 o94 o95 o96 o97 y306.1 true true true false true false) else (laws_FnHydrasOfOrdinals_p12 k o93 o94 o95 o96 o97 y306.1 false true true false true false))) ((impl_HydraOrdinal k o96).bind fun y303 => (if y303.2 = true then (laws_FnHydrasOfOrdinals_p12 k o93 o94 o95 o96 o97 y303.1 true false true false true false) else (laws_FnHydrasOfOrdinals_p12 k o93 o94 o95 o96 o97 y303.1 false false true false true false)))) (cond v126 ((impl_HydraOrdinal k o96).bind fun y300 => (if y300.2 = true then (laws_FnHydrasOfOrdinals_p12 k o93 o94 o95 o96 o97 y300.1 true true false false true false) else (laws_FnHydrasOfOrdinals_p12 k o93 o94 o95 o96 o97 y300.1 false true false false true false))) ((impl_HydraOrdinal k o96).bind fun y297 => (if y297.2 = true then (laws_FnHydrasOfOrdinals_p12 k o93 o94 o95 o96 o97 y297.1 true false false false true false) else (laws_FnHydrasOfOrdinals_p12 k o93 o94 o95 o96 o97 y297.1 false false false false true false)))))) (cond v106 (cond v113 (cond v126 ((impl_HydraOrdinal k o96).bind fun y294 => (if y294.2 = true then (laws_FnHydrasOfOrdinals_p12 k o93 o94 o95 o96 o97 y294.1 true true true true false false) else (laws_FnHydrasOfOrdinals_p12 k o93 o94 o95 o96 o97 y294.1 false true true true false false))) ((impl_HydraOrdinal k o96).bind fun y291 => (if y291.2 = true then (laws_FnHydrasOfOrdinals_p12 k o93 o94 o95 o96 o97 y291.1 true false true true false false) else (laws_FnHydrasOfOrdinals_p12 k o93 o94 o95 o96 o97 y291.1 false false true true false false)))) (cond v126 ((impl_HydraOrdinal k o96).bind fun y288 => (if y288.2 = true then (laws_FnHydrasOfOrdinals_p12 k o93 o94 o95 o96 o97 y288.1 true true false true false false) else (laws_FnHydrasOfOrdinals_p12 k o93 o94 o95 o96 o97 y288.1 false true false true false false))) ((impl_HydraOrdinal k o96).bind fun y285 => (if y285.2 = true then (laws_FnHydrasOfOrdinals_p12 k o93 o94 o95 o96 o97 y285.1 true false false true false false) else (laws_FnHydrasOfOrdinals_p12 k o93 o94 o95 o96 o97 y285.1 false false false true false false))))) (cond v113 (cond v126 ((impl_HydraOrdinal k o96).bind fun y282 => (if y282.2 = true then (laws_FnHydrasOfOrdinals_p12 k o93 o94 o95 o96 o97 y282.1 true true true false false false) else (laws_FnHydrasOfOrdinals_p12 k o93 o94 o95 o96 o97 y282.1 false true true false false false))) ((impl_HydraOrdinal k o96).bind fun y279 => (if y279.2 = true then (laws_FnHydrasOfOrdinals_p12 k o93 o94 o95 o96 o97 y279.1 true false true false false false) else (laws_FnHydrasOfOrdinals_p12 k o93 o94 o95 o96 o97 y279.1 false false true false false false)))) (cond v126 ((impl_HydraOrdinal k o96).bind fun y276 => (if y276.2 = true then (laws_FnHydrasOfOrdinals_p12 k o93 o94 o95 o96 o97 y276.1 true true false false false false) else (laws_FnHydrasOfOrdinals_p12 k o93 o94 o95 o96 o97 y276.1 false true false false false false))) ((impl_HydraOrdinal k o96).bind fun y273 => (if y273.2 = true then (laws_FnHydrasOfOrdinals_p12 k o93 o94 o95 o96 o97 y273.1 true false false false false false) else (laws_FnHydrasOfOrdinals_p12 k o93 o94 o95 o96 o97 y273.1 false false false false false false))))))))
set_option maxHeartbeats 4000000 in
set_option maxRecDepth 100000 in
theorem laws_FnHydrasOfOrdinals_p11_ct {k : Nat} {o93 : ByteArray} {o94 : Rw} {o95 : Rw} {o96 : Rw} {o97 : Rw} {v98 : Bool} {v102 : Bool} {v106 : Bool} {v113 : Bool} {v126 : Bool} {r : Bool} (h : laws_FnHydrasOfOrdinals_p11 k o93 o94 o95 o96 o97 v98 v102 v106 v113 v126 = some r) : X prog 0 (tlF f7 11) (mk 118 [(5, .ptr 320 0), (6, .ptr 384 0), (10, .ptr 640 0), (11, .d (D.bool v113)), (12, .d (D.bool v106)), (13, .d (D.bool v102)), (14, .d (D.str o93)), (15, .d (D.bool v126)), (16, .ptr 1024 0), (17, .d (D.bool v98))] [(320, .box 31 [.os 1119000 o94.length]), (384, .box 28 [.d (D.sl o95)]), (640, .box 31 [.d (D.sl o96)]), (1024, .box 31 [.os 1119001 o97.length]), (1119000, .arr 3 true o94), (1119001, .arr 3 true o97)]) (finK prog f7 0 (.d (D.bool r)) (⟨[], []⟩)) := by
  rw [laws_FnHydrasOfOrdinals_p11] at h
  cases v98
  · replace h := condF h
    cases v102
    · replace h := condF h
      cases v106
      · replace h := condF h
        cases v113
        · replace h := condF h
          cases v126
          · replace h := condF h
            conv => whnf
            refine Pick.no ?_
            conv => whnf
            obtain ⟨y273, e274, h⟩ := bind_ex h
            refine CallOk.of (impl_HydraOrdinal_ct e274) ?_
            conv => whnf
            refine spl (fun g275 => ?_) (fun g275 => ?_)
            · replace h := iteT h g275
              conv => whnf
              exact CutK.piece (laws_FnHydrasOfOrdinals_p12_ct  h) [some 320, some 384, some 640, some 1024, some 1152, some 1119000, some 1119001, some 4416] [] ⟨⟨rfl, rfl⟩, ⟨rfl, ⟨rfl, ⟨rfl, rfl⟩, trivial⟩, ⟨rfl, rfl, trivial⟩, ⟨rfl, rfl, trivial⟩, ⟨rfl, ⟨rfl, rfl⟩, trivial⟩, ⟨rfl, ⟨rfl, rfl⟩, trivial⟩, ⟨rfl, rfl, rows_same⟩, ⟨rfl, rfl, rows_same⟩, ⟨rfl, rfl, rows_same⟩, trivial⟩, ⟨rfl, rfl⟩, ⟨rfl, rfl⟩, ⟨rfl, rfl⟩, rfl, rfl, rfl, rfl, rfl, ⟨rfl, rfl⟩, rfl, ⟨rfl, rfl⟩, rfl, trivial⟩
            · replace h := iteF h g275
              conv => whnf
              exact CutK.piece (laws_FnHydrasOfOrdinals_p12_ct  h) [some 320, some 384, some 640, some 1024, some 1152, some 1119000, some 1119001, some 4416] [] ⟨⟨rfl, rfl⟩, ⟨rfl, ⟨rfl, ⟨rfl, rfl⟩, trivial⟩, ⟨rfl, rfl, trivial⟩, ⟨rfl, rfl, trivial⟩, ⟨rfl, ⟨rfl, rfl⟩, trivial⟩, ⟨rfl, ⟨rfl, rfl⟩, trivial⟩, ⟨rfl, rfl, rows_same⟩, ⟨rfl, rfl, rows_same⟩, ⟨rfl, rfl, rows_same⟩, trivial⟩, ⟨rfl, rfl⟩, ⟨rfl, rfl⟩, ⟨rfl, rfl⟩, rfl, rfl, rfl, rfl, rfl, ⟨rfl, rfl⟩, rfl, ⟨rfl, rfl⟩, rfl, trivial⟩
          · replace h := condT h
            conv => whnf
            refine Pick.no ?_
            conv => whnf
            obtain ⟨y276, e277, h⟩ := bind_ex h
            refine CallOk.of (impl_HydraOrdinal_ct e277) ?_
            conv => whnf
            refine spl (fun g278 => ?_) (fun g278 => ?_)
            · replace h := iteT h g278
              conv => whnf
              exact CutK.piece (laws_FnHydrasOfOrdinals_p12_ct  h) [some 320, some 384, some 640, some 1024, some 1152, some 1119000, some 1119001, some 4416] [] ⟨⟨rfl, rfl⟩, ⟨rfl, ⟨rfl, ⟨rfl, rfl⟩, trivial⟩, ⟨rfl, rfl, trivial⟩, ⟨rfl, rfl, trivial⟩, ⟨rfl, ⟨rfl, rfl⟩, trivial⟩, ⟨rfl, ⟨rfl, rfl⟩, trivial⟩, ⟨rfl, rfl, rows_same⟩, ⟨rfl, rfl, rows_same⟩, ⟨rfl, rfl, rows_same⟩, trivial⟩, ⟨rfl, rfl⟩, ⟨rfl, rfl⟩, ⟨rfl, rfl⟩, rfl, rfl, rfl, rfl, rfl, ⟨rfl, rfl⟩, rfl, ⟨rfl, rfl⟩, rfl, trivial⟩
            · replace h := iteF h g278
              conv => whnf
              exact CutK.piece (laws_FnHydrasOfOrdinals_p12_ct  h) [some 320, some 384, some 640, some 1024, some 1152, some 1119000, some 1119001, some 4416] [] ⟨⟨rfl, rfl⟩, ⟨rfl, ⟨rfl, ⟨rfl, rfl⟩, trivial⟩, ⟨rfl, rfl, trivial⟩, ⟨rfl, rfl, trivial⟩, ⟨rfl, ⟨rfl, rfl⟩, trivial⟩, ⟨rfl, ⟨rfl, rfl⟩, trivial⟩, ⟨rfl, rfl, rows_same⟩, ⟨rfl, rfl, rows_same⟩, ⟨rfl, rfl, rows_same⟩, trivial⟩, ⟨rfl, rfl⟩, ⟨rfl, rfl⟩, ⟨rfl, rfl⟩, rfl, rfl, rfl, rfl, rfl, ⟨rfl, rfl⟩, rfl, ⟨rfl, rfl⟩, rfl, trivial⟩
        · replace h := condT h
          cases v126
          · replace h := condF h
            conv => whnf
            refine Pick.no ?_
            conv => whnf
            obtain ⟨y279, e280, h⟩ := bind_ex h
            refine CallOk.of (impl_HydraOrdinal_ct e280) ?_
            conv => whnf
            refine spl (fun g281 => ?_) (fun g281 => ?_)
            · replace h := iteT h g281
              conv => whnf
              exact CutK.piece (laws_FnHydrasOfOrdinals_p12_ct  h) [some 320, some 384, some 640, some 1024, some 1152, some 1119000, some 1119001, some 4416] [] ⟨⟨rfl, rfl⟩, ⟨rfl, ⟨rfl, ⟨rfl, rfl⟩, trivial⟩, ⟨rfl, rfl, trivial⟩, ⟨rfl, rfl, trivial⟩, ⟨rfl, ⟨rfl, rfl⟩, trivial⟩, ⟨rfl, ⟨rfl, rfl⟩, trivial⟩, ⟨rfl, rfl, rows_same⟩, ⟨rfl, rfl, rows_same⟩, ⟨rfl, rfl, rows_same⟩, trivial⟩, ⟨rfl, rfl⟩, ⟨rfl, rfl⟩, ⟨rfl, rfl⟩, rfl, rfl, rfl, rfl, rfl, ⟨rfl, rfl⟩, rfl, ⟨rfl, rfl⟩, rfl, trivial⟩
            · replace h := iteF h g281
              conv => whnf
              exact CutK.piece (laws_FnHydrasOfOrdinals_p12_ct  h) [some 320, some 384, some 640, some 1024, some 1152, some 1119000, some 1119001, some 4416] [] ⟨⟨rfl, rfl⟩, ⟨rfl, ⟨rfl, ⟨rfl, rfl⟩, trivial⟩, ⟨rfl, rfl, trivial⟩, ⟨rfl, rfl, trivial⟩, ⟨rfl, ⟨rfl, rfl⟩, trivial⟩, ⟨rfl, ⟨rfl, rfl⟩, trivial⟩, ⟨rfl, rfl, rows_same⟩, ⟨rfl, rfl, rows_same⟩, ⟨rfl, rfl, rows_same⟩, trivial⟩, ⟨rfl, rfl⟩, ⟨rfl, rfl⟩, ⟨rfl, rfl⟩, rfl, rfl, rfl, rfl, rfl, ⟨rfl, rfl⟩, rfl, ⟨rfl, rfl⟩, rfl, trivial⟩
          · replace h := condT h
            conv => whnf
            refine Pick.no ?_
            conv => whnf
            obtain ⟨y282, e283, h⟩ := bind_ex h
            refine CallOk.of (impl_HydraOrdinal_ct e283) ?_
            conv => whnf
            refine spl (fun g284 => ?_) (fun g284 => ?_)
            · replace h := iteT h g284
              conv => whnf
              exact CutK.piece (laws_FnHydrasOfOrdinals_p12_ct  h) [some 320, some 384, some 640, some 1024, some 1152, some 1119000, some 1119001, some 4416] [] ⟨⟨rfl, rfl⟩, ⟨rfl, ⟨rfl, ⟨rfl, rfl⟩, trivial⟩, ⟨rfl, rfl, trivial⟩, ⟨rfl, rfl, trivial⟩, ⟨rfl, ⟨rfl, rfl⟩, trivial⟩, ⟨rfl, ⟨rfl, rfl⟩, trivial⟩, ⟨rfl, rfl, rows_same⟩, ⟨rfl, rfl, rows_same⟩, ⟨rfl, rfl, rows_same⟩, trivial⟩, ⟨rfl, rfl⟩, ⟨rfl, rfl⟩, ⟨rfl, rfl⟩, rfl, rfl, rfl, rfl, rfl, ⟨rfl, rfl⟩, rfl, ⟨rfl, rfl⟩, rfl, trivial⟩
            · replace h := iteF h g284
              conv => whnf
              exact CutK.piece (laws_FnHydrasOfOrdinals_p12_ct  h) [some 320, some 384, some 640, some 1024, some 1152, some 1119000, some 1119001, some 4416] [] ⟨⟨rfl, rfl⟩, ⟨rfl, ⟨rfl, ⟨rfl, rfl⟩, trivial⟩, ⟨rfl, rfl, trivial⟩, ⟨rfl, rfl, trivial⟩, ⟨rfl, ⟨rfl, rfl⟩, trivial⟩, ⟨rfl, ⟨rfl, rfl⟩, trivial⟩, ⟨rfl, rfl, rows_same⟩, ⟨rfl, rfl, rows_same⟩, ⟨rfl, rfl, rows_same⟩, trivial⟩, ⟨rfl, rfl⟩, ⟨rfl, rfl⟩, ⟨rfl, rfl⟩, rfl, rfl, rfl, rfl, rfl, ⟨rfl, rfl⟩, rfl, ⟨rfl, rfl⟩, rfl, trivial⟩
      · replace h := condT h
        cases v113
        · replace h := condF h
          cases v126
          · replace h := condF h
            conv => whnf
            refine Pick.no ?_
            conv => whnf
            obtain ⟨y285, e286, h⟩ := bind_ex h
            refine CallOk.of (impl_HydraOrdinal_ct e286) ?_
            conv => whnf
            refine spl (fun g287 => ?_) (fun g287 => ?_)
            · replace h := iteT h g287
              conv => whnf
              exact CutK.piece (laws_FnHydrasOfOrdinals_p12_ct  h) [some 320, some 384, some 640, some 1024, some 1152, some 1119000, some 1119001, some 4416] [] ⟨⟨rfl, rfl⟩, ⟨rfl, ⟨rfl, ⟨rfl, rfl⟩, trivial⟩, ⟨rfl, rfl, trivial⟩, ⟨rfl, rfl, trivial⟩, ⟨rfl, ⟨rfl, rfl⟩, trivial⟩, ⟨rfl, ⟨rfl, rfl⟩, trivial⟩, ⟨rfl, rfl, rows_same⟩, ⟨rfl, rfl, rows_same⟩, ⟨rfl, rfl, rows_same⟩, trivial⟩, ⟨rfl, rfl⟩, ⟨rfl, rfl⟩, ⟨rfl, rfl⟩, rfl, rfl, rfl, rfl, rfl, ⟨rfl, rfl⟩, rfl, ⟨rfl, rfl⟩, rfl, trivial⟩
            · replace h := iteF h g287
              conv => whnf
              exact CutK.piece (laws_FnHydrasOfOrdinals_p12_ct  h) [some 320, some 384, some 640, some 1024, some 1152, some 1119000, some 1119001, some 4416] [] ⟨⟨rfl, rfl⟩, ⟨rfl, ⟨rfl, ⟨rfl, rfl⟩, trivial⟩, ⟨rfl, rfl, trivial⟩, ⟨rfl, rfl, trivial⟩, ⟨rfl, ⟨rfl, rfl⟩, trivial⟩, ⟨rfl, ⟨rfl, rfl⟩, trivial⟩, ⟨rfl, rfl, rows_same⟩, ⟨rfl, rfl, rows_same⟩, ⟨rfl, rfl, rows_same⟩, trivial⟩, ⟨rfl, rfl⟩, ⟨rfl, rfl⟩, ⟨rfl, rfl⟩, rfl, rfl, rfl, rfl, rfl, ⟨rfl, rfl⟩, rfl, ⟨rfl, rfl⟩, rfl, trivial⟩
          · replace h := condT h
            conv => whnf
            refine Pick.no ?_
            conv => whnf
            obtain ⟨y288, e289, h⟩ := bind_ex h
            refine CallOk.of (impl_HydraOrdinal_ct e289) ?_
            conv => whnf
            refine spl (fun g290 => ?_) (fun g290 => ?_)
            · replace h := iteT h g290
              conv => whnf
              exact CutK.piece (laws_FnHydrasOfOrdinals_p12_ct  h) [some 320, some 384, some 640, some 1024, some 1152, some 1119000, some 1119001, some 4416] [] ⟨⟨rfl, rfl⟩, ⟨rfl, ⟨rfl, ⟨rfl, rfl⟩, trivial⟩, ⟨rfl, rfl, trivial⟩, ⟨rfl, rfl, trivial⟩, ⟨rfl, ⟨rfl, rfl⟩, trivial⟩, ⟨rfl, ⟨rfl, rfl⟩, trivial⟩, ⟨rfl, rfl, rows_same⟩, ⟨rfl, rfl, rows_same⟩, ⟨rfl, rfl, rows_same⟩, trivial⟩, ⟨rfl, rfl⟩, ⟨rfl, rfl⟩, ⟨rfl, rfl⟩, rfl, rfl, rfl, rfl, rfl, ⟨rfl, rfl⟩, rfl, ⟨rfl, rfl⟩, rfl, trivial⟩
            · replace h := iteF h g290
              conv => whnf
              exact CutK.piece (laws_FnHydrasOfOrdinals_p12_ct  h) [some 320, some 384, some 640, some 1024, some 1152, some 1119000, some 1119001, some 4416] [] ⟨⟨rfl, rfl⟩, ⟨rfl, ⟨rfl, ⟨rfl, rfl⟩, trivial⟩, ⟨rfl, rfl, trivial⟩, ⟨rfl, rfl, trivial⟩, ⟨rfl, ⟨rfl, rfl⟩, trivial⟩, ⟨rfl, ⟨rfl, rfl⟩, trivial⟩, ⟨rfl, rfl, rows_same⟩, ⟨rfl, rfl, rows_same⟩, ⟨rfl, rfl, rows_same⟩, trivial⟩, ⟨rfl, rfl⟩, ⟨rfl, rfl⟩, ⟨rfl, rfl⟩, rfl, rfl, rfl, rfl, rfl, ⟨rfl, rfl⟩, rfl, ⟨rfl, rfl⟩, rfl, trivial⟩
        · replace h := condT h
          cases v126
          · replace h := condF h
            conv => whnf
            refine Pick.no ?_
            conv => whnf
            obtain ⟨y291, e292, h⟩ := bind_ex h
            refine CallOk.of (impl_HydraOrdinal_ct e292) ?_
            conv => whnf
            refine spl (fun g293 => ?_) (fun g293 => ?_)
            · replace h := iteT h g293
              conv => whnf
              exact CutK.piece (laws_FnHydrasOfOrdinals_p12_ct  h) [some 320, some 384, some 640, some 1024, some 1152, some 1119000, some 1119001, some 4416] [] ⟨⟨rfl, rfl⟩, ⟨rfl, ⟨rfl, ⟨rfl, rfl⟩, trivial⟩, ⟨rfl, rfl, trivial⟩, ⟨rfl, rfl, trivial⟩, ⟨rfl, ⟨rfl, rfl⟩, trivial⟩, ⟨rfl, ⟨rfl, rfl⟩, trivial⟩, ⟨rfl, rfl, rows_same⟩, ⟨rfl, rfl, rows_same⟩, ⟨rfl, rfl, rows_same⟩, trivial⟩, ⟨rfl, rfl⟩, ⟨rfl, rfl⟩, ⟨rfl, rfl⟩, rfl, rfl, rfl, rfl, rfl, ⟨rfl, rfl⟩, rfl, ⟨rfl, rfl⟩, rfl, trivial⟩
            · replace h := iteF h g293
              conv => whnf
              exact CutK.piece (laws_FnHydrasOfOrdinals_p12_ct  h) [some 320, some 384, some 640, some 1024, some 1152, some 1119000, some 1119001, some 4416] [] ⟨⟨rfl, rfl⟩, ⟨rfl, ⟨rfl, ⟨rfl, rfl⟩, trivial⟩, ⟨rfl, rfl, trivial⟩, ⟨rfl, rfl, trivial⟩, ⟨rfl, ⟨rfl, rfl⟩, trivial⟩, ⟨rfl, ⟨rfl, rfl⟩, trivial⟩, ⟨rfl, rfl, rows_same⟩, ⟨rfl, rfl, rows_same⟩, ⟨rfl, rfl, rows_same⟩, trivial⟩, ⟨rfl, rfl⟩, ⟨rfl, rfl⟩, ⟨rfl, rfl⟩, rfl, rfl, rfl, rfl, rfl, ⟨rfl, rfl⟩, rfl, ⟨rfl, rfl⟩, rfl, trivial⟩
          · replace h := condT h
            conv => whnf
            refine Pick.no ?_
            conv => whnf
            obtain ⟨y294, e295, h⟩ := bind_ex h
            refine CallOk.of (impl_HydraOrdinal_ct e295) ?_
            conv => whnf
            refine spl (fun g296 => ?_) (fun g296 => ?_)
            · replace h := iteT h g296
              conv => whnf
              exact CutK.piece (laws_FnHydrasOfOrdinals_p12_ct  h) [some 320, some 384, some 640, some 1024, some 1152, some 1119000, some 1119001, some 4416] [] ⟨⟨rfl, rfl⟩, ⟨rfl, ⟨rfl, ⟨rfl, rfl⟩, trivial⟩, ⟨rfl, rfl, trivial⟩, ⟨rfl, rfl, trivial⟩, ⟨rfl, ⟨rfl, rfl⟩, trivial⟩, ⟨rfl, ⟨rfl, rfl⟩, trivial⟩, ⟨rfl, rfl, rows_same⟩, ⟨rfl, rfl, rows_same⟩, ⟨rfl, rfl, rows_same⟩, trivial⟩, ⟨rfl, rfl⟩, ⟨rfl, rfl⟩, ⟨rfl, rfl⟩, rfl, rfl, rfl, rfl, rfl, ⟨rfl, rfl⟩, rfl, ⟨rfl, rfl⟩, rfl, trivial⟩
            · replace h := iteF h g296
              conv => whnf
              exact CutK.piece (laws_FnHydrasOfOrdinals_p12_ct  h) [some 320, some 384, some 640, some 1024, some 1152, some 1119000, some 1119001, some 4416] [] ⟨⟨rfl, rfl⟩, ⟨rfl, ⟨rfl, ⟨rfl, rfl⟩, trivial⟩, ⟨rfl, rfl, trivial⟩, ⟨rfl, rfl, trivial⟩, ⟨rfl, ⟨rfl, rfl⟩, trivial⟩, ⟨rfl, ⟨rfl, rfl⟩, trivial⟩, ⟨rfl, rfl, rows_same⟩, ⟨rfl, rfl, rows_same⟩, ⟨rfl, rfl, rows_same⟩, trivial⟩, ⟨rfl, rfl⟩, ⟨rfl, rfl⟩, ⟨rfl, rfl⟩, rfl, rfl, rfl, rfl, rfl, ⟨rfl, rfl⟩, rfl, ⟨rfl, rfl⟩, rfl, trivial⟩
    · replace h := condT h
      cases v106
      · replace h := condF h
        cases v113
        · replace h := condF h
          cases v126
          · replace h := condF h
            conv => whnf
            refine Pick.no ?_
            conv => whnf
            obtain ⟨y297, e298, h⟩ := bind_ex h
            refine CallOk.of (impl_HydraOrdinal_ct e298) ?_
            conv => whnf
            refine spl (fun g299 => ?_) (fun g299 => ?_)
            · replace h := iteT h g299
              conv => whnf
              exact CutK.piece (laws_FnHydrasOfOrdinals_p12_ct  h) [some 320, some 384, some 640, some 1024, some 1152, some 1119000, some 1119001, some 4416] [] ⟨⟨rfl, rfl⟩, ⟨rfl, ⟨rfl, ⟨rfl, rfl⟩, trivial⟩, ⟨rfl, rfl, trivial⟩, ⟨rfl, rfl, trivial⟩, ⟨rfl, ⟨rfl, rfl⟩, trivial⟩, ⟨rfl, ⟨rfl, rfl⟩, trivial⟩, ⟨rfl, rfl, rows_same⟩, ⟨rfl, rfl, rows_same⟩, ⟨rfl, rfl, rows_same⟩, trivial⟩, ⟨rfl, rfl⟩, ⟨rfl, rfl⟩, ⟨rfl, rfl⟩, rfl, rfl, rfl, rfl, rfl, ⟨rfl, rfl⟩, rfl, ⟨rfl, rfl⟩, rfl, trivial⟩
            · replace h := iteF h g299
              conv => whnf
              exact CutK.piece (laws_FnHydrasOfOrdinals_p12_ct  h) [some 320, some 384, some 640, some 1024, some 1152, some 1119000, some 1119001, some 4416] [] ⟨⟨rfl, rfl⟩, ⟨rfl, ⟨rfl, ⟨rfl, rfl⟩, trivial⟩, ⟨rfl, rfl, trivial⟩, ⟨rfl, rfl, trivial⟩, ⟨rfl, ⟨rfl, rfl⟩, trivial⟩, ⟨rfl, ⟨rfl, rfl⟩, trivial⟩, ⟨rfl, rfl, rows_same⟩, ⟨rfl, rfl, rows_same⟩, ⟨rfl, rfl, rows_same⟩, trivial⟩, ⟨rfl, rfl⟩, ⟨rfl, rfl⟩, ⟨rfl, rfl⟩, rfl, rfl, rfl, rfl, rfl, ⟨rfl, rfl⟩, rfl, ⟨rfl, rfl⟩, rfl, trivial⟩
          · replace h := condT h
            conv => whnf
            refine Pick.no ?_
            conv => whnf
            obtain ⟨y300, e301, h⟩ := bind_ex h
            refine CallOk.of (impl_HydraOrdinal_ct e301) ?_
            conv => whnf
            refine spl (fun g302 => ?_) (fun g302 => ?_)
            · replace h := iteT h g302
              conv => whnf
              exact CutK.piece (laws_FnHydrasOfOrdinals_p12_ct  h) [some 320, some 384, some 640, some 1024, some 1152, some 1119000, some 1119001, some 4416] [] ⟨⟨rfl, rfl⟩, ⟨rfl, ⟨rfl, ⟨rfl, rfl⟩, trivial⟩, ⟨rfl, rfl, trivial⟩, ⟨rfl, rfl, trivial⟩, ⟨rfl, ⟨rfl, rfl⟩, trivial⟩, ⟨rfl, ⟨rfl, rfl⟩, trivial⟩, ⟨rfl, rfl, rows_same⟩, ⟨rfl, rfl, rows_same⟩, ⟨rfl, rfl, rows_same⟩, trivial⟩, ⟨rfl, rfl⟩, ⟨rfl, rfl⟩, ⟨rfl, rfl⟩, rfl, rfl, rfl, rfl, rfl, ⟨rfl, rfl⟩, rfl, ⟨rfl, rfl⟩, rfl, trivial⟩
            · replace h := iteF h g302
              conv => whnf
              exact CutK.piece (laws_FnHydrasOfOrdinals_p12_ct  h) [some 320, some 384, some 640, some 1024, some 1152, some 1119000, some 1119001, some 4416] [] ⟨⟨rfl, rfl⟩, ⟨rfl, ⟨rfl, ⟨rfl, rfl⟩, trivial⟩, ⟨rfl, rfl, trivial⟩, ⟨rfl, rfl, trivial⟩, ⟨rfl, ⟨rfl, rfl⟩, trivial⟩, ⟨rfl, ⟨rfl, rfl⟩, trivial⟩, ⟨rfl, rfl, rows_same⟩, ⟨rfl, rfl, rows_same⟩, ⟨rfl, rfl, rows_same⟩, trivial⟩, ⟨rfl, rfl⟩, ⟨rfl, rfl⟩, ⟨rfl, rfl⟩, rfl, rfl, rfl, rfl, rfl, ⟨rfl, rfl⟩, rfl, ⟨rfl, rfl⟩, rfl, trivial⟩
        · replace h := condT h
          cases v126
          · replace h := condF h
            conv => whnf
            refine Pick.no ?_
            conv => whnf
            obtain ⟨y303, e304, h⟩ := bind_ex h
            refine CallOk.of (impl_HydraOrdinal_ct e304) ?_
            conv => whnf
            refine spl (fun g305 => ?_) (fun g305 => ?_)
            · replace h := iteT h g305
              conv => whnf
              exact CutK.piece (laws_FnHydrasOfOrdinals_p12_ct  h) [some 320, some 384, some 640, some 1024, some 1152, some 1119000, some 1119001, some 4416] [] ⟨⟨rfl, rfl⟩, ⟨rfl, ⟨rfl, ⟨rfl, rfl⟩, trivial⟩, ⟨rfl, rfl, trivial⟩, ⟨rfl, rfl, trivial⟩, ⟨rfl, ⟨rfl, rfl⟩, trivial⟩, ⟨rfl, ⟨rfl, rfl⟩, trivial⟩, ⟨rfl, rfl, rows_same⟩, ⟨rfl, rfl, rows_same⟩, ⟨rfl, rfl, rows_same⟩, trivial⟩, ⟨rfl, rfl⟩, ⟨rfl, rfl⟩, ⟨rfl, rfl⟩, rfl, rfl, rfl, rfl, rfl, ⟨rfl, rfl⟩, rfl, ⟨rfl, rfl⟩, rfl, trivial⟩
            · replace h := iteF h g305
              conv => whnf
              exact CutK.piece (laws_FnHydrasOfOrdinals_p12_ct  h) [some 320, some 384, some 640, some 1024, some 1152, some 1119000, some 1119001, some 4416] [] ⟨⟨rfl, rfl⟩, ⟨rfl, ⟨rfl, ⟨rfl, rfl⟩, trivial⟩, ⟨rfl, rfl, trivial⟩, ⟨rfl, rfl, trivial⟩, ⟨rfl, ⟨rfl, rfl⟩, trivial⟩, ⟨rfl, ⟨rfl, rfl⟩, trivial⟩, ⟨rfl, rfl, rows_same⟩, ⟨rfl, rfl, rows_same⟩, ⟨rfl, rfl, rows_same⟩, trivial⟩, ⟨rfl, rfl⟩, ⟨rfl, rfl⟩, ⟨rfl, rfl⟩, rfl, rfl, rfl, rfl, rfl, ⟨rfl, rfl⟩, rfl, ⟨rfl, rfl⟩, rfl, trivial⟩
          · replace h := condT h
            conv => whnf
            refine Pick.no ?_
            conv => whnf
            obtain ⟨y306, e307, h⟩ := bind_ex h
            refine CallOk.of (impl_HydraOrdinal_ct e307) ?_
            conv => whnf
            refine spl (fun g308 => ?_) (fun g308 => ?_)
            · replace h := iteT h g308
              conv => whnf
              exact CutK.piece (laws_FnHydrasOfOrdinals_p12_ct  h) [some 320, some 384, some 640, some 1024, some 1152, some 1119000, some 1119001, some 4416] [] ⟨⟨rfl, rfl⟩, ⟨rfl, ⟨rfl, ⟨rfl, rfl⟩, trivial⟩, ⟨rfl, rfl, trivial⟩, ⟨rfl, rfl, trivial⟩, ⟨rfl, ⟨rfl, rfl⟩, trivial⟩, ⟨rfl, ⟨rfl, rfl⟩, trivial⟩, ⟨rfl, rfl, rows_same⟩, ⟨rfl, rfl, rows_same⟩, ⟨rfl, rfl, rows_same⟩, trivial⟩, ⟨rfl, rfl⟩, ⟨rfl, rfl⟩, ⟨rfl, rfl⟩, rfl, rfl, rfl, rfl, rfl, ⟨rfl, rfl⟩, rfl, ⟨rfl, rfl⟩, rfl, trivial⟩
            · replace h := iteF h g308
              conv => whnf
              exact CutK.piece (laws_FnHydrasOfOrdinals_p12_ct  h) [some 320, some 384, some 640, some 1024, some 1152, some 1119000, some 1119001, some 4416] [] ⟨⟨rfl, rfl⟩, ⟨rfl, ⟨rfl, ⟨rfl, rfl⟩, trivial⟩, ⟨rfl, rfl, trivial⟩, ⟨rfl, rfl, trivial⟩, ⟨rfl, ⟨rfl, rfl⟩, trivial⟩, ⟨rfl, ⟨rfl, rfl⟩, trivial⟩, ⟨rfl, rfl, rows_same⟩, ⟨rfl, rfl, rows_same⟩, ⟨rfl, rfl, rows_same⟩, trivial⟩, ⟨rfl, rfl⟩, ⟨rfl, rfl⟩, ⟨rfl, rfl⟩, rfl, rfl, rfl, rfl, rfl, ⟨rfl, rfl⟩, rfl, ⟨rfl, rfl⟩, rfl, trivial⟩
      · replace h := condT h
        cases v113
        · replace h := condF h
          cases v126
          · replace h := condF h
            conv => whnf
            refine Pick.no ?_
            conv => whnf
            obtain ⟨y309, e310, h⟩ := bind_ex h
            refine CallOk.of (impl_HydraOrdinal_ct e310) ?_
            conv => whnf
            refine spl (fun g311 => ?_) (fun g311 => ?_)
            · replace h := iteT h g311
              conv => whnf
              exact CutK.piece (laws_FnHydrasOfOrdinals_p12_ct  h) [some 320, some 384, some 640, some 1024, some 1152, some 1119000, some 1119001, some 4416] [] ⟨⟨rfl, rfl⟩, ⟨rfl, ⟨rfl, ⟨rfl, rfl⟩, trivial⟩, ⟨rfl, rfl, trivial⟩, ⟨rfl, rfl, trivial⟩, ⟨rfl, ⟨rfl, rfl⟩, trivial⟩, ⟨rfl, ⟨rfl, rfl⟩, trivial⟩, ⟨rfl, rfl, rows_same⟩, ⟨rfl, rfl, rows_same⟩, ⟨rfl, rfl, rows_same⟩, trivial⟩, ⟨rfl, rfl⟩, ⟨rfl, rfl⟩, ⟨rfl, rfl⟩, rfl, rfl, rfl, rfl, rfl, ⟨rfl, rfl⟩, rfl, ⟨rfl, rfl⟩, rfl, trivial⟩
            · replace h := iteF h g311
              conv => whnf
              exact CutK.piece (laws_FnHydrasOfOrdinals_p12_ct  h) [some 320, some 384, some 640, some 1024, some 1152, some 1119000, some 1119001, some 4416] [] ⟨⟨rfl, rfl⟩, ⟨rfl, ⟨rfl, ⟨rfl, rfl⟩, trivial⟩, ⟨rfl, rfl, trivial⟩, ⟨rfl, rfl, trivial⟩, ⟨rfl, ⟨rfl, rfl⟩, trivial⟩, ⟨rfl, ⟨rfl, rfl⟩, trivial⟩, ⟨rfl, rfl, rows_same⟩, ⟨rfl, rfl, rows_same⟩, ⟨rfl, rfl, rows_same⟩, trivial⟩, ⟨rfl, rfl⟩, ⟨rfl, rfl⟩, ⟨rfl, rfl⟩, rfl, rfl, rfl, rfl, rfl, ⟨rfl, rfl⟩, rfl, ⟨rfl, rfl⟩, rfl, trivial⟩
          · replace h := condT h
            conv => whnf
            refine Pick.no ?_
            conv => whnf
            obtain ⟨y312, e313, h⟩ := bind_ex h
            refine CallOk.of (impl_HydraOrdinal_ct e313) ?_
            conv => whnf
            refine spl (fun g314 => ?_) (fun g314 => ?_)
            · replace h := iteT h g314
              conv => whnf
              exact CutK.piece (laws_FnHydrasOfOrdinals_p12_ct  h) [some 320, some 384, some 640, some 1024, some 1152, some 1119000, some 1119001, some 4416] [] ⟨⟨rfl, rfl⟩, ⟨rfl, ⟨rfl, ⟨rfl, rfl⟩, trivial⟩, ⟨rfl, rfl, trivial⟩, ⟨rfl, rfl, trivial⟩, ⟨rfl, ⟨rfl, rfl⟩, trivial⟩, ⟨rfl, ⟨rfl, rfl⟩, trivial⟩, ⟨rfl, rfl, rows_same⟩, ⟨rfl, rfl, rows_same⟩, ⟨rfl, rfl, rows_same⟩, trivial⟩, ⟨rfl, rfl⟩, ⟨rfl, rfl⟩, ⟨rfl, rfl⟩, rfl, rfl, rfl, rfl, rfl, ⟨rfl, rfl⟩, rfl, ⟨rfl, rfl⟩, rfl, trivial⟩
            · replace h := iteF h g314
              conv => whnf
              exact CutK.piece (laws_FnHydrasOfOrdinals_p12_ct  h) [some 320, some 384, some 640, some 1024, some 1152, some 1119000, some 1119001, some 4416] [] ⟨⟨rfl, rfl⟩, ⟨rfl, ⟨rfl, ⟨rfl, rfl⟩, trivial⟩, ⟨rfl, rfl, trivial⟩, ⟨rfl, rfl, trivial⟩, ⟨rfl, ⟨rfl, rfl⟩, trivial⟩, ⟨rfl, ⟨rfl, rfl⟩, trivial⟩, ⟨rfl, rfl, rows_same⟩, ⟨rfl, rfl, rows_same⟩, ⟨rfl, rfl, rows_same⟩, trivial⟩, ⟨rfl, rfl⟩, ⟨rfl, rfl⟩, ⟨rfl, rfl⟩, rfl, rfl, rfl, rfl, rfl, ⟨rfl, rfl⟩, rfl, ⟨rfl, rfl⟩, rfl, trivial⟩
        · replace h := condT h
          cases v126
          · replace h := condF h
            conv => whnf
            refine Pick.no ?_
            conv => whnf
            obtain ⟨y315, e316, h⟩ := bind_ex h
            refine CallOk.of (impl_HydraOrdinal_ct e316) ?_
            conv => whnf
            refine spl (fun g317 => ?_) (fun g317 => ?_)
            · replace h := iteT h g317
              conv => whnf
              exact CutK.piece (laws_FnHydrasOfOrdinals_p12_ct  h) [some 320, some 384, some 640, some 1024, some 1152, some 1119000, some 1119001, some 4416] [] ⟨⟨rfl, rfl⟩, ⟨rfl, ⟨rfl, ⟨rfl, rfl⟩, trivial⟩, ⟨rfl, rfl, trivial⟩, ⟨rfl, rfl, trivial⟩, ⟨rfl, ⟨rfl, rfl⟩, trivial⟩, ⟨rfl, ⟨rfl, rfl⟩, trivial⟩, ⟨rfl, rfl, rows_same⟩, ⟨rfl, rfl, rows_same⟩, ⟨rfl, rfl, rows_same⟩, trivial⟩, ⟨rfl, rfl⟩, ⟨rfl, rfl⟩, ⟨rfl, rfl⟩, rfl, rfl, rfl, rfl, rfl, ⟨rfl, rfl⟩, rfl, ⟨rfl, rfl⟩, rfl, trivial⟩
            · replace h := iteF h g317
              conv => whnf
              exact CutK.piece (laws_FnHydrasOfOrdinals_p12_ct  h) [some 320, some 384, some 640, some 1024, some 1152, some 1119000, some 1119001, some 4416] [] ⟨⟨rfl, rfl⟩, ⟨rfl, ⟨rfl, ⟨rfl, rfl⟩, trivial⟩, ⟨rfl, rfl, trivial⟩, ⟨rfl, rfl, trivial⟩, ⟨rfl, ⟨rfl, rfl⟩, trivial⟩, ⟨rfl, ⟨rfl, rfl⟩, trivial⟩, ⟨rfl, rfl, rows_same⟩, ⟨rfl, rfl, rows_same⟩, ⟨rfl, rfl, rows_same⟩, trivial⟩, ⟨rfl, rfl⟩, ⟨rfl, rfl⟩, ⟨rfl, rfl⟩, rfl, rfl, rfl, rfl, rfl, ⟨rfl, rfl⟩, rfl, ⟨rfl, rfl⟩, rfl, trivial⟩
          · replace h := condT h
            conv => whnf
            refine Pick.no ?_
            conv => whnf
            obtain ⟨y318, e319, h⟩ := bind_ex h
            refine CallOk.of (impl_HydraOrdinal_ct e319) ?_
            conv => whnf
            refine spl (fun g320 => ?_) (fun g320 => ?_)
            · replace h := iteT h g320
              conv => whnf
              exact CutK.piece (laws_FnHydrasOfOrdinals_p12_ct  h) [some 320, some 384, some 640, some 1024, some 1152, some 1119000, some 1119001, some 4416] [] ⟨⟨rfl, rfl⟩, ⟨rfl, ⟨rfl, ⟨rfl, rfl⟩, trivial⟩, ⟨rfl, rfl, trivial⟩, ⟨rfl, rfl, trivial⟩, ⟨rfl, ⟨rfl, rfl⟩, trivial⟩, ⟨rfl, ⟨rfl, rfl⟩, trivial⟩, ⟨rfl, rfl, rows_same⟩, ⟨rfl, rfl, rows_same⟩, ⟨rfl, rfl, rows_same⟩, trivial⟩, ⟨rfl, rfl⟩, ⟨rfl, rfl⟩, ⟨rfl, rfl⟩, rfl, rfl, rfl, rfl, rfl, ⟨rfl, rfl⟩, rfl, ⟨rfl, rfl⟩, rfl, trivial⟩
            · replace h := iteF h g320
              conv => whnf
              exact CutK.piece (laws_FnHydrasOfOrdinals_p12_ct  h) [some 320, some 384, some 640, some 1024, some 1152, some 1119000, some 1119001, some 4416] [] ⟨⟨rfl, rfl⟩, ⟨rfl, ⟨rfl, ⟨rfl, rfl⟩, trivial⟩, ⟨rfl, rfl, trivial⟩, ⟨rfl, rfl, trivial⟩, ⟨rfl, ⟨rfl, rfl⟩, trivial⟩, ⟨rfl, ⟨rfl, rfl⟩, trivial⟩, ⟨rfl, rfl, rows_same⟩, ⟨rfl, rfl, rows_same⟩, ⟨rfl, rfl, rows_same⟩, trivial⟩, ⟨rfl, rfl⟩, ⟨rfl, rfl⟩, ⟨rfl, rfl⟩, rfl, rfl, rfl, rfl, rfl, ⟨rfl, rfl⟩, rfl, ⟨rfl, rfl⟩, rfl, trivial⟩
  · replace h := condT h
    cases v102
    · replace h := condF h
      cases v106
      · replace h := condF h
        cases v113
        · replace h := condF h
          cases v126
          · replace h := condF h
            conv => whnf
            refine Pick.no ?_
            conv => whnf
            obtain ⟨y321, e322, h⟩ := bind_ex h
            refine CallOk.of (impl_HydraOrdinal_ct e322) ?_
            conv => whnf
            refine spl (fun g323 => ?_) (fun g323 => ?_)
            · replace h := iteT h g323
              conv => whnf
              exact CutK.piece (laws_FnHydrasOfOrdinals_p12_ct  h) [some 320, some 384, some 640, some 1024, some 1152, some 1119000, some 1119001, some 4416] [] ⟨⟨rfl, rfl⟩, ⟨rfl, ⟨rfl, ⟨rfl, rfl⟩, trivial⟩, ⟨rfl, rfl, trivial⟩, ⟨rfl, rfl, trivial⟩, ⟨rfl, ⟨rfl, rfl⟩, trivial⟩, ⟨rfl, ⟨rfl, rfl⟩, trivial⟩, ⟨rfl, rfl, rows_same⟩, ⟨rfl, rfl, rows_same⟩, ⟨rfl, rfl, rows_same⟩, trivial⟩, ⟨rfl, rfl⟩, ⟨rfl, rfl⟩, ⟨rfl, rfl⟩, rfl, rfl, rfl, rfl, rfl, ⟨rfl, rfl⟩, rfl, ⟨rfl, rfl⟩, rfl, trivial⟩
            · replace h := iteF h g323
              conv => whnf
              exact CutK.piece (laws_FnHydrasOfOrdinals_p12_ct  h) [some 320, some 384, some 640, some 1024, some 1152, some 1119000, some 1119001, some 4416] [] ⟨⟨rfl, rfl⟩, ⟨rfl, ⟨rfl, ⟨rfl, rfl⟩, trivial⟩, ⟨rfl, rfl, trivial⟩, ⟨rfl, rfl, trivial⟩, ⟨rfl, ⟨rfl, rfl⟩, trivial⟩, ⟨rfl, ⟨rfl, rfl⟩, trivial⟩, ⟨rfl, rfl, rows_same⟩, ⟨rfl, rfl, rows_same⟩, ⟨rfl, rfl, rows_same⟩, trivial⟩, ⟨rfl, rfl⟩, ⟨rfl, rfl⟩, ⟨rfl, rfl⟩, rfl, rfl, rfl, rfl, rfl, ⟨rfl, rfl⟩, rfl, ⟨rfl, rfl⟩, rfl, trivial⟩
          · replace h := condT h
            conv => whnf
            refine Pick.no ?_
            conv => whnf
            obtain ⟨y324, e325, h⟩ := bind_ex h
            refine CallOk.of (impl_HydraOrdinal_ct e325) ?_
            conv => whnf
            refine spl (fun g326 => ?_) (fun g326 => ?_)
            · replace h := iteT h g326
              conv => whnf
              exact CutK.piece (laws_FnHydrasOfOrdinals_p12_ct  h) [some 320, some 384, some 640, some 1024, some 1152, some 1119000, some 1119001, some 4416] [] ⟨⟨rfl, rfl⟩, ⟨rfl, ⟨rfl, ⟨rfl, rfl⟩, trivial⟩, ⟨rfl, rfl, trivial⟩, ⟨rfl, rfl, trivial⟩, ⟨rfl, ⟨rfl, rfl⟩, trivial⟩, ⟨rfl, ⟨rfl, rfl⟩, trivial⟩, ⟨rfl, rfl, rows_same⟩, ⟨rfl, rfl, rows_same⟩, ⟨rfl, rfl, rows_same⟩, trivial⟩, ⟨rfl, rfl⟩, ⟨rfl, rfl⟩, ⟨rfl, rfl⟩, rfl, rfl, rfl, rfl, rfl, ⟨rfl, rfl⟩, rfl, ⟨rfl, rfl⟩, rfl, trivial⟩
            · replace h := iteF h g326
              conv => whnf
              exact CutK.piece (laws_FnHydrasOfOrdinals_p12_ct  h) [some 320, some 384, some 640, some 1024, some 1152, some 1119000, some 1119001, some 4416] [] ⟨⟨rfl, rfl⟩, ⟨rfl, ⟨rfl, ⟨rfl, rfl⟩, trivial⟩, ⟨rfl, rfl, trivial⟩, ⟨rfl, rfl, trivial⟩, ⟨rfl, ⟨rfl, rfl⟩, trivial⟩, ⟨rfl, ⟨rfl, rfl⟩, trivial⟩, ⟨rfl, rfl, rows_same⟩, ⟨rfl, rfl, rows_same⟩, ⟨rfl, rfl, rows_same⟩, trivial⟩, ⟨rfl, rfl⟩, ⟨rfl, rfl⟩, ⟨rfl, rfl⟩, rfl, rfl, rfl, rfl, rfl, ⟨rfl, rfl⟩, rfl, ⟨rfl, rfl⟩, rfl, trivial⟩
        · replace h := condT h
          cases v126
          · replace h := condF h
            conv => whnf
            refine Pick.no ?_
            conv => whnf
            obtain ⟨y327, e328, h⟩ := bind_ex h
            refine CallOk.of (impl_HydraOrdinal_ct e328) ?_
            conv => whnf
            refine spl (fun g329 => ?_) (fun g329 => ?_)
            · replace h := iteT h g329
              conv => whnf
              exact CutK.piece (laws_FnHydrasOfOrdinals_p12_ct  h) [some 320, some 384, some 640, some 1024, some 1152, some 1119000, some 1119001, some 4416] [] ⟨⟨rfl, rfl⟩, ⟨rfl, ⟨rfl, ⟨rfl, rfl⟩, trivial⟩, ⟨rfl, rfl, trivial⟩, ⟨rfl, rfl, trivial⟩, ⟨rfl, ⟨rfl, rfl⟩, trivial⟩, ⟨rfl, ⟨rfl, rfl⟩, trivial⟩, ⟨rfl, rfl, rows_same⟩, ⟨rfl, rfl, rows_same⟩, ⟨rfl, rfl, rows_same⟩, trivial⟩, ⟨rfl, rfl⟩, ⟨rfl, rfl⟩, ⟨rfl, rfl⟩, rfl, rfl, rfl, rfl, rfl, ⟨rfl, rfl⟩, rfl, ⟨rfl, rfl⟩, rfl, trivial⟩
            · replace h := iteF h g329
              conv => whnf
              exact CutK.piece (laws_FnHydrasOfOrdinals_p12_ct  h) [some 320, some 384, some 640, some 1024, some 1152, some 1119000, some 1119001, some 4416] [] ⟨⟨rfl, rfl⟩, ⟨rfl, ⟨rfl, ⟨rfl, rfl⟩, trivial⟩, ⟨rfl, rfl, trivial⟩, ⟨rfl, rfl, trivial⟩, ⟨rfl, ⟨rfl, rfl⟩, trivial⟩, ⟨rfl, ⟨rfl, rfl⟩, trivial⟩, ⟨rfl, rfl, rows_same⟩, ⟨rfl, rfl, rows_same⟩, ⟨rfl, rfl, rows_same⟩, trivial⟩, ⟨rfl, rfl⟩, ⟨rfl, rfl⟩, ⟨rfl, rfl⟩, rfl, rfl, rfl, rfl, rfl, ⟨rfl, rfl⟩, rfl, ⟨rfl, rfl⟩, rfl, trivial⟩
          · replace h := condT h
            conv => whnf
            refine Pick.no ?_
            conv => whnf
            obtain ⟨y330, e331, h⟩ := bind_ex h
            refine CallOk.of (impl_HydraOrdinal_ct e331) ?_
            conv => whnf
            refine spl (fun g332 => ?_) (fun g332 => ?_)
            · replace h := iteT h g332
              conv => whnf
              exact CutK.piece (laws_FnHydrasOfOrdinals_p12_ct  h) [some 320, some 384, some 640, some 1024, some 1152, some 1119000, some 1119001, some 4416] [] ⟨⟨rfl, rfl⟩, ⟨rfl, ⟨rfl, ⟨rfl, rfl⟩, trivial⟩, ⟨rfl, rfl, trivial⟩, ⟨rfl, rfl, trivial⟩, ⟨rfl, ⟨rfl, rfl⟩, trivial⟩, ⟨rfl, ⟨rfl, rfl⟩, trivial⟩, ⟨rfl, rfl, rows_same⟩, ⟨rfl, rfl, rows_same⟩, ⟨rfl, rfl, rows_same⟩, trivial⟩, ⟨rfl, rfl⟩, ⟨rfl, rfl⟩, ⟨rfl, rfl⟩, rfl, rfl, rfl, rfl, rfl, ⟨rfl, rfl⟩, rfl, ⟨rfl, rfl⟩, rfl, trivial⟩
            · replace h := iteF h g332
              conv => whnf
              exact CutK.piece (laws_FnHydrasOfOrdinals_p12_ct  h) [some 320, some 384, some 640, some 1024, some 1152, some 1119000, some 1119001, some 4416] [] ⟨⟨rfl, rfl⟩, ⟨rfl, ⟨rfl, ⟨rfl, rfl⟩, trivial⟩, ⟨rfl, rfl, trivial⟩, ⟨rfl, rfl, trivial⟩, ⟨rfl, ⟨rfl, rfl⟩, trivial⟩, ⟨rfl, ⟨rfl, rfl⟩, trivial⟩, ⟨rfl, rfl, rows_same⟩, ⟨rfl, rfl, rows_same⟩, ⟨rfl, rfl, rows_same⟩, trivial⟩, ⟨rfl, rfl⟩, ⟨rfl, rfl⟩, ⟨rfl, rfl⟩, rfl, rfl, rfl, rfl, rfl, ⟨rfl, rfl⟩, rfl, ⟨rfl, rfl⟩, rfl, trivial⟩
      · replace h := condT h
        cases v113
        · replace h := condF h
          cases v126
          · replace h := condF h
            conv => whnf
            refine Pick.no ?_
            conv => whnf
            obtain ⟨y333, e334, h⟩ := bind_ex h
            refine CallOk.of (impl_HydraOrdinal_ct e334) ?_
            conv => whnf
            refine spl (fun g335 => ?_) (fun g335 => ?_)
            · replace h := iteT h g335
              conv => whnf
              exact CutK.piece (laws_FnHydrasOfOrdinals_p12_ct  h) [some 320, some 384, some 640, some 1024, some 1152, some 1119000, some 1119001, some 4416] [] ⟨⟨rfl, rfl⟩, ⟨rfl, ⟨rfl, ⟨rfl, rfl⟩, trivial⟩, ⟨rfl, rfl, trivial⟩, ⟨rfl, rfl, trivial⟩, ⟨rfl, ⟨rfl, rfl⟩, trivial⟩, ⟨rfl, ⟨rfl, rfl⟩, trivial⟩, ⟨rfl, rfl, rows_same⟩, ⟨rfl, rfl, rows_same⟩, ⟨rfl, rfl, rows_same⟩, trivial⟩, ⟨rfl, rfl⟩, ⟨rfl, rfl⟩, ⟨rfl, rfl⟩, rfl, rfl, rfl, rfl, rfl, ⟨rfl, rfl⟩, rfl, ⟨rfl, rfl⟩, rfl, trivial⟩
            · replace h := iteF h g335
              conv => whnf
              exact CutK.piece (laws_FnHydrasOfOrdinals_p12_ct  h) [some 320, some 384, some 640, some 1024, some 1152, some 1119000, some 1119001, some 4416] [] ⟨⟨rfl, rfl⟩, ⟨rfl, ⟨rfl, ⟨rfl, rfl⟩, trivial⟩, ⟨rfl, rfl, trivial⟩, ⟨rfl, rfl, trivial⟩, ⟨rfl, ⟨rfl, rfl⟩, trivial⟩, ⟨rfl, ⟨rfl, rfl⟩, trivial⟩, ⟨rfl, rfl, rows_same⟩, ⟨rfl, rfl, rows_same⟩, ⟨rfl, rfl, rows_same⟩, trivial⟩, ⟨rfl, rfl⟩, ⟨rfl, rfl⟩, ⟨rfl, rfl⟩, rfl, rfl, rfl, rfl, rfl, ⟨rfl, rfl⟩, rfl, ⟨rfl, rfl⟩, rfl, trivial⟩
          · replace h := condT h
            conv => whnf
            refine Pick.no ?_
            conv => whnf
            obtain ⟨y336, e337, h⟩ := bind_ex h
            refine CallOk.of (impl_HydraOrdinal_ct e337) ?_
            conv => whnf
            refine spl (fun g338 => ?_) (fun g338 => ?_)
            · replace h := iteT h g338
              conv => whnf
              exact CutK.piece (laws_FnHydrasOfOrdinals_p12_ct  h) [some 320, some 384, some 640, some 1024, some 1152, some 1119000, some 1119001, some 4416] [] ⟨⟨rfl, rfl⟩, ⟨rfl, ⟨rfl, ⟨rfl, rfl⟩, trivial⟩, ⟨rfl, rfl, trivial⟩, ⟨rfl, rfl, trivial⟩, ⟨rfl, ⟨rfl, rfl⟩, trivial⟩, ⟨rfl, ⟨rfl, rfl⟩, trivial⟩, ⟨rfl, rfl, rows_same⟩, ⟨rfl, rfl, rows_same⟩, ⟨rfl, rfl, rows_same⟩, trivial⟩, ⟨rfl, rfl⟩, ⟨rfl, rfl⟩, ⟨rfl, rfl⟩, rfl, rfl, rfl, rfl, rfl, ⟨rfl, rfl⟩, rfl, ⟨rfl, rfl⟩, rfl, trivial⟩
            · replace h := iteF h g338
              conv => whnf
              exact CutK.piece (laws_FnHydrasOfOrdinals_p12_ct  h) [some 320, some 384, some 640, some 1024, some 1152, some 1119000, some 1119001, some 4416] [] ⟨⟨rfl, rfl⟩, ⟨rfl, ⟨rfl, ⟨rfl, rfl⟩, trivial⟩, ⟨rfl, rfl, trivial⟩, ⟨rfl, rfl, trivial⟩, ⟨rfl, ⟨rfl, rfl⟩, trivial⟩, ⟨rfl, ⟨rfl, rfl⟩, trivial⟩, ⟨rfl, rfl, rows_same⟩, ⟨rfl, rfl, rows_same⟩, ⟨rfl, rfl, rows_same⟩, trivial⟩, ⟨rfl, rfl⟩, ⟨rfl, rfl⟩, ⟨rfl, rfl⟩, rfl, rfl, rfl, rfl, rfl, ⟨rfl, rfl⟩, rfl, ⟨rfl, rfl⟩, rfl, trivial⟩
        · replace h := condT h
          cases v126
          · replace h := condF h
            conv => whnf
            refine Pick.no ?_
            conv => whnf
            obtain ⟨y339, e340, h⟩ := bind_ex h
            refine CallOk.of (impl_HydraOrdinal_ct e340) ?_
            conv => whnf
            refine spl (fun g341 => ?_) (fun g341 => ?_)
            · replace h := iteT h g341
              conv => whnf
              exact CutK.piece (laws_FnHydrasOfOrdinals_p12_ct  h) [some 320, some 384, some 640, some 1024, some 1152, some 1119000, some 1119001, some 4416] [] ⟨⟨rfl, rfl⟩, ⟨rfl, ⟨rfl, ⟨rfl, rfl⟩, trivial⟩, ⟨rfl, rfl, trivial⟩, ⟨rfl, rfl, trivial⟩, ⟨rfl, ⟨rfl, rfl⟩, trivial⟩, ⟨rfl, ⟨rfl, rfl⟩, trivial⟩, ⟨rfl, rfl, rows_same⟩, ⟨rfl, rfl, rows_same⟩, ⟨rfl, rfl, rows_same⟩, trivial⟩, ⟨rfl, rfl⟩, ⟨rfl, rfl⟩, ⟨rfl, rfl⟩, rfl, rfl, rfl, rfl, rfl, ⟨rfl, rfl⟩, rfl, ⟨rfl, rfl⟩, rfl, trivial⟩
            · replace h := iteF h g341
              conv => whnf
              exact CutK.piece (laws_FnHydrasOfOrdinals_p12_ct  h) [some 320, some 384, some 640, some 1024, some 1152, some 1119000, some 1119001, some 4416] [] ⟨⟨rfl, rfl⟩, ⟨rfl, ⟨rfl, ⟨rfl, rfl⟩, trivial⟩, ⟨rfl, rfl, trivial⟩, ⟨rfl, rfl, trivial⟩, ⟨rfl, ⟨rfl, rfl⟩, trivial⟩, ⟨rfl, ⟨rfl, rfl⟩, trivial⟩, ⟨rfl, rfl, rows_same⟩, ⟨rfl, rfl, rows_same⟩, ⟨rfl, rfl, rows_same⟩, trivial⟩, ⟨rfl, rfl⟩, ⟨rfl, rfl⟩, ⟨rfl, rfl⟩, rfl, rfl, rfl, rfl, rfl, ⟨rfl, rfl⟩, rfl, ⟨rfl, rfl⟩, rfl, trivial⟩
          · replace h := condT h
            conv => whnf
            refine Pick.no ?_
            conv => whnf
            obtain ⟨y342, e343, h⟩ := bind_ex h
            refine CallOk.of (impl_HydraOrdinal_ct e343) ?_
            conv => whnf
            refine spl (fun g344 => ?_) (fun g344 => ?_)
            · replace h := iteT h g344
              conv => whnf
              exact CutK.piece (laws_FnHydrasOfOrdinals_p12_ct  h) [some 320, some 384, some 640, some 1024, some 1152, some 1119000, some 1119001, some 4416] [] ⟨⟨rfl, rfl⟩, ⟨rfl, ⟨rfl, ⟨rfl, rfl⟩, trivial⟩, ⟨rfl, rfl, trivial⟩, ⟨rfl, rfl, trivial⟩, ⟨rfl, ⟨rfl, rfl⟩, trivial⟩, ⟨rfl, ⟨rfl, rfl⟩, trivial⟩, ⟨rfl, rfl, rows_same⟩, ⟨rfl, rfl, rows_same⟩, ⟨rfl, rfl, rows_same⟩, trivial⟩, ⟨rfl, rfl⟩, ⟨rfl, rfl⟩, ⟨rfl, rfl⟩, rfl, rfl, rfl, rfl, rfl, ⟨rfl, rfl⟩, rfl, ⟨rfl, rfl⟩, rfl, trivial⟩
            · replace h := iteF h g344
              conv => whnf
              exact CutK.piece (laws_FnHydrasOfOrdinals_p12_ct  h) [some 320, some 384, some 640, some 1024, some 1152, some 1119000, some 1119001, some 4416] [] ⟨⟨rfl, rfl⟩, ⟨rfl, ⟨rfl, ⟨rfl, rfl⟩, trivial⟩, ⟨rfl, rfl, trivial⟩, ⟨rfl, rfl, trivial⟩, ⟨rfl, ⟨rfl, rfl⟩, trivial⟩, ⟨rfl, ⟨rfl, rfl⟩, trivial⟩, ⟨rfl, rfl, rows_same⟩, ⟨rfl, rfl, rows_same⟩, ⟨rfl, rfl, rows_same⟩, trivial⟩, ⟨rfl, rfl⟩, ⟨rfl, rfl⟩, ⟨rfl, rfl⟩, rfl, rfl, rfl, rfl, rfl, ⟨rfl, rfl⟩, rfl, ⟨rfl, rfl⟩, rfl, trivial⟩
    · replace h := condT h
      cases v106
      · replace h := condF h
        cases v113
        · replace h := condF h
          cases v126
          · replace h := condF h
            conv => whnf
            refine Pick.no ?_
            conv => whnf
            obtain ⟨y345, e346, h⟩ := bind_ex h
            refine CallOk.of (impl_HydraOrdinal_ct e346) ?_
            conv => whnf
            refine spl (fun g347 => ?_) (fun g347 => ?_)
            · replace h := iteT h g347
              conv => whnf
              exact CutK.piece (laws_FnHydrasOfOrdinals_p12_ct  h) [some 320, some 384, some 640, some 1024, some 1152, some 1119000, some 1119001, some 4416] [] ⟨⟨rfl, rfl⟩, ⟨rfl, ⟨rfl, ⟨rfl, rfl⟩, trivial⟩, ⟨rfl, rfl, trivial⟩, ⟨rfl, rfl, trivial⟩, ⟨rfl, ⟨rfl, rfl⟩, trivial⟩, ⟨rfl, ⟨rfl, rfl⟩, trivial⟩, ⟨rfl, rfl, rows_same⟩, ⟨rfl, rfl, rows_same⟩, ⟨rfl, rfl, rows_same⟩, trivial⟩, ⟨rfl, rfl⟩, ⟨rfl, rfl⟩, ⟨rfl, rfl⟩, rfl, rfl, rfl, rfl, rfl, ⟨rfl, rfl⟩, rfl, ⟨rfl, rfl⟩, rfl, trivial⟩
            · replace h := iteF h g347
              conv => whnf
              exact CutK.piece (laws_FnHydrasOfOrdinals_p12_ct  h) [some 320, some 384, some 640, some 1024, some 1152, some 1119000, some 1119001, some 4416] [] ⟨⟨rfl, rfl⟩, ⟨rfl, ⟨rfl, ⟨rfl, rfl⟩, trivial⟩, ⟨rfl, rfl, trivial⟩, ⟨rfl, rfl, trivial⟩, ⟨rfl, ⟨rfl, rfl⟩, trivial⟩, ⟨rfl, ⟨rfl, rfl⟩, trivial⟩, ⟨rfl, rfl, rows_same⟩, ⟨rfl, rfl, rows_same⟩, ⟨rfl, rfl, rows_same⟩, trivial⟩, ⟨rfl, rfl⟩, ⟨rfl, rfl⟩, ⟨rfl, rfl⟩, rfl, rfl, rfl, rfl, rfl, ⟨rfl, rfl⟩, rfl, ⟨rfl, rfl⟩, rfl, trivial⟩
          · replace h := condT h
            conv => whnf
            refine Pick.no ?_
            conv => whnf
            obtain ⟨y348, e349, h⟩ := bind_ex h
            refine CallOk.of (impl_HydraOrdinal_ct e349) ?_
            conv => whnf
            refine spl (fun g350 => ?_) (fun g350 => ?_)
            · replace h := iteT h g350
              conv => whnf
              exact CutK.piece (laws_FnHydrasOfOrdinals_p12_ct  h) [some 320, some 384, some 640, some 1024, some 1152, some 1119000, some 1119001, some 4416] [] ⟨⟨rfl, rfl⟩, ⟨rfl, ⟨rfl, ⟨rfl, rfl⟩, trivial⟩, ⟨rfl, rfl, trivial⟩, ⟨rfl, rfl, trivial⟩, ⟨rfl, ⟨rfl, rfl⟩, trivial⟩, ⟨rfl, ⟨rfl, rfl⟩, trivial⟩, ⟨rfl, rfl, rows_same⟩, ⟨rfl, rfl, rows_same⟩, ⟨rfl, rfl, rows_same⟩, trivial⟩, ⟨rfl, rfl⟩, ⟨rfl, rfl⟩, ⟨rfl, rfl⟩, rfl, rfl, rfl, rfl, rfl, ⟨rfl, rfl⟩, rfl, ⟨rfl, rfl⟩, rfl, trivial⟩
            · replace h := iteF h g350
              conv => whnf
              exact CutK.piece (laws_FnHydrasOfOrdinals_p12_ct  h) [some 320, some 384, some 640, some 1024, some 1152, some 1119000, some 1119001, some 4416] [] ⟨⟨rfl, rfl⟩, ⟨rfl, ⟨rfl, ⟨rfl, rfl⟩, trivial⟩, ⟨rfl, rfl, trivial⟩, ⟨rfl, rfl, trivial⟩, ⟨rfl, ⟨rfl, rfl⟩, trivial⟩, ⟨rfl, ⟨rfl, rfl⟩, trivial⟩, ⟨rfl, rfl, rows_same⟩, ⟨rfl, rfl, rows_same⟩, ⟨rfl, rfl, rows_same⟩, trivial⟩, ⟨rfl, rfl⟩, ⟨rfl, rfl⟩, ⟨rfl, rfl⟩, rfl, rfl, rfl, rfl, rfl, ⟨rfl, rfl⟩, rfl, ⟨rfl, rfl⟩, rfl, trivial⟩
        · replace h := condT h
          cases v126
          · replace h := condF h
            conv => whnf
            refine Pick.no ?_
            conv => whnf
            obtain ⟨y351, e352, h⟩ := bind_ex h
            refine CallOk.of (impl_HydraOrdinal_ct e352) ?_
            conv => whnf
            refine spl (fun g353 => ?_) (fun g353 => ?_)
            · replace h := iteT h g353
              conv => whnf
              exact CutK.piece (laws_FnHydrasOfOrdinals_p12_ct  h) [some 320, some 384, some 640, some 1024, some 1152, some 1119000, some 1119001, some 4416] [] ⟨⟨rfl, rfl⟩, ⟨rfl, ⟨rfl, ⟨rfl, rfl⟩, trivial⟩, ⟨rfl, rfl, trivial⟩, ⟨rfl, rfl, trivial⟩, ⟨rfl, ⟨rfl, rfl⟩, trivial⟩, ⟨rfl, ⟨rfl, rfl⟩, trivial⟩, ⟨rfl, rfl, rows_same⟩, ⟨rfl, rfl, rows_same⟩, ⟨rfl, rfl, rows_same⟩, trivial⟩, ⟨rfl, rfl⟩, ⟨rfl, rfl⟩, ⟨rfl, rfl⟩, rfl, rfl, rfl, rfl, rfl, ⟨rfl, rfl⟩, rfl, ⟨rfl, rfl⟩, rfl, trivial⟩
            · replace h := iteF h g353
              conv => whnf
              exact CutK.piece (laws_FnHydrasOfOrdinals_p12_ct  h) [some 320, some 384, some 640, some 1024, some 1152, some 1119000, some 1119001, some 4416] [] ⟨⟨rfl, rfl⟩, ⟨rfl, ⟨rfl, ⟨rfl, rfl⟩, trivial⟩, ⟨rfl, rfl, trivial⟩, ⟨rfl, rfl, trivial⟩, ⟨rfl, ⟨rfl, rfl⟩, trivial⟩, ⟨rfl, ⟨rfl, rfl⟩, trivial⟩, ⟨rfl, rfl, rows_same⟩, ⟨rfl, rfl, rows_same⟩, ⟨rfl, rfl, rows_same⟩, trivial⟩, ⟨rfl, rfl⟩, ⟨rfl, rfl⟩, ⟨rfl, rfl⟩, rfl, rfl, rfl, rfl, rfl, ⟨rfl, rfl⟩, rfl, ⟨rfl, rfl⟩, rfl, trivial⟩
          · replace h := condT h
            conv => whnf
            refine Pick.no ?_
            conv => whnf
            obtain ⟨y354, e355, h⟩ := bind_ex h
            refine CallOk.of (impl_HydraOrdinal_ct e355) ?_
            conv => whnf
            refine spl (fun g356 => ?_) (fun g356 => ?_)
            · replace h := iteT h g356
              conv => whnf
              exact CutK.piece (laws_FnHydrasOfOrdinals_p12_ct  h) [some 320, some 384, some 640, some 1024, some 1152, some 1119000, some 1119001, some 4416] [] ⟨⟨rfl, rfl⟩, ⟨rfl, ⟨rfl, ⟨rfl, rfl⟩, trivial⟩, ⟨rfl, rfl, trivial⟩, ⟨rfl, rfl, trivial⟩, ⟨rfl, ⟨rfl, rfl⟩, trivial⟩, ⟨rfl, ⟨rfl, rfl⟩, trivial⟩, ⟨rfl, rfl, rows_same⟩, ⟨rfl, rfl, rows_same⟩, ⟨rfl, rfl, rows_same⟩, trivial⟩, ⟨rfl, rfl⟩, ⟨rfl, rfl⟩, ⟨rfl, rfl⟩, rfl, rfl, rfl, rfl, rfl, ⟨rfl, rfl⟩, rfl, ⟨rfl, rfl⟩, rfl, trivial⟩
            · replace h := iteF h g356
              conv => whnf
              exact CutK.piece (laws_FnHydrasOfOrdinals_p12_ct  h) [some 320, some 384, some 640, some 1024, some 1152, some 1119000, some 1119001, some 4416] [] ⟨⟨rfl, rfl⟩, ⟨rfl, ⟨rfl, ⟨rfl, rfl⟩, trivial⟩, ⟨rfl, rfl, trivial⟩, ⟨rfl, rfl, trivial⟩, ⟨rfl, ⟨rfl, rfl⟩, trivial⟩, ⟨rfl, ⟨rfl, rfl⟩, trivial⟩, ⟨rfl, rfl, rows_same⟩, ⟨rfl, rfl, rows_same⟩, ⟨rfl, rfl, rows_same⟩, trivial⟩, ⟨rfl, rfl⟩, ⟨rfl, rfl⟩, ⟨rfl, rfl⟩, rfl, rfl, rfl, rfl, rfl, ⟨rfl, rfl⟩, rfl, ⟨rfl, rfl⟩, rfl, trivial⟩
      · replace h := condT h
        cases v113
        · replace h := condF h
          cases v126
          · replace h := condF h
            conv => whnf
            refine Pick.no ?_
            conv => whnf
            obtain ⟨y357, e358, h⟩ := bind_ex h
            refine CallOk.of (impl_HydraOrdinal_ct e358) ?_
            conv => whnf
            refine spl (fun g359 => ?_) (fun g359 => ?_)
            · replace h := iteT h g359
              conv => whnf
              exact CutK.piece (laws_FnHydrasOfOrdinals_p12_ct  h) [some 320, some 384, some 640, some 1024, some 1152, some 1119000, some 1119001, some 4416] [] ⟨⟨rfl, rfl⟩, ⟨rfl, ⟨rfl, ⟨rfl, rfl⟩, trivial⟩, ⟨rfl, rfl, trivial⟩, ⟨rfl, rfl, trivial⟩, ⟨rfl, ⟨rfl, rfl⟩, trivial⟩, ⟨rfl, ⟨rfl, rfl⟩, trivial⟩, ⟨rfl, rfl, rows_same⟩, ⟨rfl, rfl, rows_same⟩, ⟨rfl, rfl, rows_same⟩, trivial⟩, ⟨rfl, rfl⟩, ⟨rfl, rfl⟩, ⟨rfl, rfl⟩, rfl, rfl, rfl, rfl, rfl, ⟨rfl, rfl⟩, rfl, ⟨rfl, rfl⟩, rfl, trivial⟩
            · replace h := iteF h g359
              conv => whnf
              exact CutK.piece (laws_FnHydrasOfOrdinals_p12_ct  h) [some 320, some 384, some 640, some 1024, some 1152, some 1119000, some 1119001, some 4416] [] ⟨⟨rfl, rfl⟩, ⟨rfl, ⟨rfl, ⟨rfl, rfl⟩, trivial⟩, ⟨rfl, rfl, trivial⟩, ⟨rfl, rfl, trivial⟩, ⟨rfl, ⟨rfl, rfl⟩, trivial⟩, ⟨rfl, ⟨rfl, rfl⟩, trivial⟩, ⟨rfl, rfl, rows_same⟩, ⟨rfl, rfl, rows_same⟩, ⟨rfl, rfl, rows_same⟩, trivial⟩, ⟨rfl, rfl⟩, ⟨rfl, rfl⟩, ⟨rfl, rfl⟩, rfl, rfl, rfl, rfl, rfl, ⟨rfl, rfl⟩, rfl, ⟨rfl, rfl⟩, rfl, trivial⟩
          · replace h := condT h
            conv => whnf
            refine Pick.no ?_
            conv => whnf
            obtain ⟨y360, e361, h⟩ := bind_ex h
            refine CallOk.of (impl_HydraOrdinal_ct e361) ?_
            conv => whnf
            refine spl (fun g362 => ?_) (fun g362 => ?_)
            · replace h := iteT h g362
              conv => whnf
              exact CutK.piece (laws_FnHydrasOfOrdinals_p12_ct  h) [some 320, some 384, some 640, some 1024, some 1152, some 1119000, some 1119001, some 4416] [] ⟨⟨rfl, rfl⟩, ⟨rfl, ⟨rfl, ⟨rfl, rfl⟩, trivial⟩, ⟨rfl, rfl, trivial⟩, ⟨rfl, rfl, trivial⟩, ⟨rfl, ⟨rfl, rfl⟩, trivial⟩, ⟨rfl, ⟨rfl, rfl⟩, trivial⟩, ⟨rfl, rfl, rows_same⟩, ⟨rfl, rfl, rows_same⟩, ⟨rfl, rfl, rows_same⟩, trivial⟩, ⟨rfl, rfl⟩, ⟨rfl, rfl⟩, ⟨rfl, rfl⟩, rfl, rfl, rfl, rfl, rfl, ⟨rfl, rfl⟩, rfl, ⟨rfl, rfl⟩, rfl, trivial⟩
            · replace h := iteF h g362
              conv => whnf
              exact CutK.piece (laws_FnHydrasOfOrdinals_p12_ct  h) [some 320, some 384, some 640, some 1024, some 1152, some 1119000, some 1119001, some 4416] [] ⟨⟨rfl, rfl⟩, ⟨rfl, ⟨rfl, ⟨rfl, rfl⟩, trivial⟩, ⟨rfl, rfl, trivial⟩, ⟨rfl, rfl, trivial⟩, ⟨rfl, ⟨rfl, rfl⟩, trivial⟩, ⟨rfl, ⟨rfl, rfl⟩, trivial⟩, ⟨rfl, rfl, rows_same⟩, ⟨rfl, rfl, rows_same⟩, ⟨rfl, rfl, rows_same⟩, trivial⟩, ⟨rfl, rfl⟩, ⟨rfl, rfl⟩, ⟨rfl, rfl⟩, rfl, rfl, rfl, rfl, rfl, ⟨rfl, rfl⟩, rfl, ⟨rfl, rfl⟩, rfl, trivial⟩
        · replace h := condT h
          cases v126
          · replace h := condF h
            conv => whnf
            refine Pick.no ?_
            conv => whnf
            obtain ⟨y363, e364, h⟩ := bind_ex h
            refine CallOk.of (impl_HydraOrdinal_ct e364) ?_
            conv => whnf
            refine spl (fun g365 => ?_) (fun g365 => ?_)
            · replace h := iteT h g365
              conv => whnf
              exact CutK.piece (laws_FnHydrasOfOrdinals_p12_ct  h) [some 320, some 384, some 640, some 1024, some 1152, some 1119000, some 1119001, some 4416] [] ⟨⟨rfl, rfl⟩, ⟨rfl, ⟨rfl, ⟨rfl, rfl⟩, trivial⟩, ⟨rfl, rfl, trivial⟩, ⟨rfl, rfl, trivial⟩, ⟨rfl, ⟨rfl, rfl⟩, trivial⟩, ⟨rfl, ⟨rfl, rfl⟩, trivial⟩, ⟨rfl, rfl, rows_same⟩, ⟨rfl, rfl, rows_same⟩, ⟨rfl, rfl, rows_same⟩, trivial⟩, ⟨rfl, rfl⟩, ⟨rfl, rfl⟩, ⟨rfl, rfl⟩, rfl, rfl, rfl, rfl, rfl, ⟨rfl, rfl⟩, rfl, ⟨rfl, rfl⟩, rfl, trivial⟩
            · replace h := iteF h g365
              conv => whnf
              exact CutK.piece (laws_FnHydrasOfOrdinals_p12_ct  h) [some 320, some 384, some 640, some 1024, some 1152, some 1119000, some 1119001, some 4416] [] ⟨⟨rfl, rfl⟩, ⟨rfl, ⟨rfl, ⟨rfl, rfl⟩, trivial⟩, ⟨rfl, rfl, trivial⟩, ⟨rfl, rfl, trivial⟩, ⟨rfl, ⟨rfl, rfl⟩, trivial⟩, ⟨rfl, ⟨rfl, rfl⟩, trivial⟩, ⟨rfl, rfl, rows_same⟩, ⟨rfl, rfl, rows_same⟩, ⟨rfl, rfl, rows_same⟩, trivial⟩, ⟨rfl, rfl⟩, ⟨rfl, rfl⟩, ⟨rfl, rfl⟩, rfl, rfl, rfl, rfl, rfl, ⟨rfl, rfl⟩, rfl, ⟨rfl, rfl⟩, rfl, trivial⟩
          · replace h := condT h
            conv => whnf
            refine Pick.no ?_
            conv => whnf
            obtain ⟨y366, e367, h⟩ := bind_ex h
            refine CallOk.of (impl_HydraOrdinal_ct e367) ?_
            conv => whnf
            refine spl (fun g368 => ?_) (fun g368 => ?_)
            · replace h := iteT h g368
              conv => whnf
              exact CutK.piece (laws_FnHydrasOfOrdinals_p12_ct  h) [some 320, some 384, some 640, some 1024, some 1152, some 1119000, some 1119001, some 4416] [] ⟨⟨rfl, rfl⟩, ⟨rfl, ⟨rfl, ⟨rfl, rfl⟩, trivial⟩, ⟨rfl, rfl, trivial⟩, ⟨rfl, rfl, trivial⟩, ⟨rfl, ⟨rfl, rfl⟩, trivial⟩, ⟨rfl, ⟨rfl, rfl⟩, trivial⟩, ⟨rfl, rfl, rows_same⟩, ⟨rfl, rfl, rows_same⟩, ⟨rfl, rfl, rows_same⟩, trivial⟩, ⟨rfl, rfl⟩, ⟨rfl, rfl⟩, ⟨rfl, rfl⟩, rfl, rfl, rfl, rfl, rfl, ⟨rfl, rfl⟩, rfl, ⟨rfl, rfl⟩, rfl, trivial⟩
            · replace h := iteF h g368
              conv => whnf
              exact CutK.piece (laws_FnHydrasOfOrdinals_p12_ct  h) [some 320, some 384, some 640, some 1024, some 1152, some 1119000, some 1119001, some 4416] [] ⟨⟨rfl, rfl⟩, ⟨rfl, ⟨rfl, ⟨rfl, rfl⟩, trivial⟩, ⟨rfl, rfl, trivial⟩, ⟨rfl, rfl, trivial⟩, ⟨rfl, ⟨rfl, rfl⟩, trivial⟩, ⟨rfl, ⟨rfl, rfl⟩, trivial⟩, ⟨rfl, rfl, rows_same⟩, ⟨rfl, rfl, rows_same⟩, ⟨rfl, rfl, rows_same⟩, trivial⟩, ⟨rfl, rfl⟩, ⟨rfl, rfl⟩, ⟨rfl, rfl⟩, rfl, rfl, rfl, rfl, rfl, ⟨rfl, rfl⟩, rfl, ⟨rfl, rfl⟩, rfl, trivial⟩
def laws_FnHydrasOfOrdinals_p10 (k : Nat) (o61 : ByteArray) (o62 : Rw) (o63 : Rw) (o64 : Rw) (v65 : Bool) (v69 : Bool) (v73 : Bool) (v80 : Bool) : Option Bool :=
  (cond v65 (cond v69 (cond v73 (cond v80 ((impl_ParseHydra k o61).bind fun y414 => (if y414.2 = true then (laws_FnHydrasOfOrdinals_p11 k o61 o62 o63 o64 y414.1 true true true true true) else (laws_FnHydrasOfOrdinals_p11 k o61 o62 o63 o64 y414.1 false true true true true))) ((impl_ParseHydra k o61).bind fun y411 => (if y411.2 = true then (laws_FnHydrasOfOrdinals_p11 k o61 o62 o63 o64 y411.1 true false true true true) else (laws_FnHydrasOfOrdinals_p11 k o61 o62 o63 o64 y411.1 false false true true true)))) (cond v80 ((impl_ParseHydra k o61).bind fun y408 => (if y408.2 = true then (laws_FnHydrasOfOrdinals_p11 k o61 o62 o63 o64 y408.1 true true false true true) else (laws_FnHydrasOfOrdinals_p11 k o61 o62 o63 o64 y408.1 false true false true true))) ((impl_ParseHydra k o61).bind fun y405 => (if y405.2 = true then (laws_FnHydrasOfOrdinals_p11 k o61 o62 o63 o64 y405.1 true false false true true) else (laws_FnHydrasOfOrdinals_p11 k o61 o62 o63 o64 y405.1 false false false true true))))) (cond v73 (cond v80 ((impl_ParseHydra k o61).bind fun y402 => (if y402.2 = true then (laws_FnHydrasOfOrdinals_p11 k o61 o62 o63 o64 y402.1 true true true false true) else (laws_FnHydrasOfOrdinals_p11 k o61 o62 o63 o64 y402.1 false true true false true))) ((impl_ParseHydra k o61).bind fun y399 => (if y399.2 = true then (laws_FnHydrasOfOrdinals_p11 k o61 o62 o63 o64 y399.1 true false true false true) else (laws_FnHydrasOfOrdinals_p11 k o61 o62 o63 o64 y399.1 false false true false true)))) (cond v80 ((impl_ParseHydra k o61).bind fun y396 => (if y396.2 = true then (laws_FnHydrasOfOrdinals_p11 k o61 o62 o63 o64 y396.1 true true false false true) else (laws_FnHydrasOfOrdinals_p11 k o61 o62 o63 o64 y396.1 false true false false true))) ((impl_ParseHydra k o61).bind fun y393 => (if y393.2 = true then (laws_FnHydrasOfOrdinals_p11 k o61 o62 o63 o64 y393.1 true false false false true) else (laws_FnHydrasOfOrdinals_p11 k o61 o62 o63 o64 y393.1 false false false false true)))))) (cond v69 (cond v73 (cond v80 ((impl_ParseHydra k o61).bind fun y390 => (if y390.2 = true then (laws_FnHydrasOfOrdinals_p11 k o61 o62 o63 o64 y390.1 true true true true false) else (laws_FnHydrasOfOrdinals_p11 k o61 o62 o63 o64 y390.1 false true true true false))) ((impl_ParseHydra k o61).bind fun y387 => (if y387.2 = true then (laws_FnHydrasOfOrdinals_p11 k o61 o62 o63 o64 y387.1 true false true true false) else (laws_FnHydrasOfOrdinals_p11 k o61 o62 o63 o64 y387.1 false false true true false)))) (cond v80 ((impl_ParseHydra k o61).bind fun y384 => (if y384.2 = true then (laws_FnHydrasOfOrdinals_p11 k o61 o62 o63 o64 y384.1 true true false true false) else (laws_FnHydrasOfOrdinals_p11 k o61 o62 o63 o64 y384.1 false true false true false))) ((impl_ParseHydra k o61).bind fun y381 => (if y381.2 = true then (laws_FnHydrasOfOrdinals_p11 k o61 o62 o63 o64 y381.1 true false false true false) else (laws_FnHydrasOfOrdinals_p11 k o61 o62 o63 o64 y381.1 false false false true false))))) (cond v73 (cond v80 ((impl_ParseHydra k o61).bind fun y378 => (if y378.2 = true then (laws_FnHydrasOfOrdinals_p11 k o61 o62 o63 o64 y378.1 true true true false false) else (laws_FnHydrasOfOrdinals_p11 k o61 o62 o63 o64 y378.1 false true true false false))) ((impl_ParseHydra k o61).bind fun y375 => (if y375.2 = true then (laws_FnHydrasOfOrdinals_p11 k o61 o62 o63 o64 y375.1 true false true false false) else (laws_FnHydrasOfOrdinals_p11 k o61 o62 o63 o64 y375.1 false false true false false)))) (cond v80 ((impl_ParseHydra k o61).bind fun y372 => (if y372.2 = true then (laws_FnHydrasOfOrdinals_p11 k o61 o62 o63 o64 y372.1 true true false false false) else (laws_FnHydrasOfOrdinals_p11 k o61 o62 o63 o64 y372.1 false true false false false))) ((impl_ParseHydra k o61).bind fun y369 => (if y369.2 = true then (laws_FnHydrasOfOrdinals_p11 k o61 o62 o63 o64 y369.1 true false false false false) else (laws_FnHydrasOfOrdinals_p11 k o61 o62 o63 o64 y369.1 false false false false false)))))))
set_option maxHeartbeats 4000000 in
set_option maxRecDepth 100000 in
theorem laws_FnHydrasOfOrdinals_p10_ct {k : Nat} {o61 : ByteArray} {o62 : Rw} {o63 : Rw} {o64 : Rw} {v65 : Bool} {v69 : Bool} {v73 : Bool} {v80 : Bool} {r : Bool} (h : laws_FnHydrasOfOrdinals_p10 k o61 o62 o63 o64 v65 v69 v73 v80 = some r) : X prog 0 (tlF f7 10) (mk 118 [(5, .ptr 320 0), (6, .ptr 384 0), (10, .ptr 640 0), (11, .d (D.bool v69)), (12, .d (D.bool v73)), (13, .d (D.bool v80)), (14, .d (D.str o61)), (15, .d (D.bool v65))] [(320, .box 31 [.os 1114000 o62.length]), (384, .box 28 [.d (D.sl o63)]), (640, .box 31 [.d (D.sl o64)]), (1114000, .arr 3 true o62)]) (finK prog f7 0 (.d (D.bool r)) (⟨[], []⟩)) := by
  rw [laws_FnHydrasOfOrdinals_p10] at h
  cases v65
  · replace h := condF h
    cases v69
    · replace h := condF h
      cases v73
      · replace h := condF h
        cases v80
        · replace h := condF h
          conv => whnf
          refine Pick.no ?_
          conv => whnf
          obtain ⟨y369, e370, h⟩ := bind_ex h
          refine CallOk.of (impl_ParseHydra_ct e370) ?_
          conv => whnf
          refine spl (fun g371 => ?_) (fun g371 => ?_)
          · replace h := iteT h g371
            conv => whnf
            exact CutK.piece (laws_FnHydrasOfOrdinals_p11_ct  h) [some 320, some 384, some 640, some 1024, some 1114000, some 4096] [] ⟨⟨rfl, rfl⟩, ⟨rfl, ⟨rfl, ⟨rfl, rfl⟩, trivial⟩, ⟨rfl, rfl, trivial⟩, ⟨rfl, rfl, trivial⟩, ⟨rfl, ⟨rfl, rfl⟩, trivial⟩, ⟨rfl, rfl, rows_same⟩, ⟨rfl, rfl, rows_same⟩, trivial⟩, ⟨rfl, rfl⟩, ⟨rfl, rfl⟩, ⟨rfl, rfl⟩, rfl, rfl, rfl, rfl, rfl, ⟨rfl, rfl⟩, rfl, trivial⟩
          · replace h := iteF h g371
            conv => whnf
            exact CutK.piece (laws_FnHydrasOfOrdinals_p11_ct  h) [some 320, some 384, some 640, some 1024, some 1114000, some 4096] [] ⟨⟨rfl, rfl⟩, ⟨rfl, ⟨rfl, ⟨rfl, rfl⟩, trivial⟩, ⟨rfl, rfl, trivial⟩, ⟨rfl, rfl, trivial⟩, ⟨rfl, ⟨rfl, rfl⟩, trivial⟩, ⟨rfl, rfl, rows_same⟩, ⟨rfl, rfl, rows_same⟩, trivial⟩, ⟨rfl, rfl⟩, ⟨rfl, rfl⟩, ⟨rfl, rfl⟩, rfl, rfl, rfl, rfl, rfl, ⟨rfl, rfl⟩, rfl, trivial⟩
        · replace h := condT h
          conv => whnf
          refine Pick.no ?_
          conv => whnf
          obtain ⟨y372, e373, h⟩ := bind_ex h
          refine CallOk.of (impl_ParseHydra_ct e373) ?_
          conv => whnf
          refine spl (fun g374 => ?_) (fun g374 => ?_)
          · replace h := iteT h g374
            conv => whnf
            exact CutK.piece (laws_FnHydrasOfOrdinals_p11_ct  h) [some 320, some 384, some 640, some 1024, some 1114000, some 4096] [] ⟨⟨rfl, rfl⟩, ⟨rfl, ⟨rfl, ⟨rfl, rfl⟩, trivial⟩, ⟨rfl, rfl, trivial⟩, ⟨rfl, rfl, trivial⟩, ⟨rfl, ⟨rfl, rfl⟩, trivial⟩, ⟨rfl, rfl, rows_same⟩, ⟨rfl, rfl, rows_same⟩, trivial⟩, ⟨rfl, rfl⟩, ⟨rfl, rfl⟩, ⟨rfl, rfl⟩, rfl, rfl, rfl, rfl, rfl, ⟨rfl, rfl⟩, rfl, trivial⟩
          · replace h := iteF h g374
            conv => whnf
            exact CutK.piece (laws_FnHydrasOfOrdinals_p11_ct  h) [some 320, some 384, some 640, some 1024, some 1114000, some 4096] [] ⟨⟨rfl, rfl⟩, ⟨rfl, ⟨rfl, ⟨rfl, rfl⟩, trivial⟩, ⟨rfl, rfl, trivial⟩, ⟨rfl, rfl, trivial⟩, ⟨rfl, ⟨rfl, rfl⟩, trivial⟩, ⟨rfl, rfl, rows_same⟩, ⟨rfl, rfl, rows_same⟩, trivial⟩, ⟨rfl, rfl⟩, ⟨rfl, rfl⟩, ⟨rfl, rfl⟩, rfl, rfl, rfl, rfl, rfl, ⟨rfl, rfl⟩, rfl, trivial⟩
      · replace h := condT h
        cases v80
        · replace h := condF h
          conv => whnf
          refine Pick.no ?_
          conv => whnf
          obtain ⟨y375, e376, h⟩ := bind_ex h
          refine CallOk.of (impl_ParseHydra_ct e376) ?_
          conv => whnf
          refine spl (fun g377 => ?_) (fun g377 => ?_)
          · replace h := iteT h g377
            conv => whnf
            exact CutK.piece (laws_FnHydrasOfOrdinals_p11_ct  h) [some 320, some 384, some 640, some 1024, some 1114000, some 4096] [] ⟨⟨rfl, rfl⟩, ⟨rfl, ⟨rfl, ⟨rfl, rfl⟩, trivial⟩, ⟨rfl, rfl, trivial⟩, ⟨rfl, rfl, trivial⟩, ⟨rfl, ⟨rfl, rfl⟩, trivial⟩, ⟨rfl, rfl, rows_same⟩, ⟨rfl, rfl, rows_same⟩, trivial⟩, ⟨rfl, rfl⟩, ⟨rfl, rfl⟩, ⟨rfl, rfl⟩, rfl, rfl, rfl, rfl, rfl, ⟨rfl, rfl⟩, rfl, trivial⟩
          · replace h := iteF h g377
            conv => whnf
            exact CutK.piece (laws_FnHydrasOfOrdinals_p11_ct  h) [some 320, some 384, some 640, some 1024, some 1114000, some 4096] [] ⟨⟨rfl, rfl⟩, ⟨rfl, ⟨rfl, ⟨rfl, rfl⟩, trivial⟩, ⟨rfl, rfl, trivial⟩, ⟨rfl, rfl, trivial⟩, ⟨rfl, ⟨rfl, rfl⟩, trivial⟩, ⟨rfl, rfl, rows_same⟩, ⟨rfl, rfl, rows_same⟩, trivial⟩, ⟨rfl, rfl⟩, ⟨rfl, rfl⟩, ⟨rfl, rfl⟩, rfl, rfl, rfl, rfl, rfl, ⟨rfl, rfl⟩, rfl, trivial⟩
        · replace h := condT h
          conv => whnf
          refine Pick.no ?_
          conv => whnf
          obtain ⟨y378, e379, h⟩ := bind_ex h
          refine CallOk.of (impl_ParseHydra_ct e379) ?_
          conv => whnf
          refine spl (fun g380 => ?_) (fun g380 => ?_)
          · replace h := iteT h g380
            conv => whnf
            exact CutK.piece (laws_FnHydrasOfOrdinals_p11_ct  h) [some 320, some 384, some 640, some 1024, some 1114000, some 4096] [] ⟨⟨rfl, rfl⟩, ⟨rfl, ⟨rfl, ⟨rfl, rfl⟩, trivial⟩, ⟨rfl, rfl, trivial⟩, ⟨rfl, rfl, trivial⟩, ⟨rfl, ⟨rfl, rfl⟩, trivial⟩, ⟨rfl, rfl, rows_same⟩, ⟨rfl, rfl, rows_same⟩, trivial⟩, ⟨rfl, rfl⟩, ⟨rfl, rfl⟩, ⟨rfl, rfl⟩, rfl, rfl, rfl, rfl, rfl, ⟨rfl, rfl⟩, rfl, trivial⟩
          · replace h := iteF h g380
            conv => whnf
            exact CutK.piece (laws_FnHydrasOfOrdinals_p11_ct  h) [some 320, some 384, some 640, some 1024, some 1114000, some 4096] [] ⟨⟨rfl, rfl⟩, ⟨rfl, ⟨rfl, ⟨rfl, rfl⟩, trivial⟩, ⟨rfl, rfl, trivial⟩, ⟨rfl, rfl, trivial⟩, ⟨rfl, ⟨rfl, rfl⟩, trivial⟩, ⟨rfl, rfl, rows_same⟩, ⟨rfl, rfl, rows_same⟩, trivial⟩, ⟨rfl, rfl⟩, ⟨rfl, rfl⟩, ⟨rfl, rfl⟩, rfl, rfl, rfl, rfl, rfl, ⟨rfl, rfl⟩, rfl, trivial⟩
    · replace h := condT h
      cases v73
      · replace h := condF h
        cases v80
        · replace h := condF h
          conv => whnf
          refine Pick.no ?_
          conv => whnf
          obtain ⟨y381, e382, h⟩ := bind_ex h
          refine CallOk.of (impl_ParseHydra_ct e382) ?_
          conv => whnf
          refine spl (fun g383 => ?_) (fun g383 => ?_)
          · replace h := iteT h g383
            conv => whnf
            exact CutK.piece (laws_FnHydrasOfOrdinals_p11_ct  h) [some 320, some 384, some 640, some 1024, some 1114000, some 4096] [] ⟨⟨rfl, rfl⟩, ⟨rfl, ⟨rfl, ⟨rfl, rfl⟩, trivial⟩, ⟨rfl, rfl, trivial⟩, ⟨rfl, rfl, trivial⟩, ⟨rfl, ⟨rfl, rfl⟩, trivial⟩, ⟨rfl, rfl, rows_same⟩, ⟨rfl, rfl, rows_same⟩, trivial⟩, ⟨rfl, rfl⟩, ⟨rfl, rfl⟩, ⟨rfl, rfl⟩, rfl, rfl, rfl, rfl, rfl, ⟨rfl, rfl⟩, rfl, trivial⟩
          · replace h := iteF h g383
            conv => whnf
            exact CutK.piece (laws_FnHydrasOfOrdinals_p11_ct  h) [some 320, some 384, some 640, some 1024, some 1114000, some 4096] [] ⟨⟨rfl, rfl⟩, ⟨rfl, ⟨rfl, ⟨rfl, rfl⟩, trivial⟩, ⟨rfl, rfl, trivial⟩, ⟨rfl, rfl, trivial⟩, ⟨rfl, ⟨rfl, rfl⟩, trivial⟩, ⟨rfl, rfl, rows_same⟩, ⟨rfl, rfl, rows_same⟩, trivial⟩, ⟨rfl, rfl⟩, ⟨rfl, rfl⟩, ⟨rfl, rfl⟩, rfl, rfl, rfl, rfl, rfl, ⟨rfl, rfl⟩, rfl, trivial⟩
        · replace h := condT h
          conv => whnf
          refine Pick.no ?_
          conv => whnf
          obtain ⟨y384, e385, h⟩ := bind_ex h
          refine CallOk.of (impl_ParseHydra_ct e385) ?_
          conv => whnf
          refine spl (fun g386 => ?_) (fun g386 => ?_)
          · replace h := iteT h g386
            conv => whnf
            exact CutK.piece (laws_FnHydrasOfOrdinals_p11_ct  h) [some 320, some 384, some 640, some 1024, some 1114000, some 4096] [] ⟨⟨rfl, rfl⟩, ⟨rfl, ⟨rfl, ⟨rfl, rfl⟩, trivial⟩, ⟨rfl, rfl, trivial⟩, ⟨rfl, rfl, trivial⟩, ⟨rfl, ⟨rfl, rfl⟩, trivial⟩, ⟨rfl, rfl, rows_same⟩, ⟨rfl, rfl, rows_same⟩, trivial⟩, ⟨rfl, rfl⟩, ⟨rfl, rfl⟩, ⟨rfl, rfl⟩, rfl, rfl, rfl, rfl, rfl, ⟨rfl, rfl⟩, rfl, trivial⟩
          · replace h := iteF h g386
            conv => whnf
            exact CutK.piece (laws_FnHydrasOfOrdinals_p11_ct  h) [some 320, some 384, some 640, some 1024, some 1114000, some 4096] [] ⟨⟨rfl, rfl⟩, ⟨rfl, ⟨rfl, ⟨rfl, rfl⟩, trivial⟩, ⟨rfl, rfl, trivial⟩, ⟨rfl, rfl, trivial⟩, ⟨rfl, ⟨rfl, rfl⟩, trivial⟩, ⟨rfl, rfl, rows_same⟩, ⟨rfl, rfl, rows_same⟩, trivial⟩, ⟨rfl, rfl⟩, ⟨rfl, rfl⟩, ⟨rfl, rfl⟩, rfl, rfl, rfl, rfl, rfl, ⟨rfl, rfl⟩, rfl, trivial⟩
      · replace h := condT h
        cases v80
        · replace h := condF h
          conv => whnf
          refine Pick.no ?_
          conv => whnf
          obtain ⟨y387, e388, h⟩ := bind_ex h
          refine CallOk.of (impl_ParseHydra_ct e388) ?_
          conv => whnf
          refine spl (fun g389 => ?_) (fun g389 => ?_)
          · replace h := iteT h g389
            conv => whnf
            exact CutK.piece (laws_FnHydrasOfOrdinals_p11_ct  h) [some 320, some 384, some 640, some 1024, some 1114000, some 4096] [] ⟨⟨rfl, rfl⟩, ⟨rfl, ⟨rfl, ⟨rfl, rfl⟩, trivial⟩, ⟨rfl, rfl, trivial⟩, ⟨rfl, rfl, trivial⟩, ⟨rfl, ⟨rfl, rfl⟩, trivial⟩, ⟨rfl, rfl, rows_same⟩, ⟨rfl, rfl, rows_same⟩, trivial⟩, ⟨rfl, rfl⟩, ⟨rfl, rfl⟩, ⟨rfl, rfl⟩, rfl, rfl, rfl, rfl, rfl, ⟨rfl, rfl⟩, rfl, trivial⟩
          · replace h := iteF h g389
            conv => whnf
            exact CutK.piece (laws_FnHydrasOfOrdinals_p11_ct  h) [some 320, some 384, some 640, some 1024, some 1114000, some 4096] [] ⟨⟨rfl, rfl⟩, ⟨rfl, ⟨rfl, ⟨rfl, rfl⟩, trivial⟩, ⟨rfl, rfl, trivial⟩, ⟨rfl, rfl, trivial⟩, ⟨rfl, ⟨rfl, rfl⟩, trivial⟩, ⟨rfl, rfl, rows_same⟩, ⟨rfl, rfl, rows_same⟩, trivial⟩, ⟨rfl, rfl⟩, ⟨rfl, rfl⟩, ⟨rfl, rfl⟩, rfl, rfl, rfl, rfl, rfl, ⟨rfl, rfl⟩, rfl, trivial⟩
        · replace h := condT h
          conv => whnf
          refine Pick.no ?_
          conv => whnf
          obtain ⟨y390, e391, h⟩ := bind_ex h
          refine CallOk.of (impl_ParseHydra_ct e391) ?_
          conv => whnf
          refine spl (fun g392 => ?_) (fun g392 => ?_)
          · replace h := iteT h g392
            conv => whnf
            exact CutK.piece (laws_FnHydrasOfOrdinals_p11_ct  h) [some 320, some 384, some 640, some 1024, some 1114000, some 4096] [] ⟨⟨rfl, rfl⟩, ⟨rfl, ⟨rfl, ⟨rfl, rfl⟩, trivial⟩, ⟨rfl, rfl, trivial⟩, ⟨rfl, rfl, trivial⟩, ⟨rfl, ⟨rfl, rfl⟩, trivial⟩, ⟨rfl, rfl, rows_same⟩, ⟨rfl, rfl, rows_same⟩, trivial⟩, ⟨rfl, rfl⟩, ⟨rfl, rfl⟩, ⟨rfl, rfl⟩, rfl, rfl, rfl, rfl, rfl, ⟨rfl, rfl⟩, rfl, trivial⟩
          · replace h := iteF h g392
            conv => whnf
            exact CutK.piece (laws_FnHydrasOfOrdinals_p11_ct  h) [some 320, some 384, some 640, some 1024, some 1114000, some 4096] [] ⟨⟨rfl, rfl⟩, ⟨rfl, ⟨rfl, ⟨rfl, rfl⟩, trivial⟩, ⟨rfl, rfl, trivial⟩, ⟨rfl, rfl, trivial⟩, ⟨rfl, ⟨rfl, rfl⟩, trivial⟩, ⟨rfl, rfl, rows_same⟩, ⟨rfl, rfl, rows_same⟩, trivial⟩, ⟨rfl, rfl⟩, ⟨rfl, rfl⟩, ⟨rfl, rfl⟩, rfl, rfl, rfl, rfl, rfl, ⟨rfl, rfl⟩, rfl, trivial⟩
  · replace h := condT h
    cases v69
    · replace h := condF h
      cases v73
      · replace h := condF h
        cases v80
        · replace h := condF h
          conv => whnf
          refine Pick.no ?_
          conv => whnf
          obtain ⟨y393, e394, h⟩ := bind_ex h
          refine CallOk.of (impl_ParseHydra_ct e394) ?_
          conv => whnf
          refine spl (fun g395 => ?_) (fun g395 => ?_)
          · replace h := iteT h g395
            conv => whnf
            exact CutK.piece (laws_FnHydrasOfOrdinals_p11_ct  h) [some 320, some 384, some 640, some 1024, some 1114000, some 4096] [] ⟨⟨rfl, rfl⟩, ⟨rfl, ⟨rfl, ⟨rfl, rfl⟩, trivial⟩, ⟨rfl, rfl, trivial⟩, ⟨rfl, rfl, trivial⟩, ⟨rfl, ⟨rfl, rfl⟩, trivial⟩, ⟨rfl, rfl, rows_same⟩, ⟨rfl, rfl, rows_same⟩, trivial⟩, ⟨rfl, rfl⟩, ⟨rfl, rfl⟩, ⟨rfl, rfl⟩, rfl, rfl, rfl, rfl, rfl, ⟨rfl, rfl⟩, rfl, trivial⟩
          · replace h := iteF h g395
            conv => whnf
            exact CutK.piece (laws_FnHydrasOfOrdinals_p11_ct  h) [some 320, some 384, some 640, some 1024, some 1114000, some 4096] [] ⟨⟨rfl, rfl⟩, ⟨rfl, ⟨rfl, ⟨rfl, rfl⟩, trivial⟩, ⟨rfl, rfl, trivial⟩, ⟨rfl, rfl, trivial⟩, ⟨rfl, ⟨rfl, rfl⟩, trivial⟩, ⟨rfl, rfl, rows_same⟩, ⟨rfl, rfl, rows_same⟩, trivial⟩, ⟨rfl, rfl⟩, ⟨rfl, rfl⟩, ⟨rfl, rfl⟩, rfl, rfl, rfl, rfl, rfl, ⟨rfl, rfl⟩, rfl, trivial⟩
        · replace h := condT h
          conv => whnf
          refine Pick.no ?_
          conv => whnf
          obtain ⟨y396, e397, h⟩ := bind_ex h
          refine CallOk.of (impl_ParseHydra_ct e397) ?_
          conv => whnf
          refine spl (fun g398 => ?_) (fun g398 => ?_)
          · replace h := iteT h g398
            conv => whnf
            exact CutK.piece (laws_FnHydrasOfOrdinals_p11_ct  h) [some 320, some 384, some 640, some 1024, some 1114000, some 4096] [] ⟨⟨rfl, rfl⟩, ⟨rfl, ⟨rfl, ⟨rfl, rfl⟩, trivial⟩, ⟨rfl, rfl, trivial⟩, ⟨rfl, rfl, trivial⟩, ⟨rfl, ⟨rfl, rfl⟩, trivial⟩, ⟨rfl, rfl, rows_same⟩, ⟨rfl, rfl, rows_same⟩, trivial⟩, ⟨rfl, rfl⟩, ⟨rfl, rfl⟩, ⟨rfl, rfl⟩, rfl, rfl, rfl, rfl, rfl, ⟨rfl, rfl⟩, rfl, trivial⟩
          · replace h := iteF h g398
            conv => whnf
            exact CutK.piece (laws_FnHydrasOfOrdinals_p11_ct  h) [some 320, some 384, some 640, some 1024, some 1114000, some 4096] [] ⟨⟨rfl, rfl⟩, ⟨rfl, ⟨rfl, ⟨rfl, rfl⟩, trivial⟩, ⟨rfl, rfl, trivial⟩, ⟨rfl, rfl, trivial⟩, ⟨rfl, ⟨rfl, rfl⟩, trivial⟩, ⟨rfl, rfl, rows_same⟩, ⟨rfl, rfl, rows_same⟩, trivial⟩, ⟨rfl, rfl⟩, ⟨rfl, rfl⟩, ⟨rfl, rfl⟩, rfl, rfl, rfl, rfl, rfl, ⟨rfl, rfl⟩, rfl, trivial⟩
      · replace h := condT h
        cases v80
        · replace h := condF h
          conv => whnf
          refine Pick.no ?_
          conv => whnf
          obtain ⟨y399, e400, h⟩ := bind_ex h
          refine CallOk.of (impl_ParseHydra_ct e400) ?_
          conv => whnf
          refine spl (fun g401 => ?_) (fun g401 => ?_)
          · replace h := iteT h g401
            conv => whnf
            exact CutK.piece (laws_FnHydrasOfOrdinals_p11_ct  h) [some 320, some 384, some 640, some 1024, some 1114000, some 4096] [] ⟨⟨rfl, rfl⟩, ⟨rfl, ⟨rfl, ⟨rfl, rfl⟩, trivial⟩, ⟨rfl, rfl, trivial⟩, ⟨rfl, rfl, trivial⟩, ⟨rfl, ⟨rfl, rfl⟩, trivial⟩, ⟨rfl, rfl, rows_same⟩, ⟨rfl, rfl, rows_same⟩, trivial⟩, ⟨rfl, rfl⟩, ⟨rfl, rfl⟩, ⟨rfl, rfl⟩, rfl, rfl, rfl, rfl, rfl, ⟨rfl, rfl⟩, rfl, trivial⟩
          · replace h := iteF h g401
            conv => whnf
            exact CutK.piece (laws_FnHydrasOfOrdinals_p11_ct  h) [some 320, some 384, some 640, some 1024, some 1114000, some 4096] [] ⟨⟨rfl, rfl⟩, ⟨rfl, ⟨rfl, ⟨rfl, rfl⟩, trivial⟩, ⟨rfl, rfl, trivial⟩, ⟨rfl, rfl, trivial⟩, ⟨rfl, ⟨rfl, rfl⟩, trivial⟩, ⟨rfl, rfl, rows_same⟩, ⟨rfl, rfl, rows_same⟩, trivial⟩, ⟨rfl, rfl⟩, ⟨rfl, rfl⟩, ⟨rfl, rfl⟩, rfl, rfl, rfl, rfl, rfl, ⟨rfl, rfl⟩, rfl, trivial⟩
        · replace h := condT h
          conv => whnf
          refine Pick.no ?_
          conv => whnf
          obtain ⟨y402, e403, h⟩ := bind_ex h
          refine CallOk.of (impl_ParseHydra_ct e403) ?_
          conv => whnf
          refine spl (fun g404 => ?_) (fun g404 => ?_)
          · replace h := iteT h g404
            conv => whnf
            exact CutK.piece (laws_FnHydrasOfOrdinals_p11_ct  h) [some 320, some 384, some 640, some 1024, some 1114000, some 4096] [] ⟨⟨rfl, rfl⟩, ⟨rfl, ⟨rfl, ⟨rfl, rfl⟩, trivial⟩, ⟨rfl, rfl, trivial⟩, ⟨rfl, rfl, trivial⟩, ⟨rfl, ⟨rfl, rfl⟩, trivial⟩, ⟨rfl, rfl, rows_same⟩, ⟨rfl, rfl, rows_same⟩, trivial⟩, ⟨rfl, rfl⟩, ⟨rfl, rfl⟩, ⟨rfl, rfl⟩, rfl, rfl, rfl, rfl, rfl, ⟨rfl, rfl⟩, rfl, trivial⟩
          · replace h := iteF h g404
            conv => whnf
            exact CutK.piece (laws_FnHydrasOfOrdinals_p11_ct  h) [some 320, some 384, some 640, some 1024, some 1114000, some 4096] [] ⟨⟨rfl, rfl⟩, ⟨rfl, ⟨rfl, ⟨rfl, rfl⟩, trivial⟩, ⟨rfl, rfl, trivial⟩, ⟨rfl, rfl, trivial⟩, ⟨rfl, ⟨rfl, rfl⟩, trivial⟩, ⟨rfl, rfl, rows_same⟩, ⟨rfl, rfl, rows_same⟩, trivial⟩, ⟨rfl, rfl⟩, ⟨rfl, rfl⟩, ⟨rfl, rfl⟩, rfl, rfl, rfl, rfl, rfl, ⟨rfl, rfl⟩, rfl, trivial⟩
    · replace h := condT h
      cases v73
      · replace h := condF h
        cases v80
        · replace h := condF h
          conv => whnf
          refine Pick.no ?_
          conv => whnf
          obtain ⟨y405, e406, h⟩ := bind_ex h
          refine CallOk.of (impl_ParseHydra_ct e406) ?_
          conv => whnf
          refine spl (fun g407 => ?_) (fun g407 => ?_)
          · replace h := iteT h g407
            conv => whnf
            exact CutK.piece (laws_FnHydrasOfOrdinals_p11_ct  h) [some 320, some 384, some 640, some 1024, some 1114000, some 4096] [] ⟨⟨rfl, rfl⟩, ⟨rfl, ⟨rfl, ⟨rfl, rfl⟩, trivial⟩, ⟨rfl, rfl, trivial⟩, ⟨rfl, rfl, trivial⟩, ⟨rfl, ⟨rfl, rfl⟩, trivial⟩, ⟨rfl, rfl, rows_same⟩, ⟨rfl, rfl, rows_same⟩, trivial⟩, ⟨rfl, rfl⟩, ⟨rfl, rfl⟩, ⟨rfl, rfl⟩, rfl, rfl, rfl, rfl, rfl, ⟨rfl, rfl⟩, rfl, trivial⟩
          · replace h := iteF h g407
            conv => whnf
            exact CutK.piece (laws_FnHydrasOfOrdinals_p11_ct  h) [some 320, some 384, some 640, some 1024, some 1114000, some 4096] [] ⟨⟨rfl, rfl⟩, ⟨rfl, ⟨rfl, ⟨rfl, rfl⟩, trivial⟩, ⟨rfl, rfl, trivial⟩, ⟨rfl, rfl, trivial⟩, ⟨rfl, ⟨rfl, rfl⟩, trivial⟩, ⟨rfl, rfl, rows_same⟩, ⟨rfl, rfl, rows_same⟩, trivial⟩, ⟨rfl, rfl⟩, ⟨rfl, rfl⟩, ⟨rfl, rfl⟩, rfl, rfl, rfl, rfl, rfl, ⟨rfl, rfl⟩, rfl, trivial⟩
        · replace h := condT h
          conv => whnf
          refine Pick.no ?_
          conv => whnf
          obtain ⟨y408, e409, h⟩ := bind_ex h
          refine CallOk.of (impl_ParseHydra_ct e409) ?_
          conv => whnf
          refine spl (fun g410 => ?_) (fun g410 => ?_)
          · replace h := iteT h g410
            conv => whnf
            exact CutK.piece (laws_FnHydrasOfOrdinals_p11_ct  h) [some 320, some 384, some 640, some 1024, some 1114000, some 4096] [] ⟨⟨rfl, rfl⟩, ⟨rfl, ⟨rfl, ⟨rfl, rfl⟩, trivial⟩, ⟨rfl, rfl, trivial⟩, ⟨rfl, rfl, trivial⟩, ⟨rfl, ⟨rfl, rfl⟩, trivial⟩, ⟨rfl, rfl, rows_same⟩, ⟨rfl, rfl, rows_same⟩, trivial⟩, ⟨rfl, rfl⟩, ⟨rfl, rfl⟩, ⟨rfl, rfl⟩, rfl, rfl, rfl, rfl, rfl, ⟨rfl, rfl⟩, rfl, trivial⟩
          · replace h := iteF h g410
            conv => whnf
            exact CutK.piece (laws_FnHydrasOfOrdinals_p11_ct  h) [some 320, some 384, some 640, some 1024, some 1114000, some 4096] [] ⟨⟨rfl, rfl⟩, ⟨rfl, ⟨rfl, ⟨rfl, rfl⟩, trivial⟩, ⟨rfl, rfl, trivial⟩, ⟨rfl, rfl, trivial⟩, ⟨rfl, ⟨rfl, rfl⟩, trivial⟩, ⟨rfl, rfl, rows_same⟩, ⟨rfl, rfl, rows_same⟩, trivial⟩, ⟨rfl, rfl⟩, ⟨rfl, rfl⟩, ⟨rfl, rfl⟩, rfl, rfl, rfl, rfl, rfl, ⟨rfl, rfl⟩, rfl, trivial⟩
      · replace h := condT h
        cases v80
        · replace h := condF h
          conv => whnf
          refine Pick.no ?_
          conv => whnf
          obtain ⟨y411, e412, h⟩ := bind_ex h
          refine CallOk.of (impl_ParseHydra_ct e412) ?_
          conv => whnf
          refine spl (fun g413 => ?_) (fun g413 => ?_)
          · replace h := iteT h g413
            conv => whnf
            exact CutK.piece (laws_FnHydrasOfOrdinals_p11_ct  h) [some 320, some 384, some 640, some 1024, some 1114000, some 4096] [] ⟨⟨rfl, rfl⟩, ⟨rfl, ⟨rfl, ⟨rfl, rfl⟩, trivial⟩, ⟨rfl, rfl, trivial⟩, ⟨rfl, rfl, trivial⟩, ⟨rfl, ⟨rfl, rfl⟩, trivial⟩, ⟨rfl, rfl, rows_same⟩, ⟨rfl, rfl, rows_same⟩, trivial⟩, ⟨rfl, rfl⟩, ⟨rfl, rfl⟩, ⟨rfl, rfl⟩, rfl, rfl, rfl, rfl, rfl, ⟨rfl, rfl⟩, rfl, trivial⟩
          · replace h := iteF h g413
            conv => whnf
            exact CutK.piece (laws_FnHydrasOfOrdinals_p11_ct  h) [some 320, some 384, some 640, some 1024, some 1114000, some 4096] [] ⟨⟨rfl, rfl⟩, ⟨rfl, ⟨rfl, ⟨rfl, rfl⟩, trivial⟩, ⟨rfl, rfl, trivial⟩, ⟨rfl, rfl, trivial⟩, ⟨rfl, ⟨rfl, rfl⟩, trivial⟩, ⟨rfl, rfl, rows_same⟩, ⟨rfl, rfl, rows_same⟩, trivial⟩, ⟨rfl, rfl⟩, ⟨rfl, rfl⟩, ⟨rfl, rfl⟩, rfl, rfl, rfl, rfl, rfl, ⟨rfl, rfl⟩, rfl, trivial⟩
        · replace h := condT h
          conv => whnf
          refine Pick.no ?_
          conv => whnf
          obtain ⟨y414, e415, h⟩ := bind_ex h
          refine CallOk.of (impl_ParseHydra_ct e415) ?_
          conv => whnf
          refine spl (fun g416 => ?_) (fun g416 => ?_)
          · replace h := iteT h g416
            conv => whnf
            exact CutK.piece (laws_FnHydrasOfOrdinals_p11_ct  h) [some 320, some 384, some 640, some 1024, some 1114000, some 4096] [] ⟨⟨rfl, rfl⟩, ⟨rfl, ⟨rfl, ⟨rfl, rfl⟩, trivial⟩, ⟨rfl, rfl, trivial⟩, ⟨rfl, rfl, trivial⟩, ⟨rfl, ⟨rfl, rfl⟩, trivial⟩, ⟨rfl, rfl, rows_same⟩, ⟨rfl, rfl, rows_same⟩, trivial⟩, ⟨rfl, rfl⟩, ⟨rfl, rfl⟩, ⟨rfl, rfl⟩, rfl, rfl, rfl, rfl, rfl, ⟨rfl, rfl⟩, rfl, trivial⟩
          · replace h := iteF h g416
            conv => whnf
            exact CutK.piece (laws_FnHydrasOfOrdinals_p11_ct  h) [some 320, some 384, some 640, some 1024, some 1114000, some 4096] [] ⟨⟨rfl, rfl⟩, ⟨rfl, ⟨rfl, ⟨rfl, rfl⟩, trivial⟩, ⟨rfl, rfl, trivial⟩, ⟨rfl, rfl, trivial⟩, ⟨rfl, ⟨rfl, rfl⟩, trivial⟩, ⟨rfl, rfl, rows_same⟩, ⟨rfl, rfl, rows_same⟩, trivial⟩, ⟨rfl, rfl⟩, ⟨rfl, rfl⟩, ⟨rfl, rfl⟩, rfl, rfl, rfl, rfl, rfl, ⟨rfl, rfl⟩, rfl, trivial⟩
def laws_FnHydrasOfOrdinals_p9 (k : Nat) (o46 : Rw) (o47 : Rw) (o48 : Rw) (v49 : Bool) (v51 : Bool) (v56 : Bool) : Option Bool :=
  (cond v49 (cond v51 (cond v56 ((impl_HydraText k o46).bind fun y438 => (if y438.2 = true then (laws_FnHydrasOfOrdinals_p10 k y438.1 o46 o47 o48 true true true true) else (laws_FnHydrasOfOrdinals_p10 k y438.1 o46 o47 o48 false true true true))) ((impl_HydraText k o46).bind fun y435 => (if y435.2 = true then (laws_FnHydrasOfOrdinals_p10 k y435.1 o46 o47 o48 true false true true) else (laws_FnHydrasOfOrdinals_p10 k y435.1 o46 o47 o48 false false true true)))) (cond v56 ((impl_HydraText k o46).bind fun y432 => (if y432.2 = true then (laws_FnHydrasOfOrdinals_p10 k y432.1 o46 o47 o48 true true false true) else (laws_FnHydrasOfOrdinals_p10 k y432.1 o46 o47 o48 false true false true))) ((impl_HydraText k o46).bind fun y429 => (if y429.2 = true then (laws_FnHydrasOfOrdinals_p10 k y429.1 o46 o47 o48 true false false true) else (laws_FnHydrasOfOrdinals_p10 k y429.1 o46 o47 o48 false false false true))))) (cond v51 (cond v56 ((impl_HydraText k o46).bind fun y426 => (if y426.2 = true then (laws_FnHydrasOfOrdinals_p10 k y426.1 o46 o47 o48 true true true false) else (laws_FnHydrasOfOrdinals_p10 k y426.1 o46 o47 o48 false true true false))) ((impl_HydraText k o46).bind fun y423 => (if y423.2 = true then (laws_FnHydrasOfOrdinals_p10 k y423.1 o46 o47 o48 true false true false) else (laws_FnHydrasOfOrdinals_p10 k y423.1 o46 o47 o48 false false true false)))) (cond v56 ((impl_HydraText k o46).bind fun y420 => (if y420.2 = true then (laws_FnHydrasOfOrdinals_p10 k y420.1 o46 o47 o48 true true false false) else (laws_FnHydrasOfOrdinals_p10 k y420.1 o46 o47 o48 false true false false))) ((impl_HydraText k o46).bind fun y417 => (if y417.2 = true then (laws_FnHydrasOfOrdinals_p10 k y417.1 o46 o47 o48 true false false false) else (laws_FnHydrasOfOrdinals_p10 k y417.1 o46 o47 o48 false false false false))))))
set_option maxHeartbeats 4000000 in
set_option maxRecDepth 100000 in
theorem laws_FnHydrasOfOrdinals_p9_ct {k : Nat} {o46 : Rw} {o47 : Rw} {o48 : Rw} {v49 : Bool} {v51 : Bool} {v56 : Bool} {r : Bool} (h : laws_FnHydrasOfOrdinals_p9 k o46 o47 o48 v49 v51 v56 = some r) : X prog 0 (tlF f7 9) (mk 118 [(5, .ptr 320 0), (6, .ptr 384 0), (10, .ptr 640 0), (11, .d (D.bool v56)), (12, .d (D.bool v51)), (13, .d (D.bool v49))] [(320, .box 31 [.os 1109000 o46.length]), (384, .box 28 [.d (D.sl o47)]), (640, .box 31 [.d (D.sl o48)]), (1109000, .arr 3 true o46)]) (finK prog f7 0 (.d (D.bool r)) (⟨[], []⟩)) := by
  rw [laws_FnHydrasOfOrdinals_p9] at h
  cases v49
  · replace h := condF h
    cases v51
    · replace h := condF h
      cases v56
      · replace h := condF h
        conv => whnf
        refine Pick.no ?_
        conv => whnf
        refine Take.all (rfl) ?_
        conv => whnf
        obtain ⟨y417, e418, h⟩ := bind_ex h
        refine CallOk.of (impl_HydraText_ct e418) ?_
        conv => whnf
        refine spl (fun g419 => ?_) (fun g419 => ?_)
        · replace h := iteT h g419
          conv => whnf
          exact CutK.piece (laws_FnHydrasOfOrdinals_p10_ct  h) [some 320, some 384, some 640, some 1109000] [] ⟨⟨rfl, rfl⟩, ⟨rfl, ⟨rfl, ⟨rfl, rfl⟩, trivial⟩, ⟨rfl, rfl, trivial⟩, ⟨rfl, rfl, trivial⟩, ⟨rfl, rfl, rows_same⟩, trivial⟩, ⟨rfl, rfl⟩, ⟨rfl, rfl⟩, ⟨rfl, rfl⟩, rfl, rfl, rfl, rfl, rfl, trivial⟩
        · replace h := iteF h g419
          conv => whnf
          exact CutK.piece (laws_FnHydrasOfOrdinals_p10_ct  h) [some 320, some 384, some 640, some 1109000] [] ⟨⟨rfl, rfl⟩, ⟨rfl, ⟨rfl, ⟨rfl, rfl⟩, trivial⟩, ⟨rfl, rfl, trivial⟩, ⟨rfl, rfl, trivial⟩, ⟨rfl, rfl, rows_same⟩, trivial⟩, ⟨rfl, rfl⟩, ⟨rfl, rfl⟩, ⟨rfl, rfl⟩, rfl, rfl, rfl, rfl, rfl, trivial⟩
      · replace h := condT h
        conv => whnf
        refine Pick.no ?_
        conv => whnf
        refine Take.all (rfl) ?_
        conv => whnf
        obtain ⟨y420, e421, h⟩ := bind_ex h
        refine CallOk.of (impl_HydraText_ct e421) ?_
        conv => whnf
        refine spl (fun g422 => ?_) (fun g422 => ?_)
        · replace h := iteT h g422
          conv => whnf
          exact CutK.piece (laws_FnHydrasOfOrdinals_p10_ct  h) [some 320, some 384, some 640, some 1109000] [] ⟨⟨rfl, rfl⟩, ⟨rfl, ⟨rfl, ⟨rfl, rfl⟩, trivial⟩, ⟨rfl, rfl, trivial⟩, ⟨rfl, rfl, trivial⟩, ⟨rfl, rfl, rows_same⟩, trivial⟩, ⟨rfl, rfl⟩, ⟨rfl, rfl⟩, ⟨rfl, rfl⟩, rfl, rfl, rfl, rfl, rfl, trivial⟩
        · replace h := iteF h g422
          conv => whnf
          exact CutK.piece (laws_FnHydrasOfOrdinals_p10_ct  h) [some 320, some 384, some 640, some 1109000] [] ⟨⟨rfl, rfl⟩, ⟨rfl, ⟨rfl, ⟨rfl, rfl⟩, trivial⟩, ⟨rfl, rfl, trivial⟩, ⟨rfl, rfl, trivial⟩, ⟨rfl, rfl, rows_same⟩, trivial⟩, ⟨rfl, rfl⟩, ⟨rfl, rfl⟩, ⟨rfl, rfl⟩, rfl, rfl, rfl, rfl, rfl, trivial⟩
    · replace h := condT h
      cases v56
      · replace h := condF h
        conv => whnf
        refine Pick.no ?_
        conv => whnf
        refine Take.all (rfl) ?_
        conv => whnf
        obtain ⟨y423, e424, h⟩ := bind_ex h
        refine CallOk.of (impl_HydraText_ct e424) ?_
        conv => whnf
        refine spl (fun g425 => ?_) (fun g425 => ?_)
        · replace h := iteT h g425
          conv => whnf
          exact CutK.piece (laws_FnHydrasOfOrdinals_p10_ct  h) [some 320, some 384, some 640, some 1109000] [] ⟨⟨rfl, rfl⟩, ⟨rfl, ⟨rfl, ⟨rfl, rfl⟩, trivial⟩, ⟨rfl, rfl, trivial⟩, ⟨rfl, rfl, trivial⟩, ⟨rfl, rfl, rows_same⟩, trivial⟩, ⟨rfl, rfl⟩, ⟨rfl, rfl⟩, ⟨rfl, rfl⟩, rfl, rfl, rfl, rfl, rfl, trivial⟩
        · replace h := iteF h g425
          conv => whnf
          exact CutK.piece (laws_FnHydrasOfOrdinals_p10_ct  h) [some 320, some 384, some 640, some 1109000] [] ⟨⟨rfl, rfl⟩, ⟨rfl, ⟨rfl, ⟨rfl, rfl⟩, trivial⟩, ⟨rfl, rfl, trivial⟩, ⟨rfl, rfl, trivial⟩, ⟨rfl, rfl, rows_same⟩, trivial⟩, ⟨rfl, rfl⟩, ⟨rfl, rfl⟩, ⟨rfl, rfl⟩, rfl, rfl, rfl, rfl, rfl, trivial⟩
      · replace h := condT h
        conv => whnf
        refine Pick.no ?_
        conv => whnf
        refine Take.all (rfl) ?_
        conv => whnf
        obtain ⟨y426, e427, h⟩ := bind_ex h
        refine CallOk.of (impl_HydraText_ct e427) ?_
        conv => whnf
        refine spl (fun g428 => ?_) (fun g428 => ?_)
        · replace h := iteT h g428
          conv => whnf
          exact CutK.piece (laws_FnHydrasOfOrdinals_p10_ct  h) [some 320, some 384, some 640, some 1109000] [] ⟨⟨rfl, rfl⟩, ⟨rfl, ⟨rfl, ⟨rfl, rfl⟩, trivial⟩, ⟨rfl, rfl, trivial⟩, ⟨rfl, rfl, trivial⟩, ⟨rfl, rfl, rows_same⟩, trivial⟩, ⟨rfl, rfl⟩, ⟨rfl, rfl⟩, ⟨rfl, rfl⟩, rfl, rfl, rfl, rfl, rfl, trivial⟩
        · replace h := iteF h g428
          conv => whnf
          exact CutK.piece (laws_FnHydrasOfOrdinals_p10_ct  h) [some 320, some 384, some 640, some 1109000] [] ⟨⟨rfl, rfl⟩, ⟨rfl, ⟨rfl, ⟨rfl, rfl⟩, trivial⟩, ⟨rfl, rfl, trivial⟩, ⟨rfl, rfl, trivial⟩, ⟨rfl, rfl, rows_same⟩, trivial⟩, ⟨rfl, rfl⟩, ⟨rfl, rfl⟩, ⟨rfl, rfl⟩, rfl, rfl, rfl, rfl, rfl, trivial⟩
  · replace h := condT h
    cases v51
    · replace h := condF h
      cases v56
      · replace h := condF h
        conv => whnf
        refine Pick.no ?_
        conv => whnf
        refine Take.all (rfl) ?_
        conv => whnf
        obtain ⟨y429, e430, h⟩ := bind_ex h
        refine CallOk.of (impl_HydraText_ct e430) ?_
        conv => whnf
        refine spl (fun g431 => ?_) (fun g431 => ?_)
        · replace h := iteT h g431
          conv => whnf
          exact CutK.piece (laws_FnHydrasOfOrdinals_p10_ct  h) [some 320, some 384, some 640, some 1109000] [] ⟨⟨rfl, rfl⟩, ⟨rfl, ⟨rfl, ⟨rfl, rfl⟩, trivial⟩, ⟨rfl, rfl, trivial⟩, ⟨rfl, rfl, trivial⟩, ⟨rfl, rfl, rows_same⟩, trivial⟩, ⟨rfl, rfl⟩, ⟨rfl, rfl⟩, ⟨rfl, rfl⟩, rfl, rfl, rfl, rfl, rfl, trivial⟩
        · replace h := iteF h g431
          conv => whnf
          exact CutK.piece (laws_FnHydrasOfOrdinals_p10_ct  h) [some 320, some 384, some 640, some 1109000] [] ⟨⟨rfl, rfl⟩, ⟨rfl, ⟨rfl, ⟨rfl, rfl⟩, trivial⟩, ⟨rfl, rfl, trivial⟩, ⟨rfl, rfl, trivial⟩, ⟨rfl, rfl, rows_same⟩, trivial⟩, ⟨rfl, rfl⟩, ⟨rfl, rfl⟩, ⟨rfl, rfl⟩, rfl, rfl, rfl, rfl, rfl, trivial⟩
      · replace h := condT h
        conv => whnf
        refine Pick.no ?_
        conv => whnf
        refine Take.all (rfl) ?_
        conv => whnf
        obtain ⟨y432, e433, h⟩ := bind_ex h
        refine CallOk.of (impl_HydraText_ct e433) ?_
        conv => whnf
        refine spl (fun g434 => ?_) (fun g434 => ?_)
        · replace h := iteT h g434
          conv => whnf
          exact CutK.piece (laws_FnHydrasOfOrdinals_p10_ct  h) [some 320, some 384, some 640, some 1109000] [] ⟨⟨rfl, rfl⟩, ⟨rfl, ⟨rfl, ⟨rfl, rfl⟩, trivial⟩, ⟨rfl, rfl, trivial⟩, ⟨rfl, rfl, trivial⟩, ⟨rfl, rfl, rows_same⟩, trivial⟩, ⟨rfl, rfl⟩, ⟨rfl, rfl⟩, ⟨rfl, rfl⟩, rfl, rfl, rfl, rfl, rfl, trivial⟩
        · replace h := iteF h g434
          conv => whnf
          exact CutK.piece (laws_FnHydrasOfOrdinals_p10_ct  h) [some 320, some 384, some 640, some 1109000] [] ⟨⟨rfl, rfl⟩, ⟨rfl, ⟨rfl, ⟨rfl, rfl⟩, trivial⟩, ⟨rfl, rfl, trivial⟩, ⟨rfl, rfl, trivial⟩, ⟨rfl, rfl, rows_same⟩, trivial⟩, ⟨rfl, rfl⟩, ⟨rfl, rfl⟩, ⟨rfl, rfl⟩, rfl, rfl, rfl, rfl, rfl, trivial⟩
    · replace h := condT h
      cases v56
      · replace h := condF h
        conv => whnf
        refine Pick.no ?_
        conv => whnf
        refine Take.all (rfl) ?_
        conv => whnf
        obtain ⟨y435, e436, h⟩ := bind_ex h
        refine CallOk.of (impl_HydraText_ct e436) ?_
        conv => whnf
        refine spl (fun g437 => ?_) (fun g437 => ?_)
        · replace h := iteT h g437
          conv => whnf
          exact CutK.piece (laws_FnHydrasOfOrdinals_p10_ct  h) [some 320, some 384, some 640, some 1109000] [] ⟨⟨rfl, rfl⟩, ⟨rfl, ⟨rfl, ⟨rfl, rfl⟩, trivial⟩, ⟨rfl, rfl, trivial⟩, ⟨rfl, rfl, trivial⟩, ⟨rfl, rfl, rows_same⟩, trivial⟩, ⟨rfl, rfl⟩, ⟨rfl, rfl⟩, ⟨rfl, rfl⟩, rfl, rfl, rfl, rfl, rfl, trivial⟩
        · replace h := iteF h g437
          conv => whnf
          exact CutK.piece (laws_FnHydrasOfOrdinals_p10_ct  h) [some 320, some 384, some 640, some 1109000] [] ⟨⟨rfl, rfl⟩, ⟨rfl, ⟨rfl, ⟨rfl, rfl⟩, trivial⟩, ⟨rfl, rfl, trivial⟩, ⟨rfl, rfl, trivial⟩, ⟨rfl, rfl, rows_same⟩, trivial⟩, ⟨rfl, rfl⟩, ⟨rfl, rfl⟩, ⟨rfl, rfl⟩, rfl, rfl, rfl, rfl, rfl, trivial⟩
      · replace h := condT h
        conv => whnf
        refine Pick.no ?_
        conv => whnf
        refine Take.all (rfl) ?_
        conv => whnf
        obtain ⟨y438, e439, h⟩ := bind_ex h
        refine CallOk.of (impl_HydraText_ct e439) ?_
        conv => whnf
        refine spl (fun g440 => ?_) (fun g440 => ?_)
        · replace h := iteT h g440
          conv => whnf
          exact CutK.piece (laws_FnHydrasOfOrdinals_p10_ct  h) [some 320, some 384, some 640, some 1109000] [] ⟨⟨rfl, rfl⟩, ⟨rfl, ⟨rfl, ⟨rfl, rfl⟩, trivial⟩, ⟨rfl, rfl, trivial⟩, ⟨rfl, rfl, trivial⟩, ⟨rfl, rfl, rows_same⟩, trivial⟩, ⟨rfl, rfl⟩, ⟨rfl, rfl⟩, ⟨rfl, rfl⟩, rfl, rfl, rfl, rfl, rfl, trivial⟩
        · replace h := iteF h g440
          conv => whnf
          exact CutK.piece (laws_FnHydrasOfOrdinals_p10_ct  h) [some 320, some 384, some 640, some 1109000] [] ⟨⟨rfl, rfl⟩, ⟨rfl, ⟨rfl, ⟨rfl, rfl⟩, trivial⟩, ⟨rfl, rfl, trivial⟩, ⟨rfl, rfl, trivial⟩, ⟨rfl, rfl, rows_same⟩, trivial⟩, ⟨rfl, rfl⟩, ⟨rfl, rfl⟩, ⟨rfl, rfl⟩, rfl, rfl, rfl, rfl, rfl, trivial⟩
def laws_FnHydrasOfOrdinals_p8 (k : Nat) (o38 : Rw) (o39 : Rw) (o40 : Rw) (v41 : Bool) : Option Bool :=
  (cond v41 ((impl_SameHydra k o38 o40).bind fun y446 => (if y446.1 = true then (if y446.2 = true then (laws_FnHydrasOfOrdinals_p9 k o38 o39 o40 true true true) else (laws_FnHydrasOfOrdinals_p9 k o38 o39 o40 false true true)) else (if y446.2 = true then (laws_FnHydrasOfOrdinals_p9 k o38 o39 o40 true false true) else (laws_FnHydrasOfOrdinals_p9 k o38 o39 o40 false false true)))) ((impl_SameHydra k o38 o40).bind fun y441 => (if y441.1 = true then (if y441.2 = true then (laws_FnHydrasOfOrdinals_p9 k o38 o39 o40 true true false) else (laws_FnHydrasOfOrdinals_p9 k o38 o39 o40 false true false)) else (if y441.2 = true then (laws_FnHydrasOfOrdinals_p9 k o38 o39 o40 true false false) else (laws_FnHydrasOfOrdinals_p9 k o38 o39 o40 false false false)))))
set_option maxHeartbeats 4000000 in
set_option maxRecDepth 100000 in
theorem laws_FnHydrasOfOrdinals_p8_ct {k : Nat} {o38 : Rw} {o39 : Rw} {o40 : Rw} {v41 : Bool} {r : Bool} (h : laws_FnHydrasOfOrdinals_p8 k o38 o39 o40 v41 = some r) : X prog 0 (tlF f7 8) (mk 118 [(5, .ptr 320 0), (6, .ptr 384 0), (10, .ptr 640 0), (11, .d (D.bool v41))] [(320, .box 31 [.os 1104000 o38.length]), (384, .box 28 [.d (D.sl o39)]), (640, .box 31 [.d (D.sl o40)]), (1104000, .arr 3 true o38)]) (finK prog f7 0 (.d (D.bool r)) (⟨[], []⟩)) := by
  rw [laws_FnHydrasOfOrdinals_p8] at h
  cases v41
  · replace h := condF h
    conv => whnf
    refine Pick.no ?_
    conv => whnf
    refine Take.all (rfl) ?_
    conv => whnf
    obtain ⟨y441, e442, h⟩ := bind_ex h
    refine CallOk.of (impl_SameHydra_ct e442) ?_
    conv => whnf
    refine spl (fun g443 => ?_) (fun g443 => ?_)
    · replace h := iteT h g443
      conv => whnf
      refine spl (fun g444 => ?_) (fun g444 => ?_)
      · replace h := iteT h g444
        conv => whnf
        exact CutK.piece (laws_FnHydrasOfOrdinals_p9_ct  h) [some 320, some 384, some 640, some 1104000] [] ⟨⟨rfl, rfl⟩, ⟨rfl, ⟨rfl, ⟨rfl, rfl⟩, trivial⟩, ⟨rfl, rfl, trivial⟩, ⟨rfl, rfl, trivial⟩, ⟨rfl, rfl, rows_same⟩, trivial⟩, ⟨rfl, rfl⟩, ⟨rfl, rfl⟩, ⟨rfl, rfl⟩, rfl, rfl, rfl, trivial⟩
      · replace h := iteF h g444
        conv => whnf
        exact CutK.piece (laws_FnHydrasOfOrdinals_p9_ct  h) [some 320, some 384, some 640, some 1104000] [] ⟨⟨rfl, rfl⟩, ⟨rfl, ⟨rfl, ⟨rfl, rfl⟩, trivial⟩, ⟨rfl, rfl, trivial⟩, ⟨rfl, rfl, trivial⟩, ⟨rfl, rfl, rows_same⟩, trivial⟩, ⟨rfl, rfl⟩, ⟨rfl, rfl⟩, ⟨rfl, rfl⟩, rfl, rfl, rfl, trivial⟩
    · replace h := iteF h g443
      conv => whnf
      refine spl (fun g445 => ?_) (fun g445 => ?_)
      · replace h := iteT h g445
        conv => whnf
        exact CutK.piece (laws_FnHydrasOfOrdinals_p9_ct  h) [some 320, some 384, some 640, some 1104000] [] ⟨⟨rfl, rfl⟩, ⟨rfl, ⟨rfl, ⟨rfl, rfl⟩, trivial⟩, ⟨rfl, rfl, trivial⟩, ⟨rfl, rfl, trivial⟩, ⟨rfl, rfl, rows_same⟩, trivial⟩, ⟨rfl, rfl⟩, ⟨rfl, rfl⟩, ⟨rfl, rfl⟩, rfl, rfl, rfl, trivial⟩
      · replace h := iteF h g445
        conv => whnf
        exact CutK.piece (laws_FnHydrasOfOrdinals_p9_ct  h) [some 320, some 384, some 640, some 1104000] [] ⟨⟨rfl, rfl⟩, ⟨rfl, ⟨rfl, ⟨rfl, rfl⟩, trivial⟩, ⟨rfl, rfl, trivial⟩, ⟨rfl, rfl, trivial⟩, ⟨rfl, rfl, rows_same⟩, trivial⟩, ⟨rfl, rfl⟩, ⟨rfl, rfl⟩, ⟨rfl, rfl⟩, rfl, rfl, rfl, trivial⟩
  · replace h := condT h
    conv => whnf
    refine Pick.no ?_
    conv => whnf
    refine Take.all (rfl) ?_
    conv => whnf
    obtain ⟨y446, e447, h⟩ := bind_ex h
    refine CallOk.of (impl_SameHydra_ct e447) ?_
    conv => whnf
    refine spl (fun g448 => ?_) (fun g448 => ?_)
    · replace h := iteT h g448
      conv => whnf
      refine spl (fun g449 => ?_) (fun g449 => ?_)
      · replace h := iteT h g449
        conv => whnf
        exact CutK.piece (laws_FnHydrasOfOrdinals_p9_ct  h) [some 320, some 384, some 640, some 1104000] [] ⟨⟨rfl, rfl⟩, ⟨rfl, ⟨rfl, ⟨rfl, rfl⟩, trivial⟩, ⟨rfl, rfl, trivial⟩, ⟨rfl, rfl, trivial⟩, ⟨rfl, rfl, rows_same⟩, trivial⟩, ⟨rfl, rfl⟩, ⟨rfl, rfl⟩, ⟨rfl, rfl⟩, rfl, rfl, rfl, trivial⟩
      · replace h := iteF h g449
        conv => whnf
        exact CutK.piece (laws_FnHydrasOfOrdinals_p9_ct  h) [some 320, some 384, some 640, some 1104000] [] ⟨⟨rfl, rfl⟩, ⟨rfl, ⟨rfl, ⟨rfl, rfl⟩, trivial⟩, ⟨rfl, rfl, trivial⟩, ⟨rfl, rfl, trivial⟩, ⟨rfl, rfl, rows_same⟩, trivial⟩, ⟨rfl, rfl⟩, ⟨rfl, rfl⟩, ⟨rfl, rfl⟩, rfl, rfl, rfl, trivial⟩
    · replace h := iteF h g448
      conv => whnf
      refine spl (fun g450 => ?_) (fun g450 => ?_)
      · replace h := iteT h g450
        conv => whnf
        exact CutK.piece (laws_FnHydrasOfOrdinals_p9_ct  h) [some 320, some 384, some 640, some 1104000] [] ⟨⟨rfl, rfl⟩, ⟨rfl, ⟨rfl, ⟨rfl, rfl⟩, trivial⟩, ⟨rfl, rfl, trivial⟩, ⟨rfl, rfl, trivial⟩, ⟨rfl, rfl, rows_same⟩, trivial⟩, ⟨rfl, rfl⟩, ⟨rfl, rfl⟩, ⟨rfl, rfl⟩, rfl, rfl, rfl, trivial⟩
      · replace h := iteF h g450
        conv => whnf
        exact CutK.piece (laws_FnHydrasOfOrdinals_p9_ct  h) [some 320, some 384, some 640, some 1104000] [] ⟨⟨rfl, rfl⟩, ⟨rfl, ⟨rfl, ⟨rfl, rfl⟩, trivial⟩, ⟨rfl, rfl, trivial⟩, ⟨rfl, rfl, trivial⟩, ⟨rfl, rfl, rows_same⟩, trivial⟩, ⟨rfl, rfl⟩, ⟨rfl, rfl⟩, ⟨rfl, rfl⟩, rfl, rfl, rfl, trivial⟩
def laws_FnHydrasOfOrdinals_p6 (k : Nat) (o29 : Rw) (o30 : Rw) (v34 : Bool) : Option Bool :=
  (cond v34 ((impl_HydraOf k o30).bind fun y451 => (if y451.2 = true then (laws_FnHydrasOfOrdinals_p8 k o29 o30 y451.1 true) else (laws_FnHydrasOfOrdinals_p8 k o29 o30 y451.1 false))) (some true))
set_option maxHeartbeats 4000000 in
set_option maxRecDepth 100000 in
theorem laws_FnHydrasOfOrdinals_p6_ct {k : Nat} {o29 : Rw} {o30 : Rw} {v34 : Bool} {r : Bool} (h : laws_FnHydrasOfOrdinals_p6 k o29 o30 v34 = some r) : X prog 0 (tlF f7 6) (mk 118 [(5, .ptr 320 0), (6, .ptr 384 0), (9, .d (D.bool v34))] [(320, .box 31 [.os 1094000 o29.length]), (384, .box 28 [.os 1094001 o30.length]), (1094000, .arr 3 true o29), (1094001, .arr 96 true o30)]) (finK prog f7 0 (.d (D.bool r)) (⟨[], []⟩)) := by
  rw [laws_FnHydrasOfOrdinals_p6] at h
  cases v34
  · replace h := condF h
    conv => whnf
    cases h
    exact Done.of [] [] rfl rfl ⟨⟨rfl, rfl⟩, ⟨rfl, trivial⟩, rfl, trivial⟩
  · replace h := condT h
    conv => whnf
    refine Pick.no ?_
    conv => whnf
    refine Take.all (rfl) ?_
    conv => whnf
    obtain ⟨y451, e452, h⟩ := bind_ex h
    refine CallOk.of (impl_HydraOf_ct e452) ?_
    conv => whnf
    refine spl (fun g453 => ?_) (fun g453 => ?_)
    · replace h := iteT h g453
      conv => whnf
      exact CutK.piece (laws_FnHydrasOfOrdinals_p8_ct  h) [some 320, some 384, some 640, some 1094000] [] ⟨⟨rfl, rfl⟩, ⟨rfl, ⟨rfl, ⟨rfl, rfl⟩, trivial⟩, ⟨rfl, ⟨Nat.le_of_eq rfl, eq_take rfl⟩, trivial⟩, ⟨rfl, rfl, trivial⟩, ⟨rfl, rfl, rows_same⟩, trivial⟩, ⟨rfl, rfl⟩, ⟨rfl, rfl⟩, ⟨rfl, rfl⟩, rfl, trivial⟩
    · replace h := iteF h g453
      conv => whnf
      exact CutK.piece (laws_FnHydrasOfOrdinals_p8_ct  h) [some 320, some 384, some 640, some 1094000] [] ⟨⟨rfl, rfl⟩, ⟨rfl, ⟨rfl, ⟨rfl, rfl⟩, trivial⟩, ⟨rfl, ⟨Nat.le_of_eq rfl, eq_take rfl⟩, trivial⟩, ⟨rfl, rfl, trivial⟩, ⟨rfl, rfl, rows_same⟩, trivial⟩, ⟨rfl, rfl⟩, ⟨rfl, rfl⟩, ⟨rfl, rfl⟩, rfl, trivial⟩
def laws_FnHydrasOfOrdinals_p5 (k : Nat) (o18 : Rw) (o19 : Rw) (o20 : Rw) (v21 : Bool) (v25 : Bool) : Option Bool :=
  (cond v21 (cond v25 ((laws_qSameOrdinal k o19 o20).bind fun y457 => (if y457 = true then (laws_FnHydrasOfOrdinals_p6 k o18 o19 true) else some false)) (some false)) (cond v25 (some false) ((laws_qSameOrdinal k o19 o20).bind fun y454 => (if y454 = true then (laws_FnHydrasOfOrdinals_p6 k o18 o19 false) else some false))))
set_option maxHeartbeats 4000000 in
set_option maxRecDepth 100000 in
theorem laws_FnHydrasOfOrdinals_p5_ct {k : Nat} {o18 : Rw} {o19 : Rw} {o20 : Rw} {v21 : Bool} {v25 : Bool} {r : Bool} (h : laws_FnHydrasOfOrdinals_p5 k o18 o19 o20 v21 v25 = some r) : X prog 0 (tlF f7 5) (mk 118 [(5, .ptr 320 0), (6, .ptr 384 0), (7, .d (D.bool v25)), (8, .ptr 512 0), (9, .d (D.bool v21))] [(320, .box 31 [.os 1089000 o18.length]), (384, .box 28 [.os 1089001 o19.length]), (512, .box 28 [.os 1089002 o20.length]), (1089000, .arr 3 true o18), (1089001, .arr 96 true o19), (1089002, .arr 96 true o20)]) (finK prog f7 0 (.d (D.bool r)) (⟨[], []⟩)) := by
  rw [laws_FnHydrasOfOrdinals_p5] at h
  cases v21
  · replace h := condF h
    cases v25
    · replace h := condF h
      conv => whnf
      refine splF ?_
      conv => whnf
      refine Pick.no ?_
      conv => whnf
      refine Take.all (rfl) ?_
      conv => whnf
      refine Take.all (rfl) ?_
      conv => whnf
      obtain ⟨y454, e455, h⟩ := bind_ex h
      refine CallOk.of (laws_qSameOrdinal_ct e455) ?_
      conv => whnf
      refine spl (fun g456 => ?_) (fun g456 => ?_)
      · replace h := iteT h g456
        conv => whnf
        refine CutK.norm [5, 6, 9, 43] [320, 384, 1089000, 1089001] ?_
        conv => whnf
        exact CutK.piece (laws_FnHydrasOfOrdinals_p6_ct  h) [some 320, some 384, some 1089000, some 1089001] [] ⟨⟨rfl, rfl⟩, ⟨rfl, ⟨rfl, ⟨rfl, rfl⟩, trivial⟩, ⟨rfl, ⟨rfl, rfl⟩, trivial⟩, ⟨rfl, rfl, rows_same⟩, ⟨rfl, rfl, rows_same⟩, trivial⟩, ⟨rfl, rfl⟩, ⟨rfl, rfl⟩, rfl, trivial⟩
      · replace h := iteF h g456
        conv => whnf
        refine CutK.norm [5, 6, 9, 43] [320, 384, 1089000, 1089001] ?_
        conv => whnf
        cases h
        exact Done.of [] [] rfl rfl ⟨⟨rfl, rfl⟩, ⟨rfl, trivial⟩, rfl, trivial⟩
    · replace h := condT h
      conv => whnf
      refine splT ?_
      conv => whnf
      refine CutK.norm [5, 6, 9, 43] [320, 384, 1089000, 1089001] ?_
      conv => whnf
      cases h
      exact Done.of [] [] rfl rfl ⟨⟨rfl, rfl⟩, ⟨rfl, trivial⟩, rfl, trivial⟩
  · replace h := condT h
    cases v25
    · replace h := condF h
      conv => whnf
      refine splT ?_
      conv => whnf
      refine CutK.norm [5, 6, 9, 43] [320, 384, 1089000, 1089001] ?_
      conv => whnf
      cases h
      exact Done.of [] [] rfl rfl ⟨⟨rfl, rfl⟩, ⟨rfl, trivial⟩, rfl, trivial⟩
    · replace h := condT h
      conv => whnf
      refine splF ?_
      conv => whnf
      refine Pick.no ?_
      conv => whnf
      refine Take.all (rfl) ?_
      conv => whnf
      refine Take.all (rfl) ?_
      conv => whnf
      obtain ⟨y457, e458, h⟩ := bind_ex h
      refine CallOk.of (laws_qSameOrdinal_ct e458) ?_
      conv => whnf
      refine spl (fun g459 => ?_) (fun g459 => ?_)
      · replace h := iteT h g459
        conv => whnf
        refine CutK.norm [5, 6, 9, 43] [320, 384, 1089000, 1089001] ?_
        conv => whnf
        exact CutK.piece (laws_FnHydrasOfOrdinals_p6_ct  h) [some 320, some 384, some 1089000, some 1089001] [] ⟨⟨rfl, rfl⟩, ⟨rfl, ⟨rfl, ⟨rfl, rfl⟩, trivial⟩, ⟨rfl, ⟨rfl, rfl⟩, trivial⟩, ⟨rfl, rfl, rows_same⟩, ⟨rfl, rfl, rows_same⟩, trivial⟩, ⟨rfl, rfl⟩, ⟨rfl, rfl⟩, rfl, trivial⟩
      · replace h := iteF h g459
        conv => whnf
        refine CutK.norm [5, 6, 9, 43] [320, 384, 1089000, 1089001] ?_
        conv => whnf
        cases h
        exact Done.of [] [] rfl rfl ⟨⟨rfl, rfl⟩, ⟨rfl, trivial⟩, rfl, trivial⟩
def laws_FnHydrasOfOrdinals_p4 (k : Nat) (o12 : Rw) (o13 : Rw) (v14 : Bool) : Option Bool :=
  (cond v14 ((spec_HydraOrdinal k o12).bind fun y463 => (if y463.2 = true then (laws_FnHydrasOfOrdinals_p5 k o12 o13 y463.1 true true) else (laws_FnHydrasOfOrdinals_p5 k o12 o13 y463.1 false true))) ((spec_HydraOrdinal k o12).bind fun y460 => (if y460.2 = true then (laws_FnHydrasOfOrdinals_p5 k o12 o13 y460.1 true false) else (laws_FnHydrasOfOrdinals_p5 k o12 o13 y460.1 false false))))
set_option maxHeartbeats 4000000 in
set_option maxRecDepth 100000 in
theorem laws_FnHydrasOfOrdinals_p4_ct {k : Nat} {o12 : Rw} {o13 : Rw} {v14 : Bool} {r : Bool} (h : laws_FnHydrasOfOrdinals_p4 k o12 o13 v14 = some r) : X prog 0 (tlF f7 4) (mk 118 [(5, .ptr 320 0), (6, .ptr 384 0), (7, .d (D.bool v14))] [(320, .box 31 [.os 1084000 o12.length]), (384, .box 28 [.os 1084001 o13.length]), (1084000, .arr 3 true o12), (1084001, .arr 96 true o13)]) (finK prog f7 0 (.d (D.bool r)) (⟨[], []⟩)) := by
  rw [laws_FnHydrasOfOrdinals_p4] at h
  cases v14
  · replace h := condF h
    conv => whnf
    refine Pick.no ?_
    conv => whnf
    refine Take.all (rfl) ?_
    conv => whnf
    obtain ⟨y460, e461, h⟩ := bind_ex h
    refine CallOk.of (spec_HydraOrdinal_ct e461) ?_
    conv => whnf
    refine spl (fun g462 => ?_) (fun g462 => ?_)
    · replace h := iteT h g462
      conv => whnf
      exact CutK.piece (laws_FnHydrasOfOrdinals_p5_ct  h) [some 320, some 384, some 512, some 1084000, some 1084001, some 2048] [] ⟨⟨rfl, rfl⟩, ⟨rfl, ⟨rfl, ⟨rfl, rfl⟩, trivial⟩, ⟨rfl, ⟨rfl, rfl⟩, trivial⟩, ⟨rfl, ⟨rfl, rfl⟩, trivial⟩, ⟨rfl, rfl, rows_same⟩, ⟨rfl, rfl, rows_same⟩, ⟨rfl, rfl, rows_same⟩, trivial⟩, ⟨rfl, rfl⟩, ⟨rfl, rfl⟩, rfl, ⟨rfl, rfl⟩, rfl, trivial⟩
    · replace h := iteF h g462
      conv => whnf
      exact CutK.piece (laws_FnHydrasOfOrdinals_p5_ct  h) [some 320, some 384, some 512, some 1084000, some 1084001, some 2048] [] ⟨⟨rfl, rfl⟩, ⟨rfl, ⟨rfl, ⟨rfl, rfl⟩, trivial⟩, ⟨rfl, ⟨rfl, rfl⟩, trivial⟩, ⟨rfl, ⟨rfl, rfl⟩, trivial⟩, ⟨rfl, rfl, rows_same⟩, ⟨rfl, rfl, rows_same⟩, ⟨rfl, rfl, rows_same⟩, trivial⟩, ⟨rfl, rfl⟩, ⟨rfl, rfl⟩, rfl, ⟨rfl, rfl⟩, rfl, trivial⟩
  · replace h := condT h
    conv => whnf
    refine Pick.no ?_
    conv => whnf
    refine Take.all (rfl) ?_
    conv => whnf
    obtain ⟨y463, e464, h⟩ := bind_ex h
    refine CallOk.of (spec_HydraOrdinal_ct e464) ?_
    conv => whnf
    refine spl (fun g465 => ?_) (fun g465 => ?_)
    · replace h := iteT h g465
      conv => whnf
      exact CutK.piece (laws_FnHydrasOfOrdinals_p5_ct  h) [some 320, some 384, some 512, some 1084000, some 1084001, some 2048] [] ⟨⟨rfl, rfl⟩, ⟨rfl, ⟨rfl, ⟨rfl, rfl⟩, trivial⟩, ⟨rfl, ⟨rfl, rfl⟩, trivial⟩, ⟨rfl, ⟨rfl, rfl⟩, trivial⟩, ⟨rfl, rfl, rows_same⟩, ⟨rfl, rfl, rows_same⟩, ⟨rfl, rfl, rows_same⟩, trivial⟩, ⟨rfl, rfl⟩, ⟨rfl, rfl⟩, rfl, ⟨rfl, rfl⟩, rfl, trivial⟩
    · replace h := iteF h g465
      conv => whnf
      exact CutK.piece (laws_FnHydrasOfOrdinals_p5_ct  h) [some 320, some 384, some 512, some 1084000, some 1084001, some 2048] [] ⟨⟨rfl, rfl⟩, ⟨rfl, ⟨rfl, ⟨rfl, rfl⟩, trivial⟩, ⟨rfl, ⟨rfl, rfl⟩, trivial⟩, ⟨rfl, ⟨rfl, rfl⟩, trivial⟩, ⟨rfl, rfl, rows_same⟩, ⟨rfl, rfl, rows_same⟩, ⟨rfl, rfl, rows_same⟩, trivial⟩, ⟨rfl, rfl⟩, ⟨rfl, rfl⟩, rfl, ⟨rfl, rfl⟩, rfl, trivial⟩
def laws_FnHydrasOfOrdinals_p3 (k : Nat) (o8 : Rw) : Option Bool :=
  ((impl_HydraOrdinal k o8).bind fun y466 => (if y466.2 = true then (laws_FnHydrasOfOrdinals_p4 k o8 y466.1 true) else (laws_FnHydrasOfOrdinals_p4 k o8 y466.1 false)))
set_option maxHeartbeats 4000000 in
set_option maxRecDepth 100000 in
theorem laws_FnHydrasOfOrdinals_p3_ct {k : Nat} {o8 : Rw} {r : Bool} (h : laws_FnHydrasOfOrdinals_p3 k o8 = some r) : X prog 0 (tlF f7 3) (mk 118 [(5, .ptr 320 0)] [(320, .box 31 [.os 1079000 o8.length]), (1079000, .arr 3 true o8)]) (finK prog f7 0 (.d (D.bool r)) (⟨[], []⟩)) := by
  rw [laws_FnHydrasOfOrdinals_p3] at h
  conv => whnf
  refine Pick.no ?_
  conv => whnf
  refine Take.all (rfl) ?_
  conv => whnf
  obtain ⟨y466, e467, h⟩ := bind_ex h
  refine CallOk.of (impl_HydraOrdinal_ct e467) ?_
  conv => whnf
  refine spl (fun g468 => ?_) (fun g468 => ?_)
  · replace h := iteT h g468
    conv => whnf
    exact CutK.piece (laws_FnHydrasOfOrdinals_p4_ct  h) [some 320, some 384, some 1079000, some 1728] [] ⟨⟨rfl, rfl⟩, ⟨rfl, ⟨rfl, ⟨rfl, rfl⟩, trivial⟩, ⟨rfl, ⟨rfl, rfl⟩, trivial⟩, ⟨rfl, rfl, rows_same⟩, ⟨rfl, rfl, rows_same⟩, trivial⟩, ⟨rfl, rfl⟩, ⟨rfl, rfl⟩, rfl, trivial⟩
  · replace h := iteF h g468
    conv => whnf
    exact CutK.piece (laws_FnHydrasOfOrdinals_p4_ct  h) [some 320, some 384, some 1079000, some 1728] [] ⟨⟨rfl, rfl⟩, ⟨rfl, ⟨rfl, ⟨rfl, rfl⟩, trivial⟩, ⟨rfl, ⟨rfl, rfl⟩, trivial⟩, ⟨rfl, rfl, rows_same⟩, ⟨rfl, rfl, rows_same⟩, trivial⟩, ⟨rfl, rfl⟩, ⟨rfl, rfl⟩, rfl, trivial⟩
def laws_FnHydrasOfOrdinals_p2 (k : Nat) (a1 : Rw) : Option Bool :=
  ((spec_DrawHydraOrdinal k a1).bind fun y469 => (laws_FnHydrasOfOrdinals_p3 k y469))
set_option maxHeartbeats 4000000 in
set_option maxRecDepth 100000 in
theorem laws_FnHydrasOfOrdinals_p2_ct {k : Nat} {a1 : Rw} {r : Bool} (h : laws_FnHydrasOfOrdinals_p2 k a1 = some r) : X prog 0 (tlF f7 2) (mk 118 [(0, .d (D.sl a1))] []) (finK prog f7 0 (.d (D.bool r)) (⟨[], []⟩)) := by
  rw [laws_FnHydrasOfOrdinals_p2] at h
  conv => whnf
  refine Pick.no ?_
  conv => whnf
  obtain ⟨y469, e470, h⟩ := bind_ex h
  refine CallOk.of (spec_DrawHydraOrdinal_ct e470) ?_
  conv => whnf
  exact CutK.piece (laws_FnHydrasOfOrdinals_p3_ct  h) [some 320, some 1536] [] ⟨⟨rfl, rfl⟩, ⟨rfl, ⟨rfl, ⟨rfl, rfl⟩, trivial⟩, ⟨rfl, rfl, rows_same⟩, trivial⟩, ⟨rfl, rfl⟩, trivial⟩
def laws_FnHydrasOfOrdinals (k : Nat) (a1 : Rw) (a2 : Rw) : Option Bool :=
  ((laws_big a1 a2).bind fun y471 => (if y471 = true then some true else (laws_FnHydrasOfOrdinals_p2 k a1)))
set_option maxHeartbeats 4000000 in
set_option maxRecDepth 100000 in
theorem laws_FnHydrasOfOrdinals_ct {k : Nat} {a1 : Rw} {a2 : Rw} {r : Bool} (h : laws_FnHydrasOfOrdinals k a1 a2 = some r) : Ct prog 7 [.d (D.sl a1), .d (D.sl a2)] (⟨[], []⟩) (.d (D.bool r)) (⟨[], []⟩) := by
  rw [laws_FnHydrasOfOrdinals] at h
  refine Ct.of (c := _) mixed func7 ⟨rfl, rfl, rfl⟩ ?_ rfl
  conv => whnf
  refine Pick.no ?_
  conv => whnf
  obtain ⟨y471, e472, h⟩ := bind_ex h
  refine CallOk.of (laws_big_ct e472) ?_
  conv => whnf
  refine spl (fun g473 => ?_) (fun g473 => ?_)
  · replace h := iteT h g473
    conv => whnf
    refine CutK.norm [0, 22] [] ?_
    conv => whnf
    cases h
    exact Done.of [] [] rfl rfl ⟨⟨rfl, rfl⟩, ⟨rfl, trivial⟩, rfl, trivial⟩
  · replace h := iteF h g473
    conv => whnf
    refine CutK.norm [0, 22] [] ?_
    conv => whnf
    exact CutK.piece (laws_FnHydrasOfOrdinals_p2_ct  h) [] [] ⟨⟨rfl, rfl⟩, ⟨rfl, trivial⟩, rfl, trivial⟩
end
end Go.Proofs.Try
