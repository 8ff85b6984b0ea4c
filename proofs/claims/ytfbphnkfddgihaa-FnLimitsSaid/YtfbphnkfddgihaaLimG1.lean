/- Printed by program (axgen): pure functions, and that the Go functions compute them. -/
import Derived.Test.YtfbphnkfddgihaaLimG0
namespace Go.Proofs.Try
open Go Go.AX
noncomputable section
def laws_FnLimits_p14  : Option Bool :=
  some true
set_option maxHeartbeats 4000000 in
set_option maxRecDepth 100000 in
theorem laws_FnLimits_p14_ct  {r : Bool} (h : laws_FnLimits_p14 = some r) : X prog 0 (tlF f7 14) (mk 153 [] []) (finK prog f7 0 (.d (D.bool r)) (⟨[], []⟩)) := by
  rw [laws_FnLimits_p14] at h
  conv => whnf
  cases h
  exact Done.of [] [] rfl rfl ⟨⟨rfl, rfl⟩, ⟨rfl, trivial⟩, rfl, trivial⟩
def laws_FnLimits_p13 (k : Nat) (o166 : Rw) (o167 : Rw) (v171 : Bool) (v175 : Bool) : Option Bool :=
  (cond v171 (cond v175 ((impl_FiniteOrdinal 1).bind fun y224 => (if y224.2 = true then ((impl_AddOrdinals k o167 y224.1).bind fun y227 => (if y227.2 = true then ((laws_sameOrdinal k y227.1 o166).bind fun y230 => (if y230 = true then some false else some false)) else some false)) else ((impl_AddOrdinals k o167 y224.1).bind fun y233 => (if y233.2 = true then ((laws_sameOrdinal k y233.1 o166).bind fun y236 => (if y236 = true then some false else some false)) else some false)))) (laws_FnLimits_p14)) (cond v175 ((impl_FiniteOrdinal 1).bind fun y209 => (if y209.2 = true then ((impl_AddOrdinals k o167 y209.1).bind fun y212 => (if y212.2 = true then ((laws_sameOrdinal k y212.1 o166).bind fun y215 => (if y215 = true then some true else some false)) else some false)) else ((impl_AddOrdinals k o167 y209.1).bind fun y218 => (if y218.2 = true then ((laws_sameOrdinal k y218.1 o166).bind fun y221 => (if y221 = true then some true else some false)) else some false)))) (laws_FnLimits_p14)))
set_option maxHeartbeats 4000000 in
set_option maxRecDepth 100000 in
theorem laws_FnLimits_p13_ct {k : Nat} {o166 : Rw} {o167 : Rw} {v171 : Bool} {v175 : Bool} {r : Bool} (h : laws_FnLimits_p13 k o166 o167 v171 v175 = some r) : X prog 0 (tlF f7 13) (mk 153 [(5, .ptr 320 0), (11, .d (D.bool v171)), (21, .ptr 1344 0), (22, .d (D.bool v175))] [(320, .box 26 [.os 1129000 o166.length]), (1344, .box 26 [.os 1129001 o167.length]), (1129000, .arr 98 false o166), (1129001, .arr 98 true o167)]) (finK prog f7 0 (.d (D.bool r)) (⟨[], []⟩)) := by
  rw [laws_FnLimits_p13] at h
  cases v171
  · replace h := condF h
    cases v175
    · replace h := condF h
      conv => whnf
      exact CutK.piece (laws_FnLimits_p14_ct  h) [] [] ⟨⟨rfl, rfl⟩, ⟨rfl, trivial⟩, trivial⟩
    · replace h := condT h
      conv => whnf
      obtain ⟨y209, e210, h⟩ := bind_ex h
      refine CallOk.of (impl_FiniteOrdinal_ct e210) ?_
      conv => whnf
      refine spl (fun g211 => ?_) (fun g211 => ?_)
      · replace h := iteT h g211
        conv => whnf
        refine CutK.norm [5, 11, 21, 25] [320, 1344, 1600, 8576, 1129000, 1129001] ?_
        conv => whnf
        refine Take.all (rfl) ?_
        conv => whnf
        refine Take.all (rfl) ?_
        conv => whnf
        obtain ⟨y212, e213, h⟩ := bind_ex h
        refine CallOk.of (impl_AddOrdinals_ct e213) ?_
        conv => whnf
        refine spl (fun g214 => ?_) (fun g214 => ?_)
        · replace h := iteT h g214
          conv => whnf
          refine CutK.norm [5, 11, 27, 28] [320, 1728, 8960, 1129000] ?_
          conv => whnf
          refine Take.all (rfl) ?_
          conv => whnf
          refine Take.all (rfl) ?_
          conv => whnf
          obtain ⟨y215, e216, h⟩ := bind_ex h
          refine CallOk.of (laws_sameOrdinal_ct e216) ?_
          conv => whnf
          refine spl (fun g217 => ?_) (fun g217 => ?_)
          · replace h := iteT h g217
            conv => whnf
            refine CutK.norm [4] [] ?_
            conv => whnf
            cases h
            exact Done.of [] [] rfl rfl ⟨⟨rfl, rfl⟩, ⟨rfl, trivial⟩, rfl, trivial⟩
          · replace h := iteF h g217
            conv => whnf
            refine CutK.norm [4] [] ?_
            conv => whnf
            cases h
            exact Done.of [] [] rfl rfl ⟨⟨rfl, rfl⟩, ⟨rfl, trivial⟩, rfl, trivial⟩
        · replace h := iteF h g214
          conv => whnf
          refine CutK.norm [5, 11, 27, 28] [320, 1728, 8960, 1129000] ?_
          conv => whnf
          refine CutK.norm [4] [] ?_
          conv => whnf
          cases h
          exact Done.of [] [] rfl rfl ⟨⟨rfl, rfl⟩, ⟨rfl, trivial⟩, rfl, trivial⟩
      · replace h := iteF h g211
        conv => whnf
        refine CutK.norm [5, 11, 21, 25] [320, 1344, 1600, 8576, 1129000, 1129001] ?_
        conv => whnf
        refine Take.all (rfl) ?_
        conv => whnf
        refine Take.all (rfl) ?_
        conv => whnf
        obtain ⟨y218, e219, h⟩ := bind_ex h
        refine CallOk.of (impl_AddOrdinals_ct e219) ?_
        conv => whnf
        refine spl (fun g220 => ?_) (fun g220 => ?_)
        · replace h := iteT h g220
          conv => whnf
          refine CutK.norm [5, 11, 27, 28] [320, 1728, 8960, 1129000] ?_
          conv => whnf
          refine Take.all (rfl) ?_
          conv => whnf
          refine Take.all (rfl) ?_
          conv => whnf
          obtain ⟨y221, e222, h⟩ := bind_ex h
          refine CallOk.of (laws_sameOrdinal_ct e222) ?_
          conv => whnf
          refine spl (fun g223 => ?_) (fun g223 => ?_)
          · replace h := iteT h g223
            conv => whnf
            refine CutK.norm [4] [] ?_
            conv => whnf
            cases h
            exact Done.of [] [] rfl rfl ⟨⟨rfl, rfl⟩, ⟨rfl, trivial⟩, rfl, trivial⟩
          · replace h := iteF h g223
            conv => whnf
            refine CutK.norm [4] [] ?_
            conv => whnf
            cases h
            exact Done.of [] [] rfl rfl ⟨⟨rfl, rfl⟩, ⟨rfl, trivial⟩, rfl, trivial⟩
        · replace h := iteF h g220
          conv => whnf
          refine CutK.norm [5, 11, 27, 28] [320, 1728, 8960, 1129000] ?_
          conv => whnf
          refine CutK.norm [4] [] ?_
          conv => whnf
          cases h
          exact Done.of [] [] rfl rfl ⟨⟨rfl, rfl⟩, ⟨rfl, trivial⟩, rfl, trivial⟩
  · replace h := condT h
    cases v175
    · replace h := condF h
      conv => whnf
      exact CutK.piece (laws_FnLimits_p14_ct  h) [] [] ⟨⟨rfl, rfl⟩, ⟨rfl, trivial⟩, trivial⟩
    · replace h := condT h
      conv => whnf
      obtain ⟨y224, e225, h⟩ := bind_ex h
      refine CallOk.of (impl_FiniteOrdinal_ct e225) ?_
      conv => whnf
      refine spl (fun g226 => ?_) (fun g226 => ?_)
      · replace h := iteT h g226
        conv => whnf
        refine CutK.norm [5, 11, 21, 25] [320, 1344, 1600, 8576, 1129000, 1129001] ?_
        conv => whnf
        refine Take.all (rfl) ?_
        conv => whnf
        refine Take.all (rfl) ?_
        conv => whnf
        obtain ⟨y227, e228, h⟩ := bind_ex h
        refine CallOk.of (impl_AddOrdinals_ct e228) ?_
        conv => whnf
        refine spl (fun g229 => ?_) (fun g229 => ?_)
        · replace h := iteT h g229
          conv => whnf
          refine CutK.norm [5, 11, 27, 28] [320, 1728, 8960, 1129000] ?_
          conv => whnf
          refine Take.all (rfl) ?_
          conv => whnf
          refine Take.all (rfl) ?_
          conv => whnf
          obtain ⟨y230, e231, h⟩ := bind_ex h
          refine CallOk.of (laws_sameOrdinal_ct e231) ?_
          conv => whnf
          refine spl (fun g232 => ?_) (fun g232 => ?_)
          · replace h := iteT h g232
            conv => whnf
            refine CutK.norm [4] [] ?_
            conv => whnf
            cases h
            exact Done.of [] [] rfl rfl ⟨⟨rfl, rfl⟩, ⟨rfl, trivial⟩, rfl, trivial⟩
          · replace h := iteF h g232
            conv => whnf
            refine CutK.norm [4] [] ?_
            conv => whnf
            cases h
            exact Done.of [] [] rfl rfl ⟨⟨rfl, rfl⟩, ⟨rfl, trivial⟩, rfl, trivial⟩
        · replace h := iteF h g229
          conv => whnf
          refine CutK.norm [5, 11, 27, 28] [320, 1728, 8960, 1129000] ?_
          conv => whnf
          refine CutK.norm [4] [] ?_
          conv => whnf
          cases h
          exact Done.of [] [] rfl rfl ⟨⟨rfl, rfl⟩, ⟨rfl, trivial⟩, rfl, trivial⟩
      · replace h := iteF h g226
        conv => whnf
        refine CutK.norm [5, 11, 21, 25] [320, 1344, 1600, 8576, 1129000, 1129001] ?_
        conv => whnf
        refine Take.all (rfl) ?_
        conv => whnf
        refine Take.all (rfl) ?_
        conv => whnf
        obtain ⟨y233, e234, h⟩ := bind_ex h
        refine CallOk.of (impl_AddOrdinals_ct e234) ?_
        conv => whnf
        refine spl (fun g235 => ?_) (fun g235 => ?_)
        · replace h := iteT h g235
          conv => whnf
          refine CutK.norm [5, 11, 27, 28] [320, 1728, 8960, 1129000] ?_
          conv => whnf
          refine Take.all (rfl) ?_
          conv => whnf
          refine Take.all (rfl) ?_
          conv => whnf
          obtain ⟨y236, e237, h⟩ := bind_ex h
          refine CallOk.of (laws_sameOrdinal_ct e237) ?_
          conv => whnf
          refine spl (fun g238 => ?_) (fun g238 => ?_)
          · replace h := iteT h g238
            conv => whnf
            refine CutK.norm [4] [] ?_
            conv => whnf
            cases h
            exact Done.of [] [] rfl rfl ⟨⟨rfl, rfl⟩, ⟨rfl, trivial⟩, rfl, trivial⟩
          · replace h := iteF h g238
            conv => whnf
            refine CutK.norm [4] [] ?_
            conv => whnf
            cases h
            exact Done.of [] [] rfl rfl ⟨⟨rfl, rfl⟩, ⟨rfl, trivial⟩, rfl, trivial⟩
        · replace h := iteF h g235
          conv => whnf
          refine CutK.norm [5, 11, 27, 28] [320, 1728, 8960, 1129000] ?_
          conv => whnf
          refine CutK.norm [4] [] ?_
          conv => whnf
          cases h
          exact Done.of [] [] rfl rfl ⟨⟨rfl, rfl⟩, ⟨rfl, trivial⟩, rfl, trivial⟩
def laws_FnLimits_p12 (k : Nat) (o148 : Rw) (o149 : Rw) (o150 : Rw) (v151 : Bool) (v155 : Bool) (v159 : Bool) : Option Bool :=
  (cond v151 (cond v155 (cond v159 ((laws_sameOrdinal k o149 o150).bind fun y248 => (if y248 = true then (laws_FnLimits_p13 k o148 o149 true true) else some false)) (some false)) (cond v159 ((laws_sameOrdinal k o149 o150).bind fun y245 => (if y245 = true then (laws_FnLimits_p13 k o148 o149 false true) else some false)) (some false))) (cond v155 (cond v159 (some false) ((laws_sameOrdinal k o149 o150).bind fun y242 => (if y242 = true then (laws_FnLimits_p13 k o148 o149 true false) else some false))) (cond v159 (some false) ((laws_sameOrdinal k o149 o150).bind fun y239 => (if y239 = true then (laws_FnLimits_p13 k o148 o149 false false) else some false)))))
set_option maxHeartbeats 4000000 in
set_option maxRecDepth 100000 in
theorem laws_FnLimits_p12_ct {k : Nat} {o148 : Rw} {o149 : Rw} {o150 : Rw} {v151 : Bool} {v155 : Bool} {v159 : Bool} {r : Bool} (h : laws_FnLimits_p12 k o148 o149 o150 v151 v155 v159 = some r) : X prog 0 (tlF f7 12) (mk 153 [(5, .ptr 320 0), (11, .d (D.bool v155)), (21, .ptr 1344 0), (22, .d (D.bool v159)), (23, .ptr 1472 0), (24, .d (D.bool v151))] [(320, .box 26 [.os 1124000 o148.length]), (1344, .box 26 [.os 1124001 o149.length]), (1472, .box 26 [.os 1124002 o150.length]), (1124000, .arr 98 false o148), (1124001, .arr 98 true o149), (1124002, .arr 98 true o150)]) (finK prog f7 0 (.d (D.bool r)) (⟨[], []⟩)) := by
  rw [laws_FnLimits_p12] at h
  cases v151
  · replace h := condF h
    cases v155
    · replace h := condF h
      cases v159
      · replace h := condF h
        conv => whnf
        refine splF ?_
        conv => whnf
        refine Take.all (rfl) ?_
        conv => whnf
        refine Take.all (rfl) ?_
        conv => whnf
        obtain ⟨y239, e240, h⟩ := bind_ex h
        refine CallOk.of (laws_sameOrdinal_ct e240) ?_
        conv => whnf
        refine spl (fun g241 => ?_) (fun g241 => ?_)
        · replace h := iteT h g241
          conv => whnf
          refine CutK.norm [5, 11, 21, 22, 131] [320, 1344, 1124000, 1124001] ?_
          conv => whnf
          exact CutK.piece (laws_FnLimits_p13_ct  h) [some 320, some 1344, some 1124000, some 1124001] [] ⟨⟨rfl, rfl⟩, ⟨rfl, ⟨rfl, ⟨rfl, rfl⟩, trivial⟩, ⟨rfl, ⟨rfl, rfl⟩, trivial⟩, ⟨rfl, rfl, rows_same⟩, ⟨rfl, rfl, rows_same⟩, trivial⟩, ⟨rfl, rfl⟩, rfl, ⟨rfl, rfl⟩, rfl, trivial⟩
        · replace h := iteF h g241
          conv => whnf
          refine CutK.norm [5, 11, 21, 22, 131] [320, 1344, 1124000, 1124001] ?_
          conv => whnf
          cases h
          exact Done.of [] [] rfl rfl ⟨⟨rfl, rfl⟩, ⟨rfl, trivial⟩, rfl, trivial⟩
      · replace h := condT h
        conv => whnf
        refine splT ?_
        conv => whnf
        refine CutK.norm [5, 11, 21, 22, 131] [320, 1344, 1124000, 1124001] ?_
        conv => whnf
        cases h
        exact Done.of [] [] rfl rfl ⟨⟨rfl, rfl⟩, ⟨rfl, trivial⟩, rfl, trivial⟩
    · replace h := condT h
      cases v159
      · replace h := condF h
        conv => whnf
        refine splF ?_
        conv => whnf
        refine Take.all (rfl) ?_
        conv => whnf
        refine Take.all (rfl) ?_
        conv => whnf
        obtain ⟨y242, e243, h⟩ := bind_ex h
        refine CallOk.of (laws_sameOrdinal_ct e243) ?_
        conv => whnf
        refine spl (fun g244 => ?_) (fun g244 => ?_)
        · replace h := iteT h g244
          conv => whnf
          refine CutK.norm [5, 11, 21, 22, 131] [320, 1344, 1124000, 1124001] ?_
          conv => whnf
          exact CutK.piece (laws_FnLimits_p13_ct  h) [some 320, some 1344, some 1124000, some 1124001] [] ⟨⟨rfl, rfl⟩, ⟨rfl, ⟨rfl, ⟨rfl, rfl⟩, trivial⟩, ⟨rfl, ⟨rfl, rfl⟩, trivial⟩, ⟨rfl, rfl, rows_same⟩, ⟨rfl, rfl, rows_same⟩, trivial⟩, ⟨rfl, rfl⟩, rfl, ⟨rfl, rfl⟩, rfl, trivial⟩
        · replace h := iteF h g244
          conv => whnf
          refine CutK.norm [5, 11, 21, 22, 131] [320, 1344, 1124000, 1124001] ?_
          conv => whnf
          cases h
          exact Done.of [] [] rfl rfl ⟨⟨rfl, rfl⟩, ⟨rfl, trivial⟩, rfl, trivial⟩
      · replace h := condT h
        conv => whnf
        refine splT ?_
        conv => whnf
        refine CutK.norm [5, 11, 21, 22, 131] [320, 1344, 1124000, 1124001] ?_
        conv => whnf
        cases h
        exact Done.of [] [] rfl rfl ⟨⟨rfl, rfl⟩, ⟨rfl, trivial⟩, rfl, trivial⟩
  · replace h := condT h
    cases v155
    · replace h := condF h
      cases v159
      · replace h := condF h
        conv => whnf
        refine splT ?_
        conv => whnf
        refine CutK.norm [5, 11, 21, 22, 131] [320, 1344, 1124000, 1124001] ?_
        conv => whnf
        cases h
        exact Done.of [] [] rfl rfl ⟨⟨rfl, rfl⟩, ⟨rfl, trivial⟩, rfl, trivial⟩
      · replace h := condT h
        conv => whnf
        refine splF ?_
        conv => whnf
        refine Take.all (rfl) ?_
        conv => whnf
        refine Take.all (rfl) ?_
        conv => whnf
        obtain ⟨y245, e246, h⟩ := bind_ex h
        refine CallOk.of (laws_sameOrdinal_ct e246) ?_
        conv => whnf
        refine spl (fun g247 => ?_) (fun g247 => ?_)
        · replace h := iteT h g247
          conv => whnf
          refine CutK.norm [5, 11, 21, 22, 131] [320, 1344, 1124000, 1124001] ?_
          conv => whnf
          exact CutK.piece (laws_FnLimits_p13_ct  h) [some 320, some 1344, some 1124000, some 1124001] [] ⟨⟨rfl, rfl⟩, ⟨rfl, ⟨rfl, ⟨rfl, rfl⟩, trivial⟩, ⟨rfl, ⟨rfl, rfl⟩, trivial⟩, ⟨rfl, rfl, rows_same⟩, ⟨rfl, rfl, rows_same⟩, trivial⟩, ⟨rfl, rfl⟩, rfl, ⟨rfl, rfl⟩, rfl, trivial⟩
        · replace h := iteF h g247
          conv => whnf
          refine CutK.norm [5, 11, 21, 22, 131] [320, 1344, 1124000, 1124001] ?_
          conv => whnf
          cases h
          exact Done.of [] [] rfl rfl ⟨⟨rfl, rfl⟩, ⟨rfl, trivial⟩, rfl, trivial⟩
    · replace h := condT h
      cases v159
      · replace h := condF h
        conv => whnf
        refine splT ?_
        conv => whnf
        refine CutK.norm [5, 11, 21, 22, 131] [320, 1344, 1124000, 1124001] ?_
        conv => whnf
        cases h
        exact Done.of [] [] rfl rfl ⟨⟨rfl, rfl⟩, ⟨rfl, trivial⟩, rfl, trivial⟩
      · replace h := condT h
        conv => whnf
        refine splF ?_
        conv => whnf
        refine Take.all (rfl) ?_
        conv => whnf
        refine Take.all (rfl) ?_
        conv => whnf
        obtain ⟨y248, e249, h⟩ := bind_ex h
        refine CallOk.of (laws_sameOrdinal_ct e249) ?_
        conv => whnf
        refine spl (fun g250 => ?_) (fun g250 => ?_)
        · replace h := iteT h g250
          conv => whnf
          refine CutK.norm [5, 11, 21, 22, 131] [320, 1344, 1124000, 1124001] ?_
          conv => whnf
          exact CutK.piece (laws_FnLimits_p13_ct  h) [some 320, some 1344, some 1124000, some 1124001] [] ⟨⟨rfl, rfl⟩, ⟨rfl, ⟨rfl, ⟨rfl, rfl⟩, trivial⟩, ⟨rfl, ⟨rfl, rfl⟩, trivial⟩, ⟨rfl, rfl, rows_same⟩, ⟨rfl, rfl, rows_same⟩, trivial⟩, ⟨rfl, rfl⟩, rfl, ⟨rfl, rfl⟩, rfl, trivial⟩
        · replace h := iteF h g250
          conv => whnf
          refine CutK.norm [5, 11, 21, 22, 131] [320, 1344, 1124000, 1124001] ?_
          conv => whnf
          cases h
          exact Done.of [] [] rfl rfl ⟨⟨rfl, rfl⟩, ⟨rfl, trivial⟩, rfl, trivial⟩
def laws_FnLimits_p11 (k : Nat) (o138 : Rw) (o139 : Rw) (v140 : Bool) (v144 : Bool) : Option Bool :=
  (cond v140 (cond v144 ((spec_PredecessorOf k o138).bind fun y260 => (if y260.2 = true then (laws_FnLimits_p12 k o138 o139 y260.1 true true true) else (laws_FnLimits_p12 k o138 o139 y260.1 false true true))) ((spec_PredecessorOf k o138).bind fun y257 => (if y257.2 = true then (laws_FnLimits_p12 k o138 o139 y257.1 true false true) else (laws_FnLimits_p12 k o138 o139 y257.1 false false true)))) (cond v144 ((spec_PredecessorOf k o138).bind fun y254 => (if y254.2 = true then (laws_FnLimits_p12 k o138 o139 y254.1 true true false) else (laws_FnLimits_p12 k o138 o139 y254.1 false true false))) ((spec_PredecessorOf k o138).bind fun y251 => (if y251.2 = true then (laws_FnLimits_p12 k o138 o139 y251.1 true false false) else (laws_FnLimits_p12 k o138 o139 y251.1 false false false)))))
set_option maxHeartbeats 4000000 in
set_option maxRecDepth 100000 in
theorem laws_FnLimits_p11_ct {k : Nat} {o138 : Rw} {o139 : Rw} {v140 : Bool} {v144 : Bool} {r : Bool} (h : laws_FnLimits_p11 k o138 o139 v140 v144 = some r) : X prog 0 (tlF f7 11) (mk 153 [(5, .ptr 320 0), (11, .d (D.bool v144)), (21, .ptr 1344 0), (22, .d (D.bool v140))] [(320, .box 26 [.os 1119000 o138.length]), (1344, .box 26 [.os 1119001 o139.length]), (1119000, .arr 98 false o138), (1119001, .arr 98 true o139)]) (finK prog f7 0 (.d (D.bool r)) (⟨[], []⟩)) := by
  rw [laws_FnLimits_p11] at h
  cases v140
  · replace h := condF h
    cases v144
    · replace h := condF h
      conv => whnf
      refine Take.all (rfl) ?_
      conv => whnf
      obtain ⟨y251, e252, h⟩ := bind_ex h
      refine CallOk.of (spec_PredecessorOf_ct e252) ?_
      conv => whnf
      refine spl (fun g253 => ?_) (fun g253 => ?_)
      · replace h := iteT h g253
        conv => whnf
        exact CutK.piece (laws_FnLimits_p12_ct  h) [some 320, some 1344, some 1472, some 1119000, some 1119001, some 7680] [] ⟨⟨rfl, rfl⟩, ⟨rfl, ⟨rfl, ⟨rfl, rfl⟩, trivial⟩, ⟨rfl, ⟨rfl, rfl⟩, trivial⟩, ⟨rfl, ⟨rfl, rfl⟩, trivial⟩, ⟨rfl, rfl, rows_same⟩, ⟨rfl, rfl, rows_same⟩, ⟨rfl, rfl, rows_same⟩, trivial⟩, ⟨rfl, rfl⟩, rfl, ⟨rfl, rfl⟩, rfl, ⟨rfl, rfl⟩, rfl, trivial⟩
      · replace h := iteF h g253
        conv => whnf
        exact CutK.piece (laws_FnLimits_p12_ct  h) [some 320, some 1344, some 1472, some 1119000, some 1119001, some 7680] [] ⟨⟨rfl, rfl⟩, ⟨rfl, ⟨rfl, ⟨rfl, rfl⟩, trivial⟩, ⟨rfl, ⟨rfl, rfl⟩, trivial⟩, ⟨rfl, ⟨rfl, rfl⟩, trivial⟩, ⟨rfl, rfl, rows_same⟩, ⟨rfl, rfl, rows_same⟩, ⟨rfl, rfl, rows_same⟩, trivial⟩, ⟨rfl, rfl⟩, rfl, ⟨rfl, rfl⟩, rfl, ⟨rfl, rfl⟩, rfl, trivial⟩
    · replace h := condT h
      conv => whnf
      refine Take.all (rfl) ?_
      conv => whnf
      obtain ⟨y254, e255, h⟩ := bind_ex h
      refine CallOk.of (spec_PredecessorOf_ct e255) ?_
      conv => whnf
      refine spl (fun g256 => ?_) (fun g256 => ?_)
      · replace h := iteT h g256
        conv => whnf
        exact CutK.piece (laws_FnLimits_p12_ct  h) [some 320, some 1344, some 1472, some 1119000, some 1119001, some 7680] [] ⟨⟨rfl, rfl⟩, ⟨rfl, ⟨rfl, ⟨rfl, rfl⟩, trivial⟩, ⟨rfl, ⟨rfl, rfl⟩, trivial⟩, ⟨rfl, ⟨rfl, rfl⟩, trivial⟩, ⟨rfl, rfl, rows_same⟩, ⟨rfl, rfl, rows_same⟩, ⟨rfl, rfl, rows_same⟩, trivial⟩, ⟨rfl, rfl⟩, rfl, ⟨rfl, rfl⟩, rfl, ⟨rfl, rfl⟩, rfl, trivial⟩
      · replace h := iteF h g256
        conv => whnf
        exact CutK.piece (laws_FnLimits_p12_ct  h) [some 320, some 1344, some 1472, some 1119000, some 1119001, some 7680] [] ⟨⟨rfl, rfl⟩, ⟨rfl, ⟨rfl, ⟨rfl, rfl⟩, trivial⟩, ⟨rfl, ⟨rfl, rfl⟩, trivial⟩, ⟨rfl, ⟨rfl, rfl⟩, trivial⟩, ⟨rfl, rfl, rows_same⟩, ⟨rfl, rfl, rows_same⟩, ⟨rfl, rfl, rows_same⟩, trivial⟩, ⟨rfl, rfl⟩, rfl, ⟨rfl, rfl⟩, rfl, ⟨rfl, rfl⟩, rfl, trivial⟩
  · replace h := condT h
    cases v144
    · replace h := condF h
      conv => whnf
      refine Take.all (rfl) ?_
      conv => whnf
      obtain ⟨y257, e258, h⟩ := bind_ex h
      refine CallOk.of (spec_PredecessorOf_ct e258) ?_
      conv => whnf
      refine spl (fun g259 => ?_) (fun g259 => ?_)
      · replace h := iteT h g259
        conv => whnf
        exact CutK.piece (laws_FnLimits_p12_ct  h) [some 320, some 1344, some 1472, some 1119000, some 1119001, some 7680] [] ⟨⟨rfl, rfl⟩, ⟨rfl, ⟨rfl, ⟨rfl, rfl⟩, trivial⟩, ⟨rfl, ⟨rfl, rfl⟩, trivial⟩, ⟨rfl, ⟨rfl, rfl⟩, trivial⟩, ⟨rfl, rfl, rows_same⟩, ⟨rfl, rfl, rows_same⟩, ⟨rfl, rfl, rows_same⟩, trivial⟩, ⟨rfl, rfl⟩, rfl, ⟨rfl, rfl⟩, rfl, ⟨rfl, rfl⟩, rfl, trivial⟩
      · replace h := iteF h g259
        conv => whnf
        exact CutK.piece (laws_FnLimits_p12_ct  h) [some 320, some 1344, some 1472, some 1119000, some 1119001, some 7680] [] ⟨⟨rfl, rfl⟩, ⟨rfl, ⟨rfl, ⟨rfl, rfl⟩, trivial⟩, ⟨rfl, ⟨rfl, rfl⟩, trivial⟩, ⟨rfl, ⟨rfl, rfl⟩, trivial⟩, ⟨rfl, rfl, rows_same⟩, ⟨rfl, rfl, rows_same⟩, ⟨rfl, rfl, rows_same⟩, trivial⟩, ⟨rfl, rfl⟩, rfl, ⟨rfl, rfl⟩, rfl, ⟨rfl, rfl⟩, rfl, trivial⟩
    · replace h := condT h
      conv => whnf
      refine Take.all (rfl) ?_
      conv => whnf
      obtain ⟨y260, e261, h⟩ := bind_ex h
      refine CallOk.of (spec_PredecessorOf_ct e261) ?_
      conv => whnf
      refine spl (fun g262 => ?_) (fun g262 => ?_)
      · replace h := iteT h g262
        conv => whnf
        exact CutK.piece (laws_FnLimits_p12_ct  h) [some 320, some 1344, some 1472, some 1119000, some 1119001, some 7680] [] ⟨⟨rfl, rfl⟩, ⟨rfl, ⟨rfl, ⟨rfl, rfl⟩, trivial⟩, ⟨rfl, ⟨rfl, rfl⟩, trivial⟩, ⟨rfl, ⟨rfl, rfl⟩, trivial⟩, ⟨rfl, rfl, rows_same⟩, ⟨rfl, rfl, rows_same⟩, ⟨rfl, rfl, rows_same⟩, trivial⟩, ⟨rfl, rfl⟩, rfl, ⟨rfl, rfl⟩, rfl, ⟨rfl, rfl⟩, rfl, trivial⟩
      · replace h := iteF h g262
        conv => whnf
        exact CutK.piece (laws_FnLimits_p12_ct  h) [some 320, some 1344, some 1472, some 1119000, some 1119001, some 7680] [] ⟨⟨rfl, rfl⟩, ⟨rfl, ⟨rfl, ⟨rfl, rfl⟩, trivial⟩, ⟨rfl, ⟨rfl, rfl⟩, trivial⟩, ⟨rfl, ⟨rfl, rfl⟩, trivial⟩, ⟨rfl, rfl, rows_same⟩, ⟨rfl, rfl, rows_same⟩, ⟨rfl, rfl, rows_same⟩, trivial⟩, ⟨rfl, rfl⟩, rfl, ⟨rfl, rfl⟩, rfl, ⟨rfl, rfl⟩, rfl, trivial⟩
def laws_FnLimits_p10 (k : Nat) (o103 : Rw) (v108 : Bool) : Option Bool :=
  (cond v108 ((impl_PredecessorOf k o103).bind fun y266 => (if y266.2 = true then (laws_FnLimits_p11 k o103 y266.1 true true) else (laws_FnLimits_p11 k o103 y266.1 false true))) ((impl_PredecessorOf k o103).bind fun y263 => (if y263.2 = true then (laws_FnLimits_p11 k o103 y263.1 true false) else (laws_FnLimits_p11 k o103 y263.1 false false))))
set_option maxHeartbeats 4000000 in
set_option maxRecDepth 100000 in
theorem laws_FnLimits_p10_ct {k : Nat} {o103 : Rw} {v108 : Bool} {r : Bool} (h : laws_FnLimits_p10 k o103 v108 = some r) : X prog 0 (tlF f7 10) (mk 153 [(5, .ptr 320 0), (11, .d (D.bool v108))] [(320, .box 26 [.os 1114000 o103.length]), (1114000, .arr 98 false o103)]) (finK prog f7 0 (.d (D.bool r)) (⟨[], []⟩)) := by
  rw [laws_FnLimits_p10] at h
  cases v108
  · replace h := condF h
    conv => whnf
    refine Take.all (rfl) ?_
    conv => whnf
    obtain ⟨y263, e264, h⟩ := bind_ex h
    refine CallOk.of (impl_PredecessorOf_ct e264) ?_
    conv => whnf
    refine spl (fun g265 => ?_) (fun g265 => ?_)
    · replace h := iteT h g265
      conv => whnf
      exact CutK.piece (laws_FnLimits_p11_ct  h) [some 320, some 1344, some 1114000, some 7360] [] ⟨⟨rfl, rfl⟩, ⟨rfl, ⟨rfl, ⟨rfl, rfl⟩, trivial⟩, ⟨rfl, ⟨rfl, rfl⟩, trivial⟩, ⟨rfl, rfl, rows_same⟩, ⟨rfl, rfl, rows_same⟩, trivial⟩, ⟨rfl, rfl⟩, rfl, ⟨rfl, rfl⟩, rfl, trivial⟩
    · replace h := iteF h g265
      conv => whnf
      exact CutK.piece (laws_FnLimits_p11_ct  h) [some 320, some 1344, some 1114000, some 7360] [] ⟨⟨rfl, rfl⟩, ⟨rfl, ⟨rfl, ⟨rfl, rfl⟩, trivial⟩, ⟨rfl, ⟨rfl, rfl⟩, trivial⟩, ⟨rfl, rfl, rows_same⟩, ⟨rfl, rfl, rows_same⟩, trivial⟩, ⟨rfl, rfl⟩, rfl, ⟨rfl, rfl⟩, rfl, trivial⟩
  · replace h := condT h
    conv => whnf
    refine Take.all (rfl) ?_
    conv => whnf
    obtain ⟨y266, e267, h⟩ := bind_ex h
    refine CallOk.of (impl_PredecessorOf_ct e267) ?_
    conv => whnf
    refine spl (fun g268 => ?_) (fun g268 => ?_)
    · replace h := iteT h g268
      conv => whnf
      exact CutK.piece (laws_FnLimits_p11_ct  h) [some 320, some 1344, some 1114000, some 7360] [] ⟨⟨rfl, rfl⟩, ⟨rfl, ⟨rfl, ⟨rfl, rfl⟩, trivial⟩, ⟨rfl, ⟨rfl, rfl⟩, trivial⟩, ⟨rfl, rfl, rows_same⟩, ⟨rfl, rfl, rows_same⟩, trivial⟩, ⟨rfl, rfl⟩, rfl, ⟨rfl, rfl⟩, rfl, trivial⟩
    · replace h := iteF h g268
      conv => whnf
      exact CutK.piece (laws_FnLimits_p11_ct  h) [some 320, some 1344, some 1114000, some 7360] [] ⟨⟨rfl, rfl⟩, ⟨rfl, ⟨rfl, ⟨rfl, rfl⟩, trivial⟩, ⟨rfl, ⟨rfl, rfl⟩, trivial⟩, ⟨rfl, rfl, rows_same⟩, ⟨rfl, rfl, rows_same⟩, trivial⟩, ⟨rfl, rfl⟩, rfl, ⟨rfl, rfl⟩, rfl, trivial⟩
def laws_FnLimits_p8 (k : Nat) (o59 : Int) (o60 : Rw) (o61 : Rw) (v62 : Bool) (v64 : Bool) (v69 : Bool) (v75 : Bool) (v86 : Bool) : Option Bool :=
  (cond v62 (cond v64 (cond v69 (cond v75 (cond v86 ((impl_CompareOrdinals k o61 o60).bind fun y288 => (if y288.2 = true then (if (0 : Int) ≤ y288.1 then some false else ((impl_FundamentalAt k o60 (IntKind.i64.wrap (o59 + 1))).bind fun y292 => (if y292.2 = true then ((impl_CompareOrdinals k o61 y292.1).bind fun y295 => (if y295.2 = true then (if (0 : Int) ≤ y295.1 then some false else (laws_FnLimits_p10 k o60 true)) else some false)) else (laws_FnLimits_p10 k o60 true)))) else some false)) (some false)) (cond v86 (some false) (some false))) (cond v75 (cond v86 (laws_FnLimits_p10 k o60 true) (some false)) (cond v86 (some false) (some false)))) (cond v69 (cond v75 (cond v86 (some false) (some false)) (cond v86 ((impl_CompareOrdinals k o61 o60).bind fun y284 => (if y284.2 = true then (if (0 : Int) ≤ y284.1 then some false else some false) else some false)) (some false))) (cond v75 (cond v86 (some false) (some false)) (cond v86 (laws_FnLimits_p10 k o60 false) (some false))))) (cond v64 (cond v69 (cond v75 (cond v86 (some false) ((impl_CompareOrdinals k o61 o60).bind fun y273 => (if y273.2 = true then (if (0 : Int) ≤ y273.1 then some false else ((impl_FundamentalAt k o60 (IntKind.i64.wrap (o59 + 1))).bind fun y277 => (if y277.2 = true then ((impl_CompareOrdinals k o61 y277.1).bind fun y280 => (if y280.2 = true then (if (0 : Int) ≤ y280.1 then some false else (laws_FnLimits_p10 k o60 true)) else some false)) else (laws_FnLimits_p10 k o60 true)))) else some false))) (cond v86 (some false) (some false))) (cond v75 (cond v86 (some false) (laws_FnLimits_p10 k o60 true)) (cond v86 (some false) (some false)))) (cond v69 (cond v75 (cond v86 (some false) (some false)) (cond v86 (some false) ((impl_CompareOrdinals k o61 o60).bind fun y269 => (if y269.2 = true then (if (0 : Int) ≤ y269.1 then some false else some false) else some false)))) (cond v75 (cond v86 (some false) (some false)) (cond v86 (some false) (laws_FnLimits_p10 k o60 false))))))
set_option maxHeartbeats 4000000 in
set_option maxRecDepth 100000 in
theorem laws_FnLimits_p8_ct {k : Nat} {o59 : Int} {o60 : Rw} {o61 : Rw} {v62 : Bool} {v64 : Bool} {v69 : Bool} {v75 : Bool} {v86 : Bool} {r : Bool} (h : laws_FnLimits_p8 k o59 o60 o61 v62 v64 v69 v75 v86 = some r) : X prog 0 (tlF f7 8) (mk 153 [(5, .ptr 320 0), (6, .d (D.int .i64 o59)), (7, .ptr 448 0), (8, .d (D.bool v69)), (11, .d (D.bool v75)), (12, .d (D.bool v86)), (13, .d (D.bool v64)), (14, .d (D.bool v62))] [(320, .box 26 [.os 1104000 o60.length]), (448, .box 26 [.os 1104001 o61.length]), (1104000, .arr 98 false o60), (1104001, .arr 98 true o61)]) (finK prog f7 0 (.d (D.bool r)) (⟨[], []⟩)) := by
  rw [laws_FnLimits_p8] at h
  cases v62
  · replace h := condF h
    cases v64
    · replace h := condF h
      cases v69
      · replace h := condF h
        cases v75
        · replace h := condF h
          cases v86
          · replace h := condF h
            conv => whnf
            refine splF ?_
            conv => whnf
            refine splF ?_
            conv => whnf
            exact CutK.piece (laws_FnLimits_p10_ct  h) [some 320, some 1104000] [] ⟨⟨rfl, rfl⟩, ⟨rfl, ⟨rfl, ⟨rfl, rfl⟩, trivial⟩, ⟨rfl, rfl, rows_same⟩, trivial⟩, ⟨rfl, rfl⟩, rfl, trivial⟩
          · replace h := condT h
            conv => whnf
            refine splT ?_
            conv => whnf
            cases h
            exact Done.of [] [] rfl rfl ⟨⟨rfl, rfl⟩, ⟨rfl, trivial⟩, rfl, trivial⟩
        · replace h := condT h
          cases v86
          · replace h := condF h
            conv => whnf
            refine splF ?_
            conv => whnf
            refine splT ?_
            conv => whnf
            cases h
            exact Done.of [] [] rfl rfl ⟨⟨rfl, rfl⟩, ⟨rfl, trivial⟩, rfl, trivial⟩
          · replace h := condT h
            conv => whnf
            refine splT ?_
            conv => whnf
            cases h
            exact Done.of [] [] rfl rfl ⟨⟨rfl, rfl⟩, ⟨rfl, trivial⟩, rfl, trivial⟩
      · replace h := condT h
        cases v75
        · replace h := condF h
          cases v86
          · replace h := condF h
            conv => whnf
            refine splF ?_
            conv => whnf
            refine splF ?_
            conv => whnf
            refine Take.all (rfl) ?_
            conv => whnf
            refine Take.all (rfl) ?_
            conv => whnf
            obtain ⟨y269, e270, h⟩ := bind_ex h
            refine CallOk.of (impl_CompareOrdinals_ct e270) ?_
            conv => whnf
            refine spl (fun g271 => ?_) (fun g271 => ?_)
            · replace h := iteT h g271
              conv => whnf
              refine CutK.norm [5, 6, 7, 11, 15, 16] [320, 448, 1104000, 1104001] ?_
              conv => whnf
              refine splD (fun g272 => ?_) (fun g272 => ?_)
              · replace h := iteP h g272
                conv => whnf
                cases h
                exact Done.of [] [] rfl rfl ⟨⟨rfl, rfl⟩, ⟨rfl, trivial⟩, rfl, trivial⟩
              · replace h := iteN h g272
                conv => whnf
                cases h
                exact Done.of [] [] rfl rfl ⟨⟨rfl, rfl⟩, ⟨rfl, trivial⟩, rfl, trivial⟩
            · replace h := iteF h g271
              conv => whnf
              refine CutK.norm [5, 6, 7, 11, 15, 16] [320, 448, 1104000, 1104001] ?_
              conv => whnf
              cases h
              exact Done.of [] [] rfl rfl ⟨⟨rfl, rfl⟩, ⟨rfl, trivial⟩, rfl, trivial⟩
          · replace h := condT h
            conv => whnf
            refine splT ?_
            conv => whnf
            cases h
            exact Done.of [] [] rfl rfl ⟨⟨rfl, rfl⟩, ⟨rfl, trivial⟩, rfl, trivial⟩
        · replace h := condT h
          cases v86
          · replace h := condF h
            conv => whnf
            refine splF ?_
            conv => whnf
            refine splT ?_
            conv => whnf
            cases h
            exact Done.of [] [] rfl rfl ⟨⟨rfl, rfl⟩, ⟨rfl, trivial⟩, rfl, trivial⟩
          · replace h := condT h
            conv => whnf
            refine splT ?_
            conv => whnf
            cases h
            exact Done.of [] [] rfl rfl ⟨⟨rfl, rfl⟩, ⟨rfl, trivial⟩, rfl, trivial⟩
    · replace h := condT h
      cases v69
      · replace h := condF h
        cases v75
        · replace h := condF h
          cases v86
          · replace h := condF h
            conv => whnf
            refine splF ?_
            conv => whnf
            refine splT ?_
            conv => whnf
            cases h
            exact Done.of [] [] rfl rfl ⟨⟨rfl, rfl⟩, ⟨rfl, trivial⟩, rfl, trivial⟩
          · replace h := condT h
            conv => whnf
            refine splT ?_
            conv => whnf
            cases h
            exact Done.of [] [] rfl rfl ⟨⟨rfl, rfl⟩, ⟨rfl, trivial⟩, rfl, trivial⟩
        · replace h := condT h
          cases v86
          · replace h := condF h
            conv => whnf
            refine splF ?_
            conv => whnf
            refine splF ?_
            conv => whnf
            exact CutK.piece (laws_FnLimits_p10_ct  h) [some 320, some 1104000] [] ⟨⟨rfl, rfl⟩, ⟨rfl, ⟨rfl, ⟨rfl, rfl⟩, trivial⟩, ⟨rfl, rfl, rows_same⟩, trivial⟩, ⟨rfl, rfl⟩, rfl, trivial⟩
          · replace h := condT h
            conv => whnf
            refine splT ?_
            conv => whnf
            cases h
            exact Done.of [] [] rfl rfl ⟨⟨rfl, rfl⟩, ⟨rfl, trivial⟩, rfl, trivial⟩
      · replace h := condT h
        cases v75
        · replace h := condF h
          cases v86
          · replace h := condF h
            conv => whnf
            refine splF ?_
            conv => whnf
            refine splT ?_
            conv => whnf
            cases h
            exact Done.of [] [] rfl rfl ⟨⟨rfl, rfl⟩, ⟨rfl, trivial⟩, rfl, trivial⟩
          · replace h := condT h
            conv => whnf
            refine splT ?_
            conv => whnf
            cases h
            exact Done.of [] [] rfl rfl ⟨⟨rfl, rfl⟩, ⟨rfl, trivial⟩, rfl, trivial⟩
        · replace h := condT h
          cases v86
          · replace h := condF h
            conv => whnf
            refine splF ?_
            conv => whnf
            refine splF ?_
            conv => whnf
            refine Take.all (rfl) ?_
            conv => whnf
            refine Take.all (rfl) ?_
            conv => whnf
            obtain ⟨y273, e274, h⟩ := bind_ex h
            refine CallOk.of (impl_CompareOrdinals_ct e274) ?_
            conv => whnf
            refine spl (fun g275 => ?_) (fun g275 => ?_)
            · replace h := iteT h g275
              conv => whnf
              refine CutK.norm [5, 6, 7, 11, 15, 16] [320, 448, 1104000, 1104001] ?_
              conv => whnf
              refine splD (fun g276 => ?_) (fun g276 => ?_)
              · replace h := iteP h g276
                conv => whnf
                cases h
                exact Done.of [] [] rfl rfl ⟨⟨rfl, rfl⟩, ⟨rfl, trivial⟩, rfl, trivial⟩
              · replace h := iteN h g276
                conv => whnf
                refine Take.all (rfl) ?_
                conv => whnf
                obtain ⟨y277, e278, h⟩ := bind_ex h
                refine CallOk.of (impl_FundamentalAt_ct e278) ?_
                conv => whnf
                refine spl (fun g279 => ?_) (fun g279 => ?_)
                · replace h := iteT h g279
                  conv => whnf
                  refine CutK.norm [5, 7, 11, 17, 18] [320, 448, 1088, 6208, 1104000, 1104001] ?_
                  conv => whnf
                  refine Take.all (rfl) ?_
                  conv => whnf
                  refine Take.all (rfl) ?_
                  conv => whnf
                  obtain ⟨y280, e281, h⟩ := bind_ex h
                  refine CallOk.of (impl_CompareOrdinals_ct e281) ?_
                  conv => whnf
                  refine spl (fun g282 => ?_) (fun g282 => ?_)
                  · replace h := iteT h g282
                    conv => whnf
                    refine CutK.norm [5, 11, 19, 20] [320, 1104000] ?_
                    conv => whnf
                    refine splD (fun g283 => ?_) (fun g283 => ?_)
                    · replace h := iteP h g283
                      conv => whnf
                      cases h
                      exact Done.of [] [] rfl rfl ⟨⟨rfl, rfl⟩, ⟨rfl, trivial⟩, rfl, trivial⟩
                    · replace h := iteN h g283
                      conv => whnf
                      exact CutK.piece (laws_FnLimits_p10_ct  h) [some 320, some 1104000] [] ⟨⟨rfl, rfl⟩, ⟨rfl, ⟨rfl, ⟨rfl, rfl⟩, trivial⟩, ⟨rfl, rfl, rows_same⟩, trivial⟩, ⟨rfl, rfl⟩, rfl, trivial⟩
                  · replace h := iteF h g282
                    conv => whnf
                    refine CutK.norm [5, 11, 19, 20] [320, 1104000] ?_
                    conv => whnf
                    cases h
                    exact Done.of [] [] rfl rfl ⟨⟨rfl, rfl⟩, ⟨rfl, trivial⟩, rfl, trivial⟩
                · replace h := iteF h g279
                  conv => whnf
                  refine CutK.norm [5, 7, 11, 17, 18] [320, 448, 1088, 6208, 1104000, 1104001] ?_
                  conv => whnf
                  exact CutK.piece (laws_FnLimits_p10_ct  h) [some 320, some 1104000] [] ⟨⟨rfl, rfl⟩, ⟨rfl, ⟨rfl, ⟨rfl, rfl⟩, trivial⟩, ⟨rfl, rfl, rows_same⟩, trivial⟩, ⟨rfl, rfl⟩, rfl, trivial⟩
            · replace h := iteF h g275
              conv => whnf
              refine CutK.norm [5, 6, 7, 11, 15, 16] [320, 448, 1104000, 1104001] ?_
              conv => whnf
              cases h
              exact Done.of [] [] rfl rfl ⟨⟨rfl, rfl⟩, ⟨rfl, trivial⟩, rfl, trivial⟩
          · replace h := condT h
            conv => whnf
            refine splT ?_
            conv => whnf
            cases h
            exact Done.of [] [] rfl rfl ⟨⟨rfl, rfl⟩, ⟨rfl, trivial⟩, rfl, trivial⟩
  · replace h := condT h
    cases v64
    · replace h := condF h
      cases v69
      · replace h := condF h
        cases v75
        · replace h := condF h
          cases v86
          · replace h := condF h
            conv => whnf
            refine splT ?_
            conv => whnf
            cases h
            exact Done.of [] [] rfl rfl ⟨⟨rfl, rfl⟩, ⟨rfl, trivial⟩, rfl, trivial⟩
          · replace h := condT h
            conv => whnf
            refine splF ?_
            conv => whnf
            refine splF ?_
            conv => whnf
            exact CutK.piece (laws_FnLimits_p10_ct  h) [some 320, some 1104000] [] ⟨⟨rfl, rfl⟩, ⟨rfl, ⟨rfl, ⟨rfl, rfl⟩, trivial⟩, ⟨rfl, rfl, rows_same⟩, trivial⟩, ⟨rfl, rfl⟩, rfl, trivial⟩
        · replace h := condT h
          cases v86
          · replace h := condF h
            conv => whnf
            refine splT ?_
            conv => whnf
            cases h
            exact Done.of [] [] rfl rfl ⟨⟨rfl, rfl⟩, ⟨rfl, trivial⟩, rfl, trivial⟩
          · replace h := condT h
            conv => whnf
            refine splF ?_
            conv => whnf
            refine splT ?_
            conv => whnf
            cases h
            exact Done.of [] [] rfl rfl ⟨⟨rfl, rfl⟩, ⟨rfl, trivial⟩, rfl, trivial⟩
      · replace h := condT h
        cases v75
        · replace h := condF h
          cases v86
          · replace h := condF h
            conv => whnf
            refine splT ?_
            conv => whnf
            cases h
            exact Done.of [] [] rfl rfl ⟨⟨rfl, rfl⟩, ⟨rfl, trivial⟩, rfl, trivial⟩
          · replace h := condT h
            conv => whnf
            refine splF ?_
            conv => whnf
            refine splF ?_
            conv => whnf
            refine Take.all (rfl) ?_
            conv => whnf
            refine Take.all (rfl) ?_
            conv => whnf
            obtain ⟨y284, e285, h⟩ := bind_ex h
            refine CallOk.of (impl_CompareOrdinals_ct e285) ?_
            conv => whnf
            refine spl (fun g286 => ?_) (fun g286 => ?_)
            · replace h := iteT h g286
              conv => whnf
              refine CutK.norm [5, 6, 7, 11, 15, 16] [320, 448, 1104000, 1104001] ?_
              conv => whnf
              refine splD (fun g287 => ?_) (fun g287 => ?_)
              · replace h := iteP h g287
                conv => whnf
                cases h
                exact Done.of [] [] rfl rfl ⟨⟨rfl, rfl⟩, ⟨rfl, trivial⟩, rfl, trivial⟩
              · replace h := iteN h g287
                conv => whnf
                cases h
                exact Done.of [] [] rfl rfl ⟨⟨rfl, rfl⟩, ⟨rfl, trivial⟩, rfl, trivial⟩
            · replace h := iteF h g286
              conv => whnf
              refine CutK.norm [5, 6, 7, 11, 15, 16] [320, 448, 1104000, 1104001] ?_
              conv => whnf
              cases h
              exact Done.of [] [] rfl rfl ⟨⟨rfl, rfl⟩, ⟨rfl, trivial⟩, rfl, trivial⟩
        · replace h := condT h
          cases v86
          · replace h := condF h
            conv => whnf
            refine splT ?_
            conv => whnf
            cases h
            exact Done.of [] [] rfl rfl ⟨⟨rfl, rfl⟩, ⟨rfl, trivial⟩, rfl, trivial⟩
          · replace h := condT h
            conv => whnf
            refine splF ?_
            conv => whnf
            refine splT ?_
            conv => whnf
            cases h
            exact Done.of [] [] rfl rfl ⟨⟨rfl, rfl⟩, ⟨rfl, trivial⟩, rfl, trivial⟩
    · replace h := condT h
      cases v69
      · replace h := condF h
        cases v75
        · replace h := condF h
          cases v86
          · replace h := condF h
            conv => whnf
            refine splT ?_
            conv => whnf
            cases h
            exact Done.of [] [] rfl rfl ⟨⟨rfl, rfl⟩, ⟨rfl, trivial⟩, rfl, trivial⟩
          · replace h := condT h
            conv => whnf
            refine splF ?_
            conv => whnf
            refine splT ?_
            conv => whnf
            cases h
            exact Done.of [] [] rfl rfl ⟨⟨rfl, rfl⟩, ⟨rfl, trivial⟩, rfl, trivial⟩
        · replace h := condT h
          cases v86
          · replace h := condF h
            conv => whnf
            refine splT ?_
            conv => whnf
            cases h
            exact Done.of [] [] rfl rfl ⟨⟨rfl, rfl⟩, ⟨rfl, trivial⟩, rfl, trivial⟩
          · replace h := condT h
            conv => whnf
            refine splF ?_
            conv => whnf
            refine splF ?_
            conv => whnf
            exact CutK.piece (laws_FnLimits_p10_ct  h) [some 320, some 1104000] [] ⟨⟨rfl, rfl⟩, ⟨rfl, ⟨rfl, ⟨rfl, rfl⟩, trivial⟩, ⟨rfl, rfl, rows_same⟩, trivial⟩, ⟨rfl, rfl⟩, rfl, trivial⟩
      · replace h := condT h
        cases v75
        · replace h := condF h
          cases v86
          · replace h := condF h
            conv => whnf
            refine splT ?_
            conv => whnf
            cases h
            exact Done.of [] [] rfl rfl ⟨⟨rfl, rfl⟩, ⟨rfl, trivial⟩, rfl, trivial⟩
          · replace h := condT h
            conv => whnf
            refine splF ?_
            conv => whnf
            refine splT ?_
            conv => whnf
            cases h
            exact Done.of [] [] rfl rfl ⟨⟨rfl, rfl⟩, ⟨rfl, trivial⟩, rfl, trivial⟩
        · replace h := condT h
          cases v86
          · replace h := condF h
            conv => whnf
            refine splT ?_
            conv => whnf
            cases h
            exact Done.of [] [] rfl rfl ⟨⟨rfl, rfl⟩, ⟨rfl, trivial⟩, rfl, trivial⟩
          · replace h := condT h
            conv => whnf
            refine splF ?_
            conv => whnf
            refine splF ?_
            conv => whnf
            refine Take.all (rfl) ?_
            conv => whnf
            refine Take.all (rfl) ?_
            conv => whnf
            obtain ⟨y288, e289, h⟩ := bind_ex h
            refine CallOk.of (impl_CompareOrdinals_ct e289) ?_
            conv => whnf
            refine spl (fun g290 => ?_) (fun g290 => ?_)
            · replace h := iteT h g290
              conv => whnf
              refine CutK.norm [5, 6, 7, 11, 15, 16] [320, 448, 1104000, 1104001] ?_
              conv => whnf
              refine splD (fun g291 => ?_) (fun g291 => ?_)
              · replace h := iteP h g291
                conv => whnf
                cases h
                exact Done.of [] [] rfl rfl ⟨⟨rfl, rfl⟩, ⟨rfl, trivial⟩, rfl, trivial⟩
              · replace h := iteN h g291
                conv => whnf
                refine Take.all (rfl) ?_
                conv => whnf
                obtain ⟨y292, e293, h⟩ := bind_ex h
                refine CallOk.of (impl_FundamentalAt_ct e293) ?_
                conv => whnf
                refine spl (fun g294 => ?_) (fun g294 => ?_)
                · replace h := iteT h g294
                  conv => whnf
                  refine CutK.norm [5, 7, 11, 17, 18] [320, 448, 1088, 6208, 1104000, 1104001] ?_
                  conv => whnf
                  refine Take.all (rfl) ?_
                  conv => whnf
                  refine Take.all (rfl) ?_
                  conv => whnf
                  obtain ⟨y295, e296, h⟩ := bind_ex h
                  refine CallOk.of (impl_CompareOrdinals_ct e296) ?_
                  conv => whnf
                  refine spl (fun g297 => ?_) (fun g297 => ?_)
                  · replace h := iteT h g297
                    conv => whnf
                    refine CutK.norm [5, 11, 19, 20] [320, 1104000] ?_
                    conv => whnf
                    refine splD (fun g298 => ?_) (fun g298 => ?_)
                    · replace h := iteP h g298
                      conv => whnf
                      cases h
                      exact Done.of [] [] rfl rfl ⟨⟨rfl, rfl⟩, ⟨rfl, trivial⟩, rfl, trivial⟩
                    · replace h := iteN h g298
                      conv => whnf
                      exact CutK.piece (laws_FnLimits_p10_ct  h) [some 320, some 1104000] [] ⟨⟨rfl, rfl⟩, ⟨rfl, ⟨rfl, ⟨rfl, rfl⟩, trivial⟩, ⟨rfl, rfl, rows_same⟩, trivial⟩, ⟨rfl, rfl⟩, rfl, trivial⟩
                  · replace h := iteF h g297
                    conv => whnf
                    refine CutK.norm [5, 11, 19, 20] [320, 1104000] ?_
                    conv => whnf
                    cases h
                    exact Done.of [] [] rfl rfl ⟨⟨rfl, rfl⟩, ⟨rfl, trivial⟩, rfl, trivial⟩
                · replace h := iteF h g294
                  conv => whnf
                  refine CutK.norm [5, 7, 11, 17, 18] [320, 448, 1088, 6208, 1104000, 1104001] ?_
                  conv => whnf
                  exact CutK.piece (laws_FnLimits_p10_ct  h) [some 320, some 1104000] [] ⟨⟨rfl, rfl⟩, ⟨rfl, ⟨rfl, ⟨rfl, rfl⟩, trivial⟩, ⟨rfl, rfl, rows_same⟩, trivial⟩, ⟨rfl, rfl⟩, rfl, trivial⟩
            · replace h := iteF h g290
              conv => whnf
              refine CutK.norm [5, 6, 7, 11, 15, 16] [320, 448, 1104000, 1104001] ?_
              conv => whnf
              cases h
              exact Done.of [] [] rfl rfl ⟨⟨rfl, rfl⟩, ⟨rfl, trivial⟩, rfl, trivial⟩
def laws_FnLimits_p7 (k : Nat) (o43 : Int) (o44 : Rw) (o45 : Rw) (v46 : Bool) (v48 : Bool) (v53 : Bool) : Option Bool :=
  (cond v46 (cond v48 (cond v53 ((spec_IsLimit k o44).bind fun y334 => (if y334.1 = true then (if y334.2 = true then (laws_FnLimits_p8 k o43 o44 o45 true true true true true) else (laws_FnLimits_p8 k o43 o44 o45 false true true true true)) else (if y334.2 = true then (laws_FnLimits_p8 k o43 o44 o45 true false true true true) else (laws_FnLimits_p8 k o43 o44 o45 false false true true true)))) ((spec_IsLimit k o44).bind fun y329 => (if y329.1 = true then (if y329.2 = true then (laws_FnLimits_p8 k o43 o44 o45 true true false true true) else (laws_FnLimits_p8 k o43 o44 o45 false true false true true)) else (if y329.2 = true then (laws_FnLimits_p8 k o43 o44 o45 true false false true true) else (laws_FnLimits_p8 k o43 o44 o45 false false false true true))))) (cond v53 ((spec_IsLimit k o44).bind fun y324 => (if y324.1 = true then (if y324.2 = true then (laws_FnLimits_p8 k o43 o44 o45 true true true false true) else (laws_FnLimits_p8 k o43 o44 o45 false true true false true)) else (if y324.2 = true then (laws_FnLimits_p8 k o43 o44 o45 true false true false true) else (laws_FnLimits_p8 k o43 o44 o45 false false true false true)))) ((spec_IsLimit k o44).bind fun y319 => (if y319.1 = true then (if y319.2 = true then (laws_FnLimits_p8 k o43 o44 o45 true true false false true) else (laws_FnLimits_p8 k o43 o44 o45 false true false false true)) else (if y319.2 = true then (laws_FnLimits_p8 k o43 o44 o45 true false false false true) else (laws_FnLimits_p8 k o43 o44 o45 false false false false true)))))) (cond v48 (cond v53 ((spec_IsLimit k o44).bind fun y314 => (if y314.1 = true then (if y314.2 = true then (laws_FnLimits_p8 k o43 o44 o45 true true true true false) else (laws_FnLimits_p8 k o43 o44 o45 false true true true false)) else (if y314.2 = true then (laws_FnLimits_p8 k o43 o44 o45 true false true true false) else (laws_FnLimits_p8 k o43 o44 o45 false false true true false)))) ((spec_IsLimit k o44).bind fun y309 => (if y309.1 = true then (if y309.2 = true then (laws_FnLimits_p8 k o43 o44 o45 true true false true false) else (laws_FnLimits_p8 k o43 o44 o45 false true false true false)) else (if y309.2 = true then (laws_FnLimits_p8 k o43 o44 o45 true false false true false) else (laws_FnLimits_p8 k o43 o44 o45 false false false true false))))) (cond v53 ((spec_IsLimit k o44).bind fun y304 => (if y304.1 = true then (if y304.2 = true then (laws_FnLimits_p8 k o43 o44 o45 true true true false false) else (laws_FnLimits_p8 k o43 o44 o45 false true true false false)) else (if y304.2 = true then (laws_FnLimits_p8 k o43 o44 o45 true false true false false) else (laws_FnLimits_p8 k o43 o44 o45 false false true false false)))) ((spec_IsLimit k o44).bind fun y299 => (if y299.1 = true then (if y299.2 = true then (laws_FnLimits_p8 k o43 o44 o45 true true false false false) else (laws_FnLimits_p8 k o43 o44 o45 false true false false false)) else (if y299.2 = true then (laws_FnLimits_p8 k o43 o44 o45 true false false false false) else (laws_FnLimits_p8 k o43 o44 o45 false false false false false)))))))
set_option maxHeartbeats 4000000 in
set_option maxRecDepth 100000 in
theorem laws_FnLimits_p7_ct {k : Nat} {o43 : Int} {o44 : Rw} {o45 : Rw} {v46 : Bool} {v48 : Bool} {v53 : Bool} {r : Bool} (h : laws_FnLimits_p7 k o43 o44 o45 v46 v48 v53 = some r) : X prog 0 (tlF f7 7) (mk 153 [(5, .ptr 320 0), (6, .d (D.int .i64 o43)), (7, .ptr 448 0), (8, .d (D.bool v53)), (11, .d (D.bool v48)), (12, .d (D.bool v46))] [(320, .box 26 [.os 1099000 o44.length]), (448, .box 26 [.os 1099001 o45.length]), (1099000, .arr 98 false o44), (1099001, .arr 98 true o45)]) (finK prog f7 0 (.d (D.bool r)) (⟨[], []⟩)) := by
  rw [laws_FnLimits_p7] at h
  cases v46
  · replace h := condF h
    cases v48
    · replace h := condF h
      cases v53
      · replace h := condF h
        conv => whnf
        refine Take.all (rfl) ?_
        conv => whnf
        obtain ⟨y299, e300, h⟩ := bind_ex h
        refine CallOk.of (spec_IsLimit_ct e300) ?_
        conv => whnf
        refine spl (fun g301 => ?_) (fun g301 => ?_)
        · replace h := iteT h g301
          conv => whnf
          refine spl (fun g302 => ?_) (fun g302 => ?_)
          · replace h := iteT h g302
            conv => whnf
            exact CutK.piece (laws_FnLimits_p8_ct  h) [some 320, some 448, some 1099000, some 1099001] [] ⟨⟨rfl, rfl⟩, ⟨rfl, ⟨rfl, ⟨rfl, rfl⟩, trivial⟩, ⟨rfl, ⟨rfl, rfl⟩, trivial⟩, ⟨rfl, rfl, rows_same⟩, ⟨rfl, rfl, rows_same⟩, trivial⟩, ⟨rfl, rfl⟩, rfl, ⟨rfl, rfl⟩, rfl, rfl, rfl, rfl, rfl, trivial⟩
          · replace h := iteF h g302
            conv => whnf
            exact CutK.piece (laws_FnLimits_p8_ct  h) [some 320, some 448, some 1099000, some 1099001] [] ⟨⟨rfl, rfl⟩, ⟨rfl, ⟨rfl, ⟨rfl, rfl⟩, trivial⟩, ⟨rfl, ⟨rfl, rfl⟩, trivial⟩, ⟨rfl, rfl, rows_same⟩, ⟨rfl, rfl, rows_same⟩, trivial⟩, ⟨rfl, rfl⟩, rfl, ⟨rfl, rfl⟩, rfl, rfl, rfl, rfl, rfl, trivial⟩
        · replace h := iteF h g301
          conv => whnf
          refine spl (fun g303 => ?_) (fun g303 => ?_)
          · replace h := iteT h g303
            conv => whnf
            exact CutK.piece (laws_FnLimits_p8_ct  h) [some 320, some 448, some 1099000, some 1099001] [] ⟨⟨rfl, rfl⟩, ⟨rfl, ⟨rfl, ⟨rfl, rfl⟩, trivial⟩, ⟨rfl, ⟨rfl, rfl⟩, trivial⟩, ⟨rfl, rfl, rows_same⟩, ⟨rfl, rfl, rows_same⟩, trivial⟩, ⟨rfl, rfl⟩, rfl, ⟨rfl, rfl⟩, rfl, rfl, rfl, rfl, rfl, trivial⟩
          · replace h := iteF h g303
            conv => whnf
            exact CutK.piece (laws_FnLimits_p8_ct  h) [some 320, some 448, some 1099000, some 1099001] [] ⟨⟨rfl, rfl⟩, ⟨rfl, ⟨rfl, ⟨rfl, rfl⟩, trivial⟩, ⟨rfl, ⟨rfl, rfl⟩, trivial⟩, ⟨rfl, rfl, rows_same⟩, ⟨rfl, rfl, rows_same⟩, trivial⟩, ⟨rfl, rfl⟩, rfl, ⟨rfl, rfl⟩, rfl, rfl, rfl, rfl, rfl, trivial⟩
      · replace h := condT h
        conv => whnf
        refine Take.all (rfl) ?_
        conv => whnf
        obtain ⟨y304, e305, h⟩ := bind_ex h
        refine CallOk.of (spec_IsLimit_ct e305) ?_
        conv => whnf
        refine spl (fun g306 => ?_) (fun g306 => ?_)
        · replace h := iteT h g306
          conv => whnf
          refine spl (fun g307 => ?_) (fun g307 => ?_)
          · replace h := iteT h g307
            conv => whnf
            exact CutK.piece (laws_FnLimits_p8_ct  h) [some 320, some 448, some 1099000, some 1099001] [] ⟨⟨rfl, rfl⟩, ⟨rfl, ⟨rfl, ⟨rfl, rfl⟩, trivial⟩, ⟨rfl, ⟨rfl, rfl⟩, trivial⟩, ⟨rfl, rfl, rows_same⟩, ⟨rfl, rfl, rows_same⟩, trivial⟩, ⟨rfl, rfl⟩, rfl, ⟨rfl, rfl⟩, rfl, rfl, rfl, rfl, rfl, trivial⟩
          · replace h := iteF h g307
            conv => whnf
            exact CutK.piece (laws_FnLimits_p8_ct  h) [some 320, some 448, some 1099000, some 1099001] [] ⟨⟨rfl, rfl⟩, ⟨rfl, ⟨rfl, ⟨rfl, rfl⟩, trivial⟩, ⟨rfl, ⟨rfl, rfl⟩, trivial⟩, ⟨rfl, rfl, rows_same⟩, ⟨rfl, rfl, rows_same⟩, trivial⟩, ⟨rfl, rfl⟩, rfl, ⟨rfl, rfl⟩, rfl, rfl, rfl, rfl, rfl, trivial⟩
        · replace h := iteF h g306
          conv => whnf
          refine spl (fun g308 => ?_) (fun g308 => ?_)
          · replace h := iteT h g308
            conv => whnf
            exact CutK.piece (laws_FnLimits_p8_ct  h) [some 320, some 448, some 1099000, some 1099001] [] ⟨⟨rfl, rfl⟩, ⟨rfl, ⟨rfl, ⟨rfl, rfl⟩, trivial⟩, ⟨rfl, ⟨rfl, rfl⟩, trivial⟩, ⟨rfl, rfl, rows_same⟩, ⟨rfl, rfl, rows_same⟩, trivial⟩, ⟨rfl, rfl⟩, rfl, ⟨rfl, rfl⟩, rfl, rfl, rfl, rfl, rfl, trivial⟩
          · replace h := iteF h g308
            conv => whnf
            exact CutK.piece (laws_FnLimits_p8_ct  h) [some 320, some 448, some 1099000, some 1099001] [] ⟨⟨rfl, rfl⟩, ⟨rfl, ⟨rfl, ⟨rfl, rfl⟩, trivial⟩, ⟨rfl, ⟨rfl, rfl⟩, trivial⟩, ⟨rfl, rfl, rows_same⟩, ⟨rfl, rfl, rows_same⟩, trivial⟩, ⟨rfl, rfl⟩, rfl, ⟨rfl, rfl⟩, rfl, rfl, rfl, rfl, rfl, trivial⟩
    · replace h := condT h
      cases v53
      · replace h := condF h
        conv => whnf
        refine Take.all (rfl) ?_
        conv => whnf
        obtain ⟨y309, e310, h⟩ := bind_ex h
        refine CallOk.of (spec_IsLimit_ct e310) ?_
        conv => whnf
        refine spl (fun g311 => ?_) (fun g311 => ?_)
        · replace h := iteT h g311
          conv => whnf
          refine spl (fun g312 => ?_) (fun g312 => ?_)
          · replace h := iteT h g312
            conv => whnf
            exact CutK.piece (laws_FnLimits_p8_ct  h) [some 320, some 448, some 1099000, some 1099001] [] ⟨⟨rfl, rfl⟩, ⟨rfl, ⟨rfl, ⟨rfl, rfl⟩, trivial⟩, ⟨rfl, ⟨rfl, rfl⟩, trivial⟩, ⟨rfl, rfl, rows_same⟩, ⟨rfl, rfl, rows_same⟩, trivial⟩, ⟨rfl, rfl⟩, rfl, ⟨rfl, rfl⟩, rfl, rfl, rfl, rfl, rfl, trivial⟩
          · replace h := iteF h g312
            conv => whnf
            exact CutK.piece (laws_FnLimits_p8_ct  h) [some 320, some 448, some 1099000, some 1099001] [] ⟨⟨rfl, rfl⟩, ⟨rfl, ⟨rfl, ⟨rfl, rfl⟩, trivial⟩, ⟨rfl, ⟨rfl, rfl⟩, trivial⟩, ⟨rfl, rfl, rows_same⟩, ⟨rfl, rfl, rows_same⟩, trivial⟩, ⟨rfl, rfl⟩, rfl, ⟨rfl, rfl⟩, rfl, rfl, rfl, rfl, rfl, trivial⟩
        · replace h := iteF h g311
          conv => whnf
          refine spl (fun g313 => ?_) (fun g313 => ?_)
          · replace h := iteT h g313
            conv => whnf
            exact CutK.piece (laws_FnLimits_p8_ct  h) [some 320, some 448, some 1099000, some 1099001] [] ⟨⟨rfl, rfl⟩, ⟨rfl, ⟨rfl, ⟨rfl, rfl⟩, trivial⟩, ⟨rfl, ⟨rfl, rfl⟩, trivial⟩, ⟨rfl, rfl, rows_same⟩, ⟨rfl, rfl, rows_same⟩, trivial⟩, ⟨rfl, rfl⟩, rfl, ⟨rfl, rfl⟩, rfl, rfl, rfl, rfl, rfl, trivial⟩
          · replace h := iteF h g313
            conv => whnf
            exact CutK.piece (laws_FnLimits_p8_ct  h) [some 320, some 448, some 1099000, some 1099001] [] ⟨⟨rfl, rfl⟩, ⟨rfl, ⟨rfl, ⟨rfl, rfl⟩, trivial⟩, ⟨rfl, ⟨rfl, rfl⟩, trivial⟩, ⟨rfl, rfl, rows_same⟩, ⟨rfl, rfl, rows_same⟩, trivial⟩, ⟨rfl, rfl⟩, rfl, ⟨rfl, rfl⟩, rfl, rfl, rfl, rfl, rfl, trivial⟩
      · replace h := condT h
        conv => whnf
        refine Take.all (rfl) ?_
        conv => whnf
        obtain ⟨y314, e315, h⟩ := bind_ex h
        refine CallOk.of (spec_IsLimit_ct e315) ?_
        conv => whnf
        refine spl (fun g316 => ?_) (fun g316 => ?_)
        · replace h := iteT h g316
          conv => whnf
          refine spl (fun g317 => ?_) (fun g317 => ?_)
          · replace h := iteT h g317
            conv => whnf
            exact CutK.piece (laws_FnLimits_p8_ct  h) [some 320, some 448, some 1099000, some 1099001] [] ⟨⟨rfl, rfl⟩, ⟨rfl, ⟨rfl, ⟨rfl, rfl⟩, trivial⟩, ⟨rfl, ⟨rfl, rfl⟩, trivial⟩, ⟨rfl, rfl, rows_same⟩, ⟨rfl, rfl, rows_same⟩, trivial⟩, ⟨rfl, rfl⟩, rfl, ⟨rfl, rfl⟩, rfl, rfl, rfl, rfl, rfl, trivial⟩
          · replace h := iteF h g317
            conv => whnf
            exact CutK.piece (laws_FnLimits_p8_ct  h) [some 320, some 448, some 1099000, some 1099001] [] ⟨⟨rfl, rfl⟩, ⟨rfl, ⟨rfl, ⟨rfl, rfl⟩, trivial⟩, ⟨rfl, ⟨rfl, rfl⟩, trivial⟩, ⟨rfl, rfl, rows_same⟩, ⟨rfl, rfl, rows_same⟩, trivial⟩, ⟨rfl, rfl⟩, rfl, ⟨rfl, rfl⟩, rfl, rfl, rfl, rfl, rfl, trivial⟩
        · replace h := iteF h g316
          conv => whnf
          refine spl (fun g318 => ?_) (fun g318 => ?_)
          · replace h := iteT h g318
            conv => whnf
            exact CutK.piece (laws_FnLimits_p8_ct  h) [some 320, some 448, some 1099000, some 1099001] [] ⟨⟨rfl, rfl⟩, ⟨rfl, ⟨rfl, ⟨rfl, rfl⟩, trivial⟩, ⟨rfl, ⟨rfl, rfl⟩, trivial⟩, ⟨rfl, rfl, rows_same⟩, ⟨rfl, rfl, rows_same⟩, trivial⟩, ⟨rfl, rfl⟩, rfl, ⟨rfl, rfl⟩, rfl, rfl, rfl, rfl, rfl, trivial⟩
          · replace h := iteF h g318
            conv => whnf
            exact CutK.piece (laws_FnLimits_p8_ct  h) [some 320, some 448, some 1099000, some 1099001] [] ⟨⟨rfl, rfl⟩, ⟨rfl, ⟨rfl, ⟨rfl, rfl⟩, trivial⟩, ⟨rfl, ⟨rfl, rfl⟩, trivial⟩, ⟨rfl, rfl, rows_same⟩, ⟨rfl, rfl, rows_same⟩, trivial⟩, ⟨rfl, rfl⟩, rfl, ⟨rfl, rfl⟩, rfl, rfl, rfl, rfl, rfl, trivial⟩
  · replace h := condT h
    cases v48
    · replace h := condF h
      cases v53
      · replace h := condF h
        conv => whnf
        refine Take.all (rfl) ?_
        conv => whnf
        obtain ⟨y319, e320, h⟩ := bind_ex h
        refine CallOk.of (spec_IsLimit_ct e320) ?_
        conv => whnf
        refine spl (fun g321 => ?_) (fun g321 => ?_)
        · replace h := iteT h g321
          conv => whnf
          refine spl (fun g322 => ?_) (fun g322 => ?_)
          · replace h := iteT h g322
            conv => whnf
            exact CutK.piece (laws_FnLimits_p8_ct  h) [some 320, some 448, some 1099000, some 1099001] [] ⟨⟨rfl, rfl⟩, ⟨rfl, ⟨rfl, ⟨rfl, rfl⟩, trivial⟩, ⟨rfl, ⟨rfl, rfl⟩, trivial⟩, ⟨rfl, rfl, rows_same⟩, ⟨rfl, rfl, rows_same⟩, trivial⟩, ⟨rfl, rfl⟩, rfl, ⟨rfl, rfl⟩, rfl, rfl, rfl, rfl, rfl, trivial⟩
          · replace h := iteF h g322
            conv => whnf
            exact CutK.piece (laws_FnLimits_p8_ct  h) [some 320, some 448, some 1099000, some 1099001] [] ⟨⟨rfl, rfl⟩, ⟨rfl, ⟨rfl, ⟨rfl, rfl⟩, trivial⟩, ⟨rfl, ⟨rfl, rfl⟩, trivial⟩, ⟨rfl, rfl, rows_same⟩, ⟨rfl, rfl, rows_same⟩, trivial⟩, ⟨rfl, rfl⟩, rfl, ⟨rfl, rfl⟩, rfl, rfl, rfl, rfl, rfl, trivial⟩
        · replace h := iteF h g321
          conv => whnf
          refine spl (fun g323 => ?_) (fun g323 => ?_)
          · replace h := iteT h g323
            conv => whnf
            exact CutK.piece (laws_FnLimits_p8_ct  h) [some 320, some 448, some 1099000, some 1099001] [] ⟨⟨rfl, rfl⟩, ⟨rfl, ⟨rfl, ⟨rfl, rfl⟩, trivial⟩, ⟨rfl, ⟨rfl, rfl⟩, trivial⟩, ⟨rfl, rfl, rows_same⟩, ⟨rfl, rfl, rows_same⟩, trivial⟩, ⟨rfl, rfl⟩, rfl, ⟨rfl, rfl⟩, rfl, rfl, rfl, rfl, rfl, trivial⟩
          · replace h := iteF h g323
            conv => whnf
            exact CutK.piece (laws_FnLimits_p8_ct  h) [some 320, some 448, some 1099000, some 1099001] [] ⟨⟨rfl, rfl⟩, ⟨rfl, ⟨rfl, ⟨rfl, rfl⟩, trivial⟩, ⟨rfl, ⟨rfl, rfl⟩, trivial⟩, ⟨rfl, rfl, rows_same⟩, ⟨rfl, rfl, rows_same⟩, trivial⟩, ⟨rfl, rfl⟩, rfl, ⟨rfl, rfl⟩, rfl, rfl, rfl, rfl, rfl, trivial⟩
      · replace h := condT h
        conv => whnf
        refine Take.all (rfl) ?_
        conv => whnf
        obtain ⟨y324, e325, h⟩ := bind_ex h
        refine CallOk.of (spec_IsLimit_ct e325) ?_
        conv => whnf
        refine spl (fun g326 => ?_) (fun g326 => ?_)
        · replace h := iteT h g326
          conv => whnf
          refine spl (fun g327 => ?_) (fun g327 => ?_)
          · replace h := iteT h g327
            conv => whnf
            exact CutK.piece (laws_FnLimits_p8_ct  h) [some 320, some 448, some 1099000, some 1099001] [] ⟨⟨rfl, rfl⟩, ⟨rfl, ⟨rfl, ⟨rfl, rfl⟩, trivial⟩, ⟨rfl, ⟨rfl, rfl⟩, trivial⟩, ⟨rfl, rfl, rows_same⟩, ⟨rfl, rfl, rows_same⟩, trivial⟩, ⟨rfl, rfl⟩, rfl, ⟨rfl, rfl⟩, rfl, rfl, rfl, rfl, rfl, trivial⟩
          · replace h := iteF h g327
            conv => whnf
            exact CutK.piece (laws_FnLimits_p8_ct  h) [some 320, some 448, some 1099000, some 1099001] [] ⟨⟨rfl, rfl⟩, ⟨rfl, ⟨rfl, ⟨rfl, rfl⟩, trivial⟩, ⟨rfl, ⟨rfl, rfl⟩, trivial⟩, ⟨rfl, rfl, rows_same⟩, ⟨rfl, rfl, rows_same⟩, trivial⟩, ⟨rfl, rfl⟩, rfl, ⟨rfl, rfl⟩, rfl, rfl, rfl, rfl, rfl, trivial⟩
        · replace h := iteF h g326
          conv => whnf
          refine spl (fun g328 => ?_) (fun g328 => ?_)
          · replace h := iteT h g328
            conv => whnf
            exact CutK.piece (laws_FnLimits_p8_ct  h) [some 320, some 448, some 1099000, some 1099001] [] ⟨⟨rfl, rfl⟩, ⟨rfl, ⟨rfl, ⟨rfl, rfl⟩, trivial⟩, ⟨rfl, ⟨rfl, rfl⟩, trivial⟩, ⟨rfl, rfl, rows_same⟩, ⟨rfl, rfl, rows_same⟩, trivial⟩, ⟨rfl, rfl⟩, rfl, ⟨rfl, rfl⟩, rfl, rfl, rfl, rfl, rfl, trivial⟩
          · replace h := iteF h g328
            conv => whnf
            exact CutK.piece (laws_FnLimits_p8_ct  h) [some 320, some 448, some 1099000, some 1099001] [] ⟨⟨rfl, rfl⟩, ⟨rfl, ⟨rfl, ⟨rfl, rfl⟩, trivial⟩, ⟨rfl, ⟨rfl, rfl⟩, trivial⟩, ⟨rfl, rfl, rows_same⟩, ⟨rfl, rfl, rows_same⟩, trivial⟩, ⟨rfl, rfl⟩, rfl, ⟨rfl, rfl⟩, rfl, rfl, rfl, rfl, rfl, trivial⟩
    · replace h := condT h
      cases v53
      · replace h := condF h
        conv => whnf
        refine Take.all (rfl) ?_
        conv => whnf
        obtain ⟨y329, e330, h⟩ := bind_ex h
        refine CallOk.of (spec_IsLimit_ct e330) ?_
        conv => whnf
        refine spl (fun g331 => ?_) (fun g331 => ?_)
        · replace h := iteT h g331
          conv => whnf
          refine spl (fun g332 => ?_) (fun g332 => ?_)
          · replace h := iteT h g332
            conv => whnf
            exact CutK.piece (laws_FnLimits_p8_ct  h) [some 320, some 448, some 1099000, some 1099001] [] ⟨⟨rfl, rfl⟩, ⟨rfl, ⟨rfl, ⟨rfl, rfl⟩, trivial⟩, ⟨rfl, ⟨rfl, rfl⟩, trivial⟩, ⟨rfl, rfl, rows_same⟩, ⟨rfl, rfl, rows_same⟩, trivial⟩, ⟨rfl, rfl⟩, rfl, ⟨rfl, rfl⟩, rfl, rfl, rfl, rfl, rfl, trivial⟩
          · replace h := iteF h g332
            conv => whnf
            exact CutK.piece (laws_FnLimits_p8_ct  h) [some 320, some 448, some 1099000, some 1099001] [] ⟨⟨rfl, rfl⟩, ⟨rfl, ⟨rfl, ⟨rfl, rfl⟩, trivial⟩, ⟨rfl, ⟨rfl, rfl⟩, trivial⟩, ⟨rfl, rfl, rows_same⟩, ⟨rfl, rfl, rows_same⟩, trivial⟩, ⟨rfl, rfl⟩, rfl, ⟨rfl, rfl⟩, rfl, rfl, rfl, rfl, rfl, trivial⟩
        · replace h := iteF h g331
          conv => whnf
          refine spl (fun g333 => ?_) (fun g333 => ?_)
          · replace h := iteT h g333
            conv => whnf
            exact CutK.piece (laws_FnLimits_p8_ct  h) [some 320, some 448, some 1099000, some 1099001] [] ⟨⟨rfl, rfl⟩, ⟨rfl, ⟨rfl, ⟨rfl, rfl⟩, trivial⟩, ⟨rfl, ⟨rfl, rfl⟩, trivial⟩, ⟨rfl, rfl, rows_same⟩, ⟨rfl, rfl, rows_same⟩, trivial⟩, ⟨rfl, rfl⟩, rfl, ⟨rfl, rfl⟩, rfl, rfl, rfl, rfl, rfl, trivial⟩
          · replace h := iteF h g333
            conv => whnf
            exact CutK.piece (laws_FnLimits_p8_ct  h) [some 320, some 448, some 1099000, some 1099001] [] ⟨⟨rfl, rfl⟩, ⟨rfl, ⟨rfl, ⟨rfl, rfl⟩, trivial⟩, ⟨rfl, ⟨rfl, rfl⟩, trivial⟩, ⟨rfl, rfl, rows_same⟩, ⟨rfl, rfl, rows_same⟩, trivial⟩, ⟨rfl, rfl⟩, rfl, ⟨rfl, rfl⟩, rfl, rfl, rfl, rfl, rfl, trivial⟩
      · replace h := condT h
        conv => whnf
        refine Take.all (rfl) ?_
        conv => whnf
        obtain ⟨y334, e335, h⟩ := bind_ex h
        refine CallOk.of (spec_IsLimit_ct e335) ?_
        conv => whnf
        refine spl (fun g336 => ?_) (fun g336 => ?_)
        · replace h := iteT h g336
          conv => whnf
          refine spl (fun g337 => ?_) (fun g337 => ?_)
          · replace h := iteT h g337
            conv => whnf
            exact CutK.piece (laws_FnLimits_p8_ct  h) [some 320, some 448, some 1099000, some 1099001] [] ⟨⟨rfl, rfl⟩, ⟨rfl, ⟨rfl, ⟨rfl, rfl⟩, trivial⟩, ⟨rfl, ⟨rfl, rfl⟩, trivial⟩, ⟨rfl, rfl, rows_same⟩, ⟨rfl, rfl, rows_same⟩, trivial⟩, ⟨rfl, rfl⟩, rfl, ⟨rfl, rfl⟩, rfl, rfl, rfl, rfl, rfl, trivial⟩
          · replace h := iteF h g337
            conv => whnf
            exact CutK.piece (laws_FnLimits_p8_ct  h) [some 320, some 448, some 1099000, some 1099001] [] ⟨⟨rfl, rfl⟩, ⟨rfl, ⟨rfl, ⟨rfl, rfl⟩, trivial⟩, ⟨rfl, ⟨rfl, rfl⟩, trivial⟩, ⟨rfl, rfl, rows_same⟩, ⟨rfl, rfl, rows_same⟩, trivial⟩, ⟨rfl, rfl⟩, rfl, ⟨rfl, rfl⟩, rfl, rfl, rfl, rfl, rfl, trivial⟩
        · replace h := iteF h g336
          conv => whnf
          refine spl (fun g338 => ?_) (fun g338 => ?_)
          · replace h := iteT h g338
            conv => whnf
            exact CutK.piece (laws_FnLimits_p8_ct  h) [some 320, some 448, some 1099000, some 1099001] [] ⟨⟨rfl, rfl⟩, ⟨rfl, ⟨rfl, ⟨rfl, rfl⟩, trivial⟩, ⟨rfl, ⟨rfl, rfl⟩, trivial⟩, ⟨rfl, rfl, rows_same⟩, ⟨rfl, rfl, rows_same⟩, trivial⟩, ⟨rfl, rfl⟩, rfl, ⟨rfl, rfl⟩, rfl, rfl, rfl, rfl, rfl, trivial⟩
          · replace h := iteF h g338
            conv => whnf
            exact CutK.piece (laws_FnLimits_p8_ct  h) [some 320, some 448, some 1099000, some 1099001] [] ⟨⟨rfl, rfl⟩, ⟨rfl, ⟨rfl, ⟨rfl, rfl⟩, trivial⟩, ⟨rfl, ⟨rfl, rfl⟩, trivial⟩, ⟨rfl, rfl, rows_same⟩, ⟨rfl, rfl, rows_same⟩, trivial⟩, ⟨rfl, rfl⟩, rfl, ⟨rfl, rfl⟩, rfl, rfl, rfl, rfl, rfl, trivial⟩
def laws_FnLimits_p6 (k : Nat) (o32 : Int) (o33 : Rw) (o34 : Rw) (v38 : Bool) : Option Bool :=
  (cond v38 ((impl_IsLimit k o33).bind fun y344 => (if y344.1 = true then (if y344.2 = true then (laws_FnLimits_p7 k o32 o33 o34 true true true) else (laws_FnLimits_p7 k o32 o33 o34 false true true)) else (if y344.2 = true then (laws_FnLimits_p7 k o32 o33 o34 true false true) else (laws_FnLimits_p7 k o32 o33 o34 false false true)))) ((impl_IsLimit k o33).bind fun y339 => (if y339.1 = true then (if y339.2 = true then (laws_FnLimits_p7 k o32 o33 o34 true true false) else (laws_FnLimits_p7 k o32 o33 o34 false true false)) else (if y339.2 = true then (laws_FnLimits_p7 k o32 o33 o34 true false false) else (laws_FnLimits_p7 k o32 o33 o34 false false false)))))
set_option maxHeartbeats 4000000 in
set_option maxRecDepth 100000 in
theorem laws_FnLimits_p6_ct {k : Nat} {o32 : Int} {o33 : Rw} {o34 : Rw} {v38 : Bool} {r : Bool} (h : laws_FnLimits_p6 k o32 o33 o34 v38 = some r) : X prog 0 (tlF f7 6) (mk 153 [(5, .ptr 320 0), (6, .d (D.int .i64 o32)), (7, .ptr 448 0), (8, .d (D.bool v38))] [(320, .box 26 [.os 1094000 o33.length]), (448, .box 26 [.os 1094001 o34.length]), (1094000, .arr 98 false o33), (1094001, .arr 98 true o34)]) (finK prog f7 0 (.d (D.bool r)) (⟨[], []⟩)) := by
  rw [laws_FnLimits_p6] at h
  cases v38
  · replace h := condF h
    conv => whnf
    refine Take.all (rfl) ?_
    conv => whnf
    obtain ⟨y339, e340, h⟩ := bind_ex h
    refine CallOk.of (impl_IsLimit_ct e340) ?_
    conv => whnf
    refine spl (fun g341 => ?_) (fun g341 => ?_)
    · replace h := iteT h g341
      conv => whnf
      refine spl (fun g342 => ?_) (fun g342 => ?_)
      · replace h := iteT h g342
        conv => whnf
        exact CutK.piece (laws_FnLimits_p7_ct  h) [some 320, some 448, some 1094000, some 1094001] [] ⟨⟨rfl, rfl⟩, ⟨rfl, ⟨rfl, ⟨rfl, rfl⟩, trivial⟩, ⟨rfl, ⟨rfl, rfl⟩, trivial⟩, ⟨rfl, rfl, rows_same⟩, ⟨rfl, rfl, rows_same⟩, trivial⟩, ⟨rfl, rfl⟩, rfl, ⟨rfl, rfl⟩, rfl, rfl, rfl, trivial⟩
      · replace h := iteF h g342
        conv => whnf
        exact CutK.piece (laws_FnLimits_p7_ct  h) [some 320, some 448, some 1094000, some 1094001] [] ⟨⟨rfl, rfl⟩, ⟨rfl, ⟨rfl, ⟨rfl, rfl⟩, trivial⟩, ⟨rfl, ⟨rfl, rfl⟩, trivial⟩, ⟨rfl, rfl, rows_same⟩, ⟨rfl, rfl, rows_same⟩, trivial⟩, ⟨rfl, rfl⟩, rfl, ⟨rfl, rfl⟩, rfl, rfl, rfl, trivial⟩
    · replace h := iteF h g341
      conv => whnf
      refine spl (fun g343 => ?_) (fun g343 => ?_)
      · replace h := iteT h g343
        conv => whnf
        exact CutK.piece (laws_FnLimits_p7_ct  h) [some 320, some 448, some 1094000, some 1094001] [] ⟨⟨rfl, rfl⟩, ⟨rfl, ⟨rfl, ⟨rfl, rfl⟩, trivial⟩, ⟨rfl, ⟨rfl, rfl⟩, trivial⟩, ⟨rfl, rfl, rows_same⟩, ⟨rfl, rfl, rows_same⟩, trivial⟩, ⟨rfl, rfl⟩, rfl, ⟨rfl, rfl⟩, rfl, rfl, rfl, trivial⟩
      · replace h := iteF h g343
        conv => whnf
        exact CutK.piece (laws_FnLimits_p7_ct  h) [some 320, some 448, some 1094000, some 1094001] [] ⟨⟨rfl, rfl⟩, ⟨rfl, ⟨rfl, ⟨rfl, rfl⟩, trivial⟩, ⟨rfl, ⟨rfl, rfl⟩, trivial⟩, ⟨rfl, rfl, rows_same⟩, ⟨rfl, rfl, rows_same⟩, trivial⟩, ⟨rfl, rfl⟩, rfl, ⟨rfl, rfl⟩, rfl, rfl, rfl, trivial⟩
  · replace h := condT h
    conv => whnf
    refine Take.all (rfl) ?_
    conv => whnf
    obtain ⟨y344, e345, h⟩ := bind_ex h
    refine CallOk.of (impl_IsLimit_ct e345) ?_
    conv => whnf
    refine spl (fun g346 => ?_) (fun g346 => ?_)
    · replace h := iteT h g346
      conv => whnf
      refine spl (fun g347 => ?_) (fun g347 => ?_)
      · replace h := iteT h g347
        conv => whnf
        exact CutK.piece (laws_FnLimits_p7_ct  h) [some 320, some 448, some 1094000, some 1094001] [] ⟨⟨rfl, rfl⟩, ⟨rfl, ⟨rfl, ⟨rfl, rfl⟩, trivial⟩, ⟨rfl, ⟨rfl, rfl⟩, trivial⟩, ⟨rfl, rfl, rows_same⟩, ⟨rfl, rfl, rows_same⟩, trivial⟩, ⟨rfl, rfl⟩, rfl, ⟨rfl, rfl⟩, rfl, rfl, rfl, trivial⟩
      · replace h := iteF h g347
        conv => whnf
        exact CutK.piece (laws_FnLimits_p7_ct  h) [some 320, some 448, some 1094000, some 1094001] [] ⟨⟨rfl, rfl⟩, ⟨rfl, ⟨rfl, ⟨rfl, rfl⟩, trivial⟩, ⟨rfl, ⟨rfl, rfl⟩, trivial⟩, ⟨rfl, rfl, rows_same⟩, ⟨rfl, rfl, rows_same⟩, trivial⟩, ⟨rfl, rfl⟩, rfl, ⟨rfl, rfl⟩, rfl, rfl, rfl, trivial⟩
    · replace h := iteF h g346
      conv => whnf
      refine spl (fun g348 => ?_) (fun g348 => ?_)
      · replace h := iteT h g348
        conv => whnf
        exact CutK.piece (laws_FnLimits_p7_ct  h) [some 320, some 448, some 1094000, some 1094001] [] ⟨⟨rfl, rfl⟩, ⟨rfl, ⟨rfl, ⟨rfl, rfl⟩, trivial⟩, ⟨rfl, ⟨rfl, rfl⟩, trivial⟩, ⟨rfl, rfl, rows_same⟩, ⟨rfl, rfl, rows_same⟩, trivial⟩, ⟨rfl, rfl⟩, rfl, ⟨rfl, rfl⟩, rfl, rfl, rfl, trivial⟩
      · replace h := iteF h g348
        conv => whnf
        exact CutK.piece (laws_FnLimits_p7_ct  h) [some 320, some 448, some 1094000, some 1094001] [] ⟨⟨rfl, rfl⟩, ⟨rfl, ⟨rfl, ⟨rfl, rfl⟩, trivial⟩, ⟨rfl, ⟨rfl, rfl⟩, trivial⟩, ⟨rfl, rfl, rows_same⟩, ⟨rfl, rfl, rows_same⟩, trivial⟩, ⟨rfl, rfl⟩, rfl, ⟨rfl, rfl⟩, rfl, rfl, rfl, trivial⟩
def laws_FnLimits_p5 (k : Nat) (o20 : Int) (o21 : Rw) (o22 : Rw) (o23 : Rw) (v24 : Bool) (v28 : Bool) : Option Bool :=
  (cond v24 (cond v28 ((laws_sameOrdinal k o22 o23).bind fun y352 => (if y352 = true then (laws_FnLimits_p6 k o20 o21 o22 true) else some false)) (some false)) (cond v28 (some false) ((laws_sameOrdinal k o22 o23).bind fun y349 => (if y349 = true then (laws_FnLimits_p6 k o20 o21 o22 false) else some false))))
set_option maxHeartbeats 4000000 in
set_option maxRecDepth 100000 in
theorem laws_FnLimits_p5_ct {k : Nat} {o20 : Int} {o21 : Rw} {o22 : Rw} {o23 : Rw} {v24 : Bool} {v28 : Bool} {r : Bool} (h : laws_FnLimits_p5 k o20 o21 o22 o23 v24 v28 = some r) : X prog 0 (tlF f7 5) (mk 153 [(5, .ptr 320 0), (6, .d (D.int .i64 o20)), (7, .ptr 448 0), (8, .d (D.bool v28)), (9, .ptr 576 0), (10, .d (D.bool v24))] [(320, .box 26 [.os 1089000 o21.length]), (448, .box 26 [.os 1089001 o22.length]), (576, .box 26 [.os 1089002 o23.length]), (1089000, .arr 98 false o21), (1089001, .arr 98 true o22), (1089002, .arr 98 true o23)]) (finK prog f7 0 (.d (D.bool r)) (⟨[], []⟩)) := by
  rw [laws_FnLimits_p5] at h
  cases v24
  · replace h := condF h
    cases v28
    · replace h := condF h
      conv => whnf
      refine splF ?_
      conv => whnf
      refine Take.all (rfl) ?_
      conv => whnf
      refine Take.all (rfl) ?_
      conv => whnf
      obtain ⟨y349, e350, h⟩ := bind_ex h
      refine CallOk.of (laws_sameOrdinal_ct e350) ?_
      conv => whnf
      refine spl (fun g351 => ?_) (fun g351 => ?_)
      · replace h := iteT h g351
        conv => whnf
        refine CutK.norm [5, 6, 7, 8, 57] [320, 448, 1089000, 1089001] ?_
        conv => whnf
        exact CutK.piece (laws_FnLimits_p6_ct  h) [some 320, some 448, some 1089000, some 1089001] [] ⟨⟨rfl, rfl⟩, ⟨rfl, ⟨rfl, ⟨rfl, rfl⟩, trivial⟩, ⟨rfl, ⟨rfl, rfl⟩, trivial⟩, ⟨rfl, rfl, rows_same⟩, ⟨rfl, rfl, rows_same⟩, trivial⟩, ⟨rfl, rfl⟩, rfl, ⟨rfl, rfl⟩, rfl, trivial⟩
      · replace h := iteF h g351
        conv => whnf
        refine CutK.norm [5, 6, 7, 8, 57] [320, 448, 1089000, 1089001] ?_
        conv => whnf
        cases h
        exact Done.of [] [] rfl rfl ⟨⟨rfl, rfl⟩, ⟨rfl, trivial⟩, rfl, trivial⟩
    · replace h := condT h
      conv => whnf
      refine splT ?_
      conv => whnf
      refine CutK.norm [5, 6, 7, 8, 57] [320, 448, 1089000, 1089001] ?_
      conv => whnf
      cases h
      exact Done.of [] [] rfl rfl ⟨⟨rfl, rfl⟩, ⟨rfl, trivial⟩, rfl, trivial⟩
  · replace h := condT h
    cases v28
    · replace h := condF h
      conv => whnf
      refine splT ?_
      conv => whnf
      refine CutK.norm [5, 6, 7, 8, 57] [320, 448, 1089000, 1089001] ?_
      conv => whnf
      cases h
      exact Done.of [] [] rfl rfl ⟨⟨rfl, rfl⟩, ⟨rfl, trivial⟩, rfl, trivial⟩
    · replace h := condT h
      conv => whnf
      refine splF ?_
      conv => whnf
      refine Take.all (rfl) ?_
      conv => whnf
      refine Take.all (rfl) ?_
      conv => whnf
      obtain ⟨y352, e353, h⟩ := bind_ex h
      refine CallOk.of (laws_sameOrdinal_ct e353) ?_
      conv => whnf
      refine spl (fun g354 => ?_) (fun g354 => ?_)
      · replace h := iteT h g354
        conv => whnf
        refine CutK.norm [5, 6, 7, 8, 57] [320, 448, 1089000, 1089001] ?_
        conv => whnf
        exact CutK.piece (laws_FnLimits_p6_ct  h) [some 320, some 448, some 1089000, some 1089001] [] ⟨⟨rfl, rfl⟩, ⟨rfl, ⟨rfl, ⟨rfl, rfl⟩, trivial⟩, ⟨rfl, ⟨rfl, rfl⟩, trivial⟩, ⟨rfl, rfl, rows_same⟩, ⟨rfl, rfl, rows_same⟩, trivial⟩, ⟨rfl, rfl⟩, rfl, ⟨rfl, rfl⟩, rfl, trivial⟩
      · replace h := iteF h g354
        conv => whnf
        refine CutK.norm [5, 6, 7, 8, 57] [320, 448, 1089000, 1089001] ?_
        conv => whnf
        cases h
        exact Done.of [] [] rfl rfl ⟨⟨rfl, rfl⟩, ⟨rfl, trivial⟩, rfl, trivial⟩
def laws_FnLimits_p4 (k : Nat) (o13 : Int) (o14 : Rw) (o15 : Rw) (v16 : Bool) : Option Bool :=
  (cond v16 ((spec_FundamentalAt k o14 o13).bind fun y358 => (if y358.2 = true then (laws_FnLimits_p5 k o13 o14 o15 y358.1 true true) else (laws_FnLimits_p5 k o13 o14 o15 y358.1 false true))) ((spec_FundamentalAt k o14 o13).bind fun y355 => (if y355.2 = true then (laws_FnLimits_p5 k o13 o14 o15 y355.1 true false) else (laws_FnLimits_p5 k o13 o14 o15 y355.1 false false))))
set_option maxHeartbeats 4000000 in
set_option maxRecDepth 100000 in
theorem laws_FnLimits_p4_ct {k : Nat} {o13 : Int} {o14 : Rw} {o15 : Rw} {v16 : Bool} {r : Bool} (h : laws_FnLimits_p4 k o13 o14 o15 v16 = some r) : X prog 0 (tlF f7 4) (mk 153 [(5, .ptr 320 0), (6, .d (D.int .i64 o13)), (7, .ptr 448 0), (8, .d (D.bool v16))] [(320, .box 26 [.os 1084000 o14.length]), (448, .box 26 [.os 1084001 o15.length]), (1084000, .arr 98 false o14), (1084001, .arr 98 true o15)]) (finK prog f7 0 (.d (D.bool r)) (⟨[], []⟩)) := by
  rw [laws_FnLimits_p4] at h
  cases v16
  · replace h := condF h
    conv => whnf
    refine Take.all (rfl) ?_
    conv => whnf
    obtain ⟨y355, e356, h⟩ := bind_ex h
    refine CallOk.of (spec_FundamentalAt_ct e356) ?_
    conv => whnf
    refine spl (fun g357 => ?_) (fun g357 => ?_)
    · replace h := iteT h g357
      conv => whnf
      exact CutK.piece (laws_FnLimits_p5_ct  h) [some 320, some 448, some 576, some 1084000, some 1084001, some 2944] [] ⟨⟨rfl, rfl⟩, ⟨rfl, ⟨rfl, ⟨rfl, rfl⟩, trivial⟩, ⟨rfl, ⟨rfl, rfl⟩, trivial⟩, ⟨rfl, ⟨rfl, rfl⟩, trivial⟩, ⟨rfl, rfl, rows_same⟩, ⟨rfl, rfl, rows_same⟩, ⟨rfl, rfl, rows_same⟩, trivial⟩, ⟨rfl, rfl⟩, rfl, ⟨rfl, rfl⟩, rfl, ⟨rfl, rfl⟩, rfl, trivial⟩
    · replace h := iteF h g357
      conv => whnf
      exact CutK.piece (laws_FnLimits_p5_ct  h) [some 320, some 448, some 576, some 1084000, some 1084001, some 2944] [] ⟨⟨rfl, rfl⟩, ⟨rfl, ⟨rfl, ⟨rfl, rfl⟩, trivial⟩, ⟨rfl, ⟨rfl, rfl⟩, trivial⟩, ⟨rfl, ⟨rfl, rfl⟩, trivial⟩, ⟨rfl, rfl, rows_same⟩, ⟨rfl, rfl, rows_same⟩, ⟨rfl, rfl, rows_same⟩, trivial⟩, ⟨rfl, rfl⟩, rfl, ⟨rfl, rfl⟩, rfl, ⟨rfl, rfl⟩, rfl, trivial⟩
  · replace h := condT h
    conv => whnf
    refine Take.all (rfl) ?_
    conv => whnf
    obtain ⟨y358, e359, h⟩ := bind_ex h
    refine CallOk.of (spec_FundamentalAt_ct e359) ?_
    conv => whnf
    refine spl (fun g360 => ?_) (fun g360 => ?_)
    · replace h := iteT h g360
      conv => whnf
      exact CutK.piece (laws_FnLimits_p5_ct  h) [some 320, some 448, some 576, some 1084000, some 1084001, some 2944] [] ⟨⟨rfl, rfl⟩, ⟨rfl, ⟨rfl, ⟨rfl, rfl⟩, trivial⟩, ⟨rfl, ⟨rfl, rfl⟩, trivial⟩, ⟨rfl, ⟨rfl, rfl⟩, trivial⟩, ⟨rfl, rfl, rows_same⟩, ⟨rfl, rfl, rows_same⟩, ⟨rfl, rfl, rows_same⟩, trivial⟩, ⟨rfl, rfl⟩, rfl, ⟨rfl, rfl⟩, rfl, ⟨rfl, rfl⟩, rfl, trivial⟩
    · replace h := iteF h g360
      conv => whnf
      exact CutK.piece (laws_FnLimits_p5_ct  h) [some 320, some 448, some 576, some 1084000, some 1084001, some 2944] [] ⟨⟨rfl, rfl⟩, ⟨rfl, ⟨rfl, ⟨rfl, rfl⟩, trivial⟩, ⟨rfl, ⟨rfl, rfl⟩, trivial⟩, ⟨rfl, ⟨rfl, rfl⟩, trivial⟩, ⟨rfl, rfl, rows_same⟩, ⟨rfl, rfl, rows_same⟩, ⟨rfl, rfl, rows_same⟩, trivial⟩, ⟨rfl, rfl⟩, rfl, ⟨rfl, rfl⟩, rfl, ⟨rfl, rfl⟩, rfl, trivial⟩
def laws_FnLimits_p3 (k : Nat) (o8 : Int) (o9 : Rw) : Option Bool :=
  ((impl_FundamentalAt k o9 o8).bind fun y361 => (if y361.2 = true then (laws_FnLimits_p4 k o8 o9 y361.1 true) else (laws_FnLimits_p4 k o8 o9 y361.1 false)))
set_option maxHeartbeats 4000000 in
set_option maxRecDepth 100000 in
theorem laws_FnLimits_p3_ct {k : Nat} {o8 : Int} {o9 : Rw} {r : Bool} (h : laws_FnLimits_p3 k o8 o9 = some r) : X prog 0 (tlF f7 3) (mk 153 [(5, .ptr 320 0), (6, .d (D.int .i64 o8))] [(320, .box 26 [.os 1079000 o9.length]), (1079000, .arr 98 false o9)]) (finK prog f7 0 (.d (D.bool r)) (⟨[], []⟩)) := by
  rw [laws_FnLimits_p3] at h
  conv => whnf
  refine Take.all (rfl) ?_
  conv => whnf
  obtain ⟨y361, e362, h⟩ := bind_ex h
  refine CallOk.of (impl_FundamentalAt_ct e362) ?_
  conv => whnf
  refine spl (fun g363 => ?_) (fun g363 => ?_)
  · replace h := iteT h g363
    conv => whnf
    exact CutK.piece (laws_FnLimits_p4_ct  h) [some 320, some 448, some 1079000, some 2560] [] ⟨⟨rfl, rfl⟩, ⟨rfl, ⟨rfl, ⟨rfl, rfl⟩, trivial⟩, ⟨rfl, ⟨rfl, rfl⟩, trivial⟩, ⟨rfl, rfl, rows_same⟩, ⟨rfl, rfl, rows_same⟩, trivial⟩, ⟨rfl, rfl⟩, rfl, ⟨rfl, rfl⟩, rfl, trivial⟩
  · replace h := iteF h g363
    conv => whnf
    exact CutK.piece (laws_FnLimits_p4_ct  h) [some 320, some 448, some 1079000, some 2560] [] ⟨⟨rfl, rfl⟩, ⟨rfl, ⟨rfl, ⟨rfl, rfl⟩, trivial⟩, ⟨rfl, ⟨rfl, rfl⟩, trivial⟩, ⟨rfl, rfl, rows_same⟩, ⟨rfl, rfl, rows_same⟩, trivial⟩, ⟨rfl, rfl⟩, rfl, ⟨rfl, rfl⟩, rfl, trivial⟩
def laws_FnLimits_p2 (k : Nat) (a1 : Rw) : Option Bool :=
  ((spec_DrawFundamentalAt k a1).bind fun y364 => (laws_FnLimits_p3 k y364.2 y364.1))
set_option maxHeartbeats 4000000 in
set_option maxRecDepth 100000 in
theorem laws_FnLimits_p2_ct {k : Nat} {a1 : Rw} {r : Bool} (h : laws_FnLimits_p2 k a1 = some r) : X prog 0 (tlF f7 2) (mk 153 [(0, .d (D.sl a1))] []) (finK prog f7 0 (.d (D.bool r)) (⟨[], []⟩)) := by
  rw [laws_FnLimits_p2] at h
  conv => whnf
  obtain ⟨y364, e365, h⟩ := bind_ex h
  refine CallOk.of (spec_DrawFundamentalAt_ct e365) ?_
  conv => whnf
  exact CutK.piece (laws_FnLimits_p3_ct  h) [some 320, some 2176] [] ⟨⟨rfl, rfl⟩, ⟨rfl, ⟨rfl, ⟨rfl, rfl⟩, trivial⟩, ⟨rfl, rfl, rows_same⟩, trivial⟩, ⟨rfl, rfl⟩, rfl, trivial⟩
def laws_FnLimits (k : Nat) (a1 : Rw) (a2 : Rw) : Option Bool :=
  ((laws_big a1 a2).bind fun y366 => (if y366 = true then some true else (laws_FnLimits_p2 k a1)))
set_option maxHeartbeats 4000000 in
set_option maxRecDepth 100000 in
theorem laws_FnLimits_ct {k : Nat} {a1 : Rw} {a2 : Rw} {r : Bool} (h : laws_FnLimits k a1 a2 = some r) : Ct prog 7 [.d (D.sl a1), .d (D.sl a2)] (⟨[], []⟩) (.d (D.bool r)) (⟨[], []⟩) := by
  rw [laws_FnLimits] at h
  refine Ct.of (c := _) mixed func7 ⟨rfl, rfl, rfl⟩ ?_ rfl
  conv => whnf
  obtain ⟨y366, e367, h⟩ := bind_ex h
  refine CallOk.of (laws_big_ct e367) ?_
  conv => whnf
  refine spl (fun g368 => ?_) (fun g368 => ?_)
  · replace h := iteT h g368
    conv => whnf
    refine CutK.norm [0, 31] [] ?_
    conv => whnf
    cases h
    exact Done.of [] [] rfl rfl ⟨⟨rfl, rfl⟩, ⟨rfl, trivial⟩, rfl, trivial⟩
  · replace h := iteF h g368
    conv => whnf
    refine CutK.norm [0, 31] [] ?_
    conv => whnf
    exact CutK.piece (laws_FnLimits_p2_ct  h) [] [] ⟨⟨rfl, rfl⟩, ⟨rfl, trivial⟩, rfl, trivial⟩
end
end Go.Proofs.Try
